/- What is proved here: contracts of the helpers of the references that look at names (Where, Name, Fresh). Conditions: slices and strings are of lengths that a machine can hold. -/
/- What is proved here: the contract of ear.Name. Condition: the string is of a length that a machine can hold. -/
/- What is proved here: a region that draws its order, or a piece of code, with a small post of its own: one frame, a word on the world. Over any program. -/
/- What is proved here: the contract of index of layer 1, and of what letters cannot be like, at a valid book. Conditions: the letters lie in memory. -/
/- What is proved here: the contracts of what letters cannot be like, at letters of which it is not so. Conditions: the letters lie in memory. -/
import Derived.Test.YtklconegomgjaaaGreatRef1AG
import Derived.Laws.RangeAny
import Derived.Test.YtklconegomgjaaaGreatChkG
import Derived.Deep.RegionHeld3
import Derived.Deep.RegionWith
import Derived.RangeFuncCalls
import Derived.Test.YtklconegomgjaaaGreatEaRepG
import Derived.Test.YtklconegomgjaaaGreatPnBaseG
import Derived.BigQuiet
import Derived.Deep.DeepCutAuto
import Derived.Shelf.RegionOpen
import Derived.Laws.EntriesVeiled
set_option linter.unusedVariables false
set_option linter.unusedSimpArgs false
namespace Go.Proofs.YtklconegomgjaaaGreat
open Go Go.RowKit Go.PlainAid

theorem where_drop (l : List ByteArray) (s : ByteArray) (k : Nat) (h : k < l.length) :
    whereFrom (l.drop k) s k = if l[k] = s then (k : Int) else whereFrom (l.drop (k+1)) s (k+1) := by
  rw [List.drop_eq_getElem_cons h, whereFrom]

set_option maxHeartbeats 800000 in
theorem Where_any (a : Option Addr) (l : List ByteArray) (c : Nat) (s : ByteArray) (w : World) (hl : l.length ≤ 9223372036854775807) (hi : StrsC w a l) :
    Calls Tryz.prog 114 #[.slice a l.length c, .string s] w fun e w' => e = .returned (.int .i64 (whereI l s)) ∧ w' = w := by
  obtain ⟨r, hr⟩ : ∃ r, r = whereI l s := ⟨_, rfl⟩
  rw [← hr]
  have Hr := Lib.hid hr
  clear hr
  go_enter Tryz.func114, Tryz.ntmps114
  go_wp2
  go_loop [5] (fun i => ∃ (k : Nat), k ≤ l.length ∧ i = .int .i64 k ∧ Hid (r = whereFrom (l.drop k) s k)) (fun i => l.length - (intOf i).toNat)
  case atStart => exact ⟨0, Nat.zero_le _, rfl, Lib.hid (by rw [Hr.out]; rfl)⟩
  case round =>
    obtain ⟨k, hk, rfl, HR⟩ := hrel
    by_cases hlt : k < l.length
    · obtain ⟨b, off, rfl, _, h1⟩ := hi k hlt
      have H := Lib.hid (where_drop l s k hlt)
      generalize l[k] = y at H h1
      have h0 : ((k : Int) == (l.length : Int)) = false := eqn_f (by omega)
      by_cases hy : y = s
      · have h2 := str_t hy
        have H := Lib.hid (H.out.trans (if_pos hy))
        clear hy
        go_wp2
        go_ret
        exact ⟨ret_int (by rw [HR.out, H.out]), rfl⟩
      · have h2 := str_f hy
        have H := Lib.hid (H.out.trans (if_neg hy))
        go_wp2
        go_round
        case rel => exact ⟨k+1, by omega, by go_num, Lib.hid (HR.out.trans H.out)⟩
        case measure => simp [intOf]; omega
    · have h0 : ((k : Int) == (l.length : Int)) = true := eqn_t (by omega)
      go_wp2
      go_ret
      exact ⟨ret_int (by rw [HR.out, List.drop_of_length_le (by omega)]; rfl), rfl⟩

theorem name_drop (s : ByteArray) (k : Nat) (h : k < s.size) :
    nameFrom k (s.data.toList.drop k) = ((low s[k] || (decide (0 < k) && late s[k])) && nameFrom (k+1) (s.data.toList.drop (k+1))) := by
  rw [List.drop_eq_getElem_cons (by simpa using h), nameFrom]
  rfl

theorem low_eq (c : UInt8) : low c = inB (c.toNat : Int) 97 122 := by simp only [low, inB]; congr 1 <;> simp <;> omega
theorem late_eq (c : UInt8) : late c = ((c.toNat : Int) == 46 || inB (c.toNat : Int) 48 57) := by
  simp only [late, inB]; congr 1
  · rw [Bool.eq_iff_iff]; simp; omega
  · congr 1 <;> simp <;> omega

set_option maxHeartbeats 1000000 in
theorem RefName_any (s : ByteArray) (w : World) (hs : s.size ≤ 9223372036854775807) :
    Calls Tryz.prog 115 #[.string s] w fun e w' => e = .returned (.bool (nameB s)) ∧ w' = w := by
  obtain ⟨r, hr⟩ : ∃ r, r = nameB s := ⟨_, rfl⟩
  rw [← hr]
  have Hr := Lib.hid hr
  clear hr
  have hb := get_bt s
  have C0 : Hid (∀ n w', Calls Tryz.prog 19 #[.int .i64 n, .int .i64 1, .int .i64 16] w' fun e w'' => e = .returned (.bool (inB n 1 16)) ∧ w'' = w') := fun n w' => In_any _ _ _ _
  have C1 : Hid (∀ n w', Calls Tryz.prog 19 #[.int .i64 n, .int .i64 48, .int .i64 57] w' fun e w'' => e = .returned (.bool (inB n 48 57)) ∧ w'' = w') := fun n w' => In_any _ _ _ _
  have C2 : Hid (∀ n w', Calls Tryz.prog 19 #[.int .i64 n, .int .i64 97, .int .i64 122] w' fun e w'' => e = .returned (.bool (inB n 97 122)) ∧ w'' = w') := fun n w' => In_any _ _ _ _
  go_enter Tryz.func115, Tryz.ntmps115
  go_wp2_with fail
  refine (C0.out _ _).mono ?_
  rintro e w' ⟨rfl, rfl⟩
  go_wp2_with fail
  go_loop [3, 4] (fun m i => ∃ (k : Nat) (f : Bool), k ≤ s.size ∧ i = .int .i64 k ∧ m = .bool f ∧ Hid (r = (f && nameFrom k (s.data.toList.drop k)))) (fun _ i => s.size - (intOf i).toNat)
  case atStart => exact ⟨0, _, Nat.zero_le _, rfl, rfl, Lib.hid (by rw [Hr.out]; unfold nameB; congr 1; simp [inB]; congr 1 <;> simp <;> omega)⟩
  case round =>
    obtain ⟨k, f, hk, rfl, rfl, HR⟩ := hrel
    by_cases hlt : k < s.size
    · have H := Lib.hid (name_drop s k hlt)
      have hbk := hb k hlt
      have b0 := bt_nonneg s k
      have b1 := bt_le s k
      have D1 := C1.out (bt s k)
      have D2 := C2.out (bt s k)
      have HL : Hid (low s[k] = inB (bt s k) 97 122) := by rw [← hbk]; exact low_eq _
      have HM : Hid (late s[k] = (bt s k == 46 || inB (bt s k) 48 57)) := by rw [← hbk]; exact late_eq _
      generalize inB (bt s k) 97 122 = cL at D2 HL
      generalize inB (bt s k) 48 57 = cM at D1 HM
      have D1 := Lib.hid D1
      have D2 := Lib.hid D2
      have hz : (0 < k) ∨ k = 0 := by omega
      clear hb
      by_cases h46 : bt s k = 46
      all_goals (first | have h46b := eqi_t h46 | have h46b := eqi_f h46)
      all_goals clear h46
      all_goals cases f
      all_goals cases cL
      all_goals rcases hz with hz | rfl
      all_goals
        go_wp2_with (go_at_call 19; first | ((with_reducible refine (D1.out _).mono ?_); rintro e w' ⟨rfl, rfl⟩) | ((with_reducible refine (D2.out _).mono ?_); rintro e w' ⟨rfl, rfl⟩))
      all_goals go_round
      all_goals try (simp [intOf]; omega; done)
      all_goals first | exact ⟨k+1, _, by omega, by go_num, rfl, Lib.hid (by rw [HR.out, H.out, HL.out, HM.out, h46b]; simp [hz])⟩ | exact ⟨1, _, by omega, by go_num, rfl, Lib.hid (by rw [HR.out, H.out, HL.out, HM.out, h46b]; simp)⟩
    · go_wp2
      go_ret
      exact ⟨ret_bool (by rw [HR.out, List.drop_of_length_le (by simp; omega)]; simp [nameFrom]), rfl⟩

theorem where_neg (l : List ByteArray) (s : ByteArray) (k : Nat) : (whereFrom l s k < 0 ↔ hasS l s = false) ∧ (0 ≤ whereFrom l s k ↔ hasS l s = true) := by
  induction l generalizing k with
  | nil => simp [whereFrom, hasS]
  | cons x xs ih =>
    have ih := ih (k+1)
    simp only [hasS] at ih
    rw [whereFrom, hasS, List.any_cons]
    by_cases h : x = s
    · rw [if_pos h]
      simp [h]
    · rw [if_neg h]
      simpa [h] using ih

set_option maxHeartbeats 1000000 in
theorem Fresh_any (s : ByteArray) (a : Option Addr) (l : List ByteArray) (c : Nat) (w : World) (hs : s.size ≤ 9223372036854775807) (hl : l.length ≤ 9223372036854775807) (hi : StrsC w a l) :
    Calls Tryz.prog 63 #[.string s, .slice a l.length c] w fun e w' => e = .returned (.int .i64 (fresh s l)) ∧ w' = w := by
  have D1 := RefName_any s w hs
  have hw := where_neg l s 0
  have D2 := Where_any a l c s w hl hi
  unfold whereI at D2
  have HF : Hid (fresh s l = if nameB s then (if hasS l s then 5 else 0) else 6) := rfl
  generalize fresh s l = r at HF ⊢
  generalize whereFrom l s 0 = x at hw D2
  generalize nameB s = b1 at D1 HF
  generalize hasS l s = b2 at hw HF
  have D1 := Lib.hid D1
  have D2 := Lib.hid D2
  obtain ⟨hw1, hw2⟩ := hw
  go_enter Tryz.func63, Tryz.ntmps63
  cases b2
  · have hx : x < 0 := hw1.2 rfl
    clear hw1 hw2
    cases b1
    all_goals go_wp2_with (first | (go_at_call 114; refine D2.out.mono ?_; rintro e w' ⟨rfl, rfl⟩) | (go_at_call 115; refine D1.out.mono ?_; rintro e w' ⟨rfl, rfl⟩))
    all_goals go_ret
    all_goals exact ⟨ret_int (by rw [HF.out]; simp), rfl⟩
  · have hx : 0 ≤ x := hw2.2 rfl
    clear hw1 hw2
    cases b1
    all_goals go_wp2_with (first | (go_at_call 114; refine D2.out.mono ?_; rintro e w' ⟨rfl, rfl⟩) | (go_at_call 115; refine D1.out.mono ?_; rintro e w' ⟨rfl, rfl⟩))
    all_goals go_ret
    all_goals exact ⟨ret_int (by rw [HF.out]; simp), rfl⟩

theorem FreshTake_any (s : ByteArray) (a : Option Addr) (l : List ByteArray) (k c : Nat) (w : World) (hs : s.size ≤ 9223372036854775807) (hl : l.length ≤ 9223372036854775807) (hk : k ≤ l.length) (hi : StrsC w a l) :
    Calls Tryz.prog 63 #[.string s, .slice a k c] w fun e w' => e = .returned (.int .i64 (fresh s (l.take k))) ∧ w' = w := by
  have h : (l.take k).length = k := List.length_take_of_le hk
  have := Fresh_any s a (l.take k) c w hs (by rw [h]; omega) (hi.take k)
  rw [h] at this
  exact this
end Go.Proofs.YtklconegomgjaaaGreat
namespace Go.Proofs.YtklconegomgjaaaGreat
open Go Go.RowKit

/-- What the rune at a position is like, by its byte. -/
theorem rune_ways (s : ByteArray) (k : Nat) (h : k < s.size) :
    ((low s[k] || (decide (0 < k) && late s[k])) = true ∧ (Utf8.decode s k).2 = 1 ∧ ((97 ≤ (Utf8.decode s k).1 ∧ (Utf8.decode s k).1 ≤ 122) ∨ (0 < k ∧ (Utf8.decode s k).1 = 46) ∨ (0 < k ∧ 48 ≤ (Utf8.decode s k).1 ∧ (Utf8.decode s k).1 ≤ 57))) ∨
    ((low s[k] || (decide (0 < k) && late s[k])) = false ∧ ((Utf8.decode s k).1 < 97 ∨ 122 < (Utf8.decode s k).1) ∧ (k = 0 ∨ ((Utf8.decode s k).1 ≠ 46 ∧ ((Utf8.decode s k).1 < 48 ∨ 57 < (Utf8.decode s k).1)))) := by
  by_cases ha : (s[k]'h).toNat < 128
  · rw [decode_ascii s k h ha]
    simp only [low, late]
    generalize (s[k]'h).toNat = c
    cases hg : (decide (97 ≤ c) && decide (c ≤ 122) || decide (0 < k) && (c == 46 || decide (48 ≤ c) && decide (c ≤ 57)))
    · right
      simp at hg
      refine ⟨by trivial, ?_, ?_⟩ <;> omega
    · left
      simp at hg
      refine ⟨by trivial, by trivial, ?_⟩
      omega
  · have hh := decode_high s k h (by omega)
    right
    refine ⟨?_, by omega, by omega⟩
    simp only [low, late]
    generalize (s[k]'h).toNat = c at ha
    simp
    omega

theorem below_iter (w : World) (s : ByteArray) (p : Nat) : Below w.heap.size w (w.iter s p) := (Below.refl _ _).alloc (Nat.le_refl _) (.stringIter s p)

set_option maxHeartbeats 4000000 in
theorem EarName_any (s : ByteArray) (w : World) (hs : s.size ≤ 9223372036854775807) :
    Calls Tryz.prog 29 #[.string s] w fun e w' => e = .returned (.bool (nameB s)) ∧ Below w.heap.size w w' := by
  have HN : Hid (nameB s = (decide (1 ≤ s.size) && decide (s.size ≤ 16) && nameFrom 0 s.data.toList)) := rfl
  generalize nameB s = r at HN ⊢
  go_enter Tryz.func29, Tryz.ntmps29
  go_wp2
  go_loopw [3] (fun x w' => ∃ pos : Nat, pos ≤ s.size ∧ w' = w.iter s pos ∧ Hid (nameFrom 0 s.data.toList = nameFrom pos (s.data.toList.drop pos))) (fun _ w' => s.size - w'.iterPos w.heap.size)
  case atStart => exact ⟨0, Nat.zero_le _, rfl, rfl⟩
  case round =>
    obtain ⟨pos, hpl, rfl, HP⟩ := hrel
    by_cases hp : pos < s.size
    · have hnx := fun ty => run_next_any (P := Tryz.prog) w s pos ty hp
      have hw := rune_ways s pos hp
      have hd := Lib.hid (name_drop s pos hp)
      generalize (low s[pos] || (decide (0 < pos) && late s[pos])) = g at hw hd
      generalize (Utf8.decode s pos).1 = R at hnx hw
      generalize (Utf8.decode s pos).2 = W at hnx hw
      rcases hw with ⟨rfl, rfl, hw⟩ | ⟨rfl, hw, hw2⟩
      · have HP2 := Lib.hid (show nameFrom 0 s.data.toList = nameFrom (pos + 1) (s.data.toList.drop (pos + 1)) by rw [HP.out, hd.out]; simp)
        rcases hw with ⟨a1, a2⟩ | ⟨a1, a2⟩ | ⟨a1, a2, a3⟩
        · go_wp2
          exact ⟨⟨pos + 1, by omega, rfl, HP2⟩, by simp; omega⟩
        · subst a2
          have e0 : ((pos : Int) == 0) = false := eqi_f (by omega)
          go_wp2
          exact ⟨⟨pos + 1, by omega, rfl, HP2⟩, by simp; omega⟩
        · have e0 : ((pos : Int) == 0) = false := eqi_f (by omega)
          have e1 : ((R : Int) != 46) = true := nei_t (by omega)
          have e2 : ¬ (R : Int) < 48 := by omega
          have e3 : ¬ (57 : Int) < (R : Int) := by omega
          go_wp2
          exact ⟨⟨pos + 1, by omega, rfl, HP2⟩, by simp; omega⟩
      · have HB := Lib.hid (show r = false by rw [HN.out, HP.out, hd.out]; simp)
        rcases hw with a1 | a1
        · rcases hw2 with rfl | ⟨b1, b2⟩
          · go_wp2
            go_ret
            exact ⟨ret_bool HB.out.symm, below_iter _ _ _⟩
          · have e1 : ((R : Int) != 46) = true := nei_t (by omega)
            by_cases hz : pos = 0
            · subst hz
              go_wp2
              go_ret
              exact ⟨ret_bool HB.out.symm, below_iter _ _ _⟩
            · have e0 : ((pos : Int) == 0) = false := eqi_f (by omega)
              rcases b2 with b2 | b2
              · go_wp2
                go_ret
                exact ⟨ret_bool HB.out.symm, below_iter _ _ _⟩
              · have e2 : ¬ (R : Int) < 48 := by omega
                have e3 : (57 : Int) < (R : Int) := by omega
                go_wp2
                go_ret
                exact ⟨ret_bool HB.out.symm, below_iter _ _ _⟩
        · have e4 : ¬ (R : Int) ≤ 122 := by omega
          have e5 : (97 : Int) ≤ (R : Int) := by omega
          rcases hw2 with rfl | ⟨b1, b2⟩
          · go_wp2
            go_ret
            exact ⟨ret_bool HB.out.symm, below_iter _ _ _⟩
          · have e1 : ((R : Int) != 46) = true := nei_t (by omega)
            by_cases hz : pos = 0
            · subst hz
              go_wp2
              go_ret
              exact ⟨ret_bool HB.out.symm, below_iter _ _ _⟩
            · have e0 : ((pos : Int) == 0) = false := eqi_f (by omega)
              rcases b2 with b2 | b2
              · omega
              · have e2 : ¬ (R : Int) < 48 := by omega
                have e3 : (57 : Int) < (R : Int) := by omega
                go_wp2
                go_ret
                exact ⟨ret_bool HB.out.symm, below_iter _ _ _⟩
    · obtain rfl : pos = s.size := by omega
      have hnx := fun ty => run_next_end (P := Tryz.prog) w s s.size ty hp
      have HP2 := Lib.hid (show r = (decide (1 ≤ s.size) && decide (s.size ≤ 16)) by rw [HN.out, HP.out, List.drop_of_length_le (by simp)]; simp [nameFrom])
      have B := Lib.hid (fun (W : World) (a : Nat) (h : W.cell? ⟨a, 0, none⟩ = some (.int .i64 s.size)) => EBeyond_any (some ⟨a, 0, none⟩) [(s.size : Int)] 1 1 16 W (by simp) (fun i hi => by have e : i = 0 := (by simp at hi; omega); subst e; exact ⟨a, 0, rfl, lt_of_cell h, by simpa using h⟩))
      go_wp2_with fail
      refine (B.out _ _ ?_).mono ?_
      · exact blk_cell 0 (blk_new _ _) rfl
      · rintro e w2 ⟨rfl, hb⟩
        dsimp only
        go_wp2
        go_ret
        exact ⟨ret_bool (by rw [HP2.out]; simp only [List.any_cons, List.any_nil, Bool.or_false, outB, Bool.not_or]; congr 1 <;> (rw [← decide_not]; congr 1; apply propext; omega)), ((below_iter w s s.size).alloc (by simp [World.iter]) _).trans (hb.mono (by simp [World.iter]; omega))⟩
end Go.Proofs.YtklconegomgjaaaGreat
namespace Go.Proofs.YtklconegomgjaaaGreat
open Go Go.RowKit

/-- Left normally, with the frame A, in a world of which S holds. -/
def midPost (A : Act) (S : World → Prop) : Exit → Act → World → Prop
  | .normal, a, w => a = A ∧ S w
  | _, _, _ => False
theorem wp_mid {P : Program} {C : Code} {Q : Exit → Act → World → Prop} {a : Act} {w : World} (A : Act) (S : World → Prop) (h : C.wp P (midPost A S) a w) (h2 : ∀ W, S W → Q .normal A W) : C.wp P Q a w :=
  Code.wp_mono (fun e a' w' h' => by
    cases e with
    | normal => obtain ⟨rfl, h3⟩ := h'; exact h2 _ h3
    | ret => exact h'.elim
    | exit id => exact h'.elim
    | goto t => exact h'.elim
    | panic c => exact h'.elim
    | outgrown => exact h'.elim) h
theorem wpIn_mid {F : Fence} {n : Nat} {P : Program} {C : Code} {Q : Exit → Act → World → Prop} {a : Act} {w : World} (A : Act) (S : World → Prop) (h : C.wpIn F n P (midPost A S) a w) (h2 : ∀ W, S W → Q .normal A W) : C.wpIn F n P Q a w :=
  wpIn_mono h (fun e a' w' h' => by
    cases e with
    | normal => obtain ⟨rfl, h3⟩ := h'; exact h2 _ h3
    | ret => exact h'.elim
    | exit id => exact h'.elim
    | goto t => exact h'.elim
    | panic c => exact h'.elim
    | outgrown => exact h'.elim)
theorem below_drew' {B : Nat} {w W : World} (h : Below B w W) : Below B w W.drew := ⟨h.os, h.tape, h.output, h.size, h.block⟩
theorem box_on {w W W' : World} {o : Obj} (h : Below (w.heap.size + 1) (w.alloc o) W) (h2 : Below W.heap.size W W') : Below (w.heap.size + 1) (w.alloc o) W' :=
  h.trans (h2.mono (by have := h.size; simpa using this))
end Go.Proofs.YtklconegomgjaaaGreat
namespace Go.Proofs.YtklconegomgjaaaGreat
open Go Go.RowKit

set_option maxHeartbeats 1000000 in
theorem EIdx1_any (x : EaL) (c : Int) (p : Nat) (w : World) (h : w.cell? ⟨p, 0, none⟩ = some (.int .u8 c)) :
    Calls Tryz.prog 163 #[.agg #[.int .u8 x.letter, .int .i64 x.sounds, .bool x.silent], .pointer (some ⟨p, 0, none⟩)] w fun e w' => e = .returned (.bool (decide (x.letter = c))) ∧ Below w.heap.size w w' := by
  obtain ⟨letter, sounds, silent⟩ := x
  simp only
  have hp := lt_of_cell h
  by_cases he : letter = c
  · have e2 := eqi_t he
    go_enter Tryz.func163, Tryz.ntmps163
    go_wp2
    go_ret
    exact ⟨ret_bool (by simp [he]), by go_grown⟩
  · have e2 := eqi_f he
    go_enter Tryz.func163, Tryz.ntmps163
    go_wp2
    go_ret
    exact ⟨ret_bool (by simp [he]), by go_grown⟩
set_option maxHeartbeats 1000000 in
theorem EIdxF_any (a : Option Addr) (l : List EaL) (k : Nat) (c : Int) (p : Nat) (w : World) (hl : l.length ≤ 9223372036854775807) (hi' : EaLettersC w a l) (h : w.cell? ⟨p, 0, none⟩ = some (.int .u8 c)) :
    Calls Tryz.prog 162 #[.slice a l.length k, .func (.func 163) #[] #[.pointer (some ⟨p, 0, none⟩)]] w fun e w' => e = .returned (.int .i64 (idxL l c)) ∧ Below w.heap.size w w' := by
  obtain ⟨r, hr⟩ : ∃ r, r = idxL l c := ⟨_, rfl⟩
  rw [← hr]
  have HR := Lib.hid hr
  clear hr
  go_enter Tryz.func162, Tryz.ntmps162
  go_wp2
  go_loopw [8] (fun i wr => ∃ k : Nat, k ≤ l.length ∧ i = .int .i64 k ∧ Hid (∀ j (_ : j < k) (h : j < l.length), l[j].letter ≠ c) ∧ Below w.heap.size w wr) (fun i _ => l.length - (intOf i).toNat)
  case atStart => exact ⟨0, Nat.zero_le _, rfl, Lib.hid (fun j h => absurd h (Nat.not_lt_zero j)), Below.refl _ _⟩
  case round =>
    obtain ⟨k, hk, rfl, HN, hbw⟩ := hrel
    by_cases hlt : k < l.length
    · obtain ⟨b, off, rfl, hb, hx1, hx2, hx3⟩ := hi'.mono hbw k hlt
      have B := EIdx1_any l[k] c p wr (cell_below hbw h)
      have HT := Lib.hid (fun (h : l[k].letter = c) => HR.out.trans (idxL_at hlt h (fun i hi => HN.out i hi (by omega))))
      have HN2 := Lib.hid (fun (h : l[k].letter ≠ c) => show ∀ j (_ : j < k + 1) (h : j < l.length), l[j].letter ≠ c from fun j hj hjl => if hjk : j < k then HN.out j hjk hjl else (by have e : j = k := (by omega); subst e; exact h))
      have B := Lib.hid B
      generalize l[k] = x at B HT HN2 hx1 hx2 hx3
      obtain ⟨xl, xs, xi⟩ := x
      simp only at B HT HN2 hx1 hx2 hx3
      by_cases he : xl = c
      · replace HT := Lib.hid (HT.out he)
        have B2 := Lib.hid (show Calls Tryz.prog 163 #[.agg #[.int .u8 xl, .int .i64 xs, .bool xi], .pointer (some ⟨p, 0, none⟩)] wr fun e w' => e = .returned (.bool true) ∧ Below wr.heap.size wr w' from by have := B.out; rwa [decide_eq_true he] at this)
        clear B HN2 he
        go_wp2_with (go_at_call 163; go_must (refine B2.out.mono ?_; rintro e w2 ⟨rfl, hb2⟩; dsimp only))
        go_ret
        exact ⟨ret_int HT.out.symm, hbw.trans (hb2.mono hbw.size)⟩
      · replace HN2 := Lib.hid (HN2.out he)
        have B2 := Lib.hid (show Calls Tryz.prog 163 #[.agg #[.int .u8 xl, .int .i64 xs, .bool xi], .pointer (some ⟨p, 0, none⟩)] wr fun e w' => e = .returned (.bool false) ∧ Below wr.heap.size wr w' from by have := B.out; rwa [decide_eq_false he] at this)
        clear B HT he
        go_wp2_with (go_at_call 163; go_must (refine B2.out.mono ?_; rintro e w2 ⟨rfl, hb2⟩; dsimp only))
        go_roundw
        case rel => exact ⟨k + 1, by omega, by go_num, HN2, hbw.trans (hb2.mono hbw.size)⟩
        case measure => simp [intOf]; omega
    · obtain rfl : k = l.length := by omega
      go_wp2
      go_ret
      exact ⟨ret_int (HR.out.trans (idxL_no (fun i hi => HN.out i hi hi))).symm, hbw⟩
set_option maxHeartbeats 1000000 in
theorem EIndex_any (a : Option Addr) (l : List EaL) (k : Nat) (c : Int) (w : World) (hl : l.length ≤ 9223372036854775807) (hi : EaLettersC w a l) :
    Calls Tryz.prog 121 #[.slice a l.length k, .int .u8 c] w fun e w' => e = .returned (.int .i64 (idxL l c)) ∧ Below w.heap.size w w' := by
  have I := Lib.hid (fun (W : World) (p : Nat) (hb : Below w.heap.size w W) h => EIdxF_any a l k c p W hl (hi.mono hb) h)
  go_enter Tryz.func121, Tryz.ntmps121
  go_wp2_with (go_at_call 162; go_must (refine (I.out _ _ ?_ ?_).mono ?_; (exact (Below.refl _ _).alloc (Nat.le_refl _) _); (simp); rintro e w2 ⟨rfl, hb2⟩; dsimp only))
  go_ret
  exact ⟨rfl, ((Below.refl _ w).alloc (Nat.le_refl _) _).trans (hb2.mono (by simp))⟩
end Go.Proofs.YtklconegomgjaaaGreat
namespace Go.Proofs.YtklconegomgjaaaGreat
open Go Go.RowKit Go.Shelf

theorem store_fnE (P : Program) (w : World) (a : Addr) (m : Mode) (fn : Fn) (first captured : Array Value) : (store a (.func fn first captured) m).run P w = stored P w a (.func fn first captured) m := run_store P w a _ m rfl
attribute [local go_sem] store_fnE
theorem EOffOk (x lo hi : Int) (hx : lo ≤ x ∧ x ≤ hi) (a : Nat) (w : World) (h : w.cell? ⟨a, 0, none⟩ = some (.int .i64 x)) :
    Calls Tryz.prog 76 #[.int .i64 lo, .int .i64 hi, .slice (some ⟨a, 0, none⟩) 1 1] w fun e w' => e = .returned (.bool false) ∧ Below w.heap.size w w' := by
  have := EBeyondOne_any x lo hi a w h
  rwa [inB_iff.2 hx] at this
/-- A letter that is as it has to be. -/
structure LetOk (S : Nat) (l : List EaL) (i : Nat) : Prop where
  lt : i < l.length
  letter : 97 ≤ l[i].letter ∧ l[i].letter ≤ 122
  new : ∀ j (_ : j < i), l[j].letter ≠ l[i].letter
  sounds : 0 ≤ l[i].sounds ∧ l[i].sounds < 2 ^ S
  some : l[i].sounds = 0 → l[i].silent = true
set_option maxHeartbeats 1000000 in
theorem EFlaw1_any (a : Option Addr) (l : List EaL) (k S i : Nat) (w : World) (hl : l.length ≤ 9223372036854775807) (hi : EaLettersC w a l) (hx : LetOk S l i) :
    Calls Tryz.prog 166 #[.slice a l.length k, .int .i64 (i : Int)] w fun e w' => e = .returned (.bool false) ∧ Below w.heap.size w w' := by
  have hlt := hx.lt
  have h1 := hx.letter
  obtain ⟨b, off, rfl, hb, c0, _⟩ := hi i hlt
  generalize l[i].letter = x at h1 c0
  have B := Lib.hid (fun (a : Nat) (W : World) h => EOffOk x 97 122 h1 a W h)
  go_enter Tryz.func166, Tryz.ntmps166
  go_wp2_with (go_at_call 76; go_must (refine (B.out _ _ ?_).mono ?_; (simp); rintro e w2 ⟨rfl, hb2⟩; dsimp only))
  go_ret
  exact ⟨rfl, ((Below.refl _ w).alloc (Nat.le_refl _) _).trans (hb2.mono (by simp))⟩
set_option maxHeartbeats 1000000 in
theorem EFlaw2_any (a : Option Addr) (l : List EaL) (k S i : Nat) (w : World) (ho : SlOk a l.length k) (hi : EaLettersC w a l) (hx : LetOk S l i) :
    Calls Tryz.prog 167 #[.slice a l.length k, .int .i64 (i : Int)] w fun e w' => e = .returned (.bool false) ∧ Below w.heap.size w w' := by
  have hlt := hx.lt
  have hl := ho.len
  have hso := ho.1
  have h1 := hx.letter
  have hti : (l.take i).length = i := by rw [List.length_take]; omega
  have hno : idxL (l.take i) l[i].letter = -1 := idxL_no (fun j hj => by
    rw [List.length_take] at hj
    rw [List.getElem_take]
    exact hx.new j (by omega))
  obtain ⟨b, off, rfl, hb, c0, _⟩ := hi i hlt
  have K := Lib.hid (fun (W : World) (h : Below w.heap.size w W) => (show Calls Tryz.prog 121 #[.slice (some ⟨b, off, none⟩) i k, .int .u8 l[i].letter] W fun e w' => e = .returned (.int .i64 (-1)) ∧ Below W.heap.size W w' from by
    have := EIndex_any (some ⟨b, off, none⟩) (l.take i) k l[i].letter W (by omega) ((hi.mono h).take i)
    rw [hti, hno] at this
    exact this))
  clear hno hti
  have hik : (i : Int) ≤ (k : Int) := by omega
  have hi0 : (0 : Int) ≤ (i : Int) := by omega
  have hil : (i : Int) < (l.length : Int) := by omega
  generalize l[i].letter = x at h1 c0 K
  have KE : Hid (∀ V, Below w.heap.size w V → (Below w.heap.size w V ∧ V.cell? ⟨b, off + i * 3, none⟩ = some (.int .u8 x) ∧ b < V.heap.size)) := Lib.hid (fun V h => ⟨h, cell_below h c0, Nat.lt_of_lt_of_le hb h.size⟩)
  go_enter Tryz.func167, Tryz.ntmps167
  go_upto_region 1 with (fail)
  have hg0 : Below w.heap.size w w.drew := below_drew' (Below.refl _ _)
  have hs0 := hg0.size
  go_region_held3 (fun V => Below w.heap.size w V ∧ V.cell? ⟨b, off + i * 3, none⟩ = some (.int .u8 x) ∧ b < V.heap.size) (first | exact KE.out _ hg0 | exact KE.out _ hg1) (first
      | (go_at_call 121; refine (K.out _ hg0).mono ?_; rintro e w2 ⟨rfl, hgs⟩; have hg1 := hg0.trans (hgs.mono hs0); dsimp only))
  go_wp2
  go_ret
  exact ⟨rfl, hg1⟩
theorem pow_wrapE : ∀ S : Nat, S ≤ 4 → IntKind.i64.wrap (IntKind.i64.wrap (2 ^ S) - 1) = ((2 ^ S - 1 : Nat) : Int) := by decide +kernel
set_option maxRecDepth 100000 in
set_option maxHeartbeats 1000000 in
theorem EFlaw3_any (a : Option Addr) (l : List EaL) (k S i p : Nat) (w : World) (hl : l.length ≤ 9223372036854775807) (hi : EaLettersC w a l) (hx : LetOk S l i) (hS : S ≤ 4) (cp : w.cell? ⟨p, 0, none⟩ = some (.int .i64 (S : Int))) :
    Calls Tryz.prog 168 #[.slice a l.length k, .int .i64 (i : Int), .pointer (some ⟨p, 0, none⟩)] w fun e w' => e = .returned (.bool false) ∧ Below w.heap.size w w' := by
  have hlt := hx.lt
  have h1 := hx.sounds
  obtain ⟨b, off, rfl, hb, _, c0, _⟩ := hi i hlt
  generalize l[i].sounds = x at h1 c0
  have hpw := pow_wrapE S hS
  have hS64 : (S : Int) < 64 := by omega
  have hz := Nat.two_pow_pos S
  have e1 : ((2 : Int) ^ S) = ((2 ^ S : Nat) : Int) := by simp
  rw [e1] at h1
  have B := Lib.hid (fun (a : Nat) (W : World) h => EOffOk x 0 ((2 ^ S - 1 : Nat) : Int) (by omega) a W h)
  clear e1 h1
  generalize ((2 ^ S - 1 : Nat) : Int) = M at B hpw
  have KE : Hid (∀ V, Below w.heap.size w V → (Below w.heap.size w V ∧ V.cell? ⟨p, 0, none⟩ = some (.int .i64 (S : Int)) ∧ V.cell? ⟨b, off + i * 3 + 1, none⟩ = some (.int .i64 x) ∧ b < V.heap.size ∧ p < V.heap.size)) := Lib.hid (fun V h => ⟨h, cell_below h cp, cell_below h c0, Nat.lt_of_lt_of_le hb h.size, Nat.lt_of_lt_of_le (lt_of_cell cp) h.size⟩)
  have hp := lt_of_cell cp
  go_enter Tryz.func168, Tryz.ntmps168
  go_upto_region 1 with (fail)
  apply wp_mid _ (fun V => Below w.heap.size w V)
  · focus go_region_with (go_at_call 76; ((with_reducible refine (B.out _ _ ?_).mono ?_); (simp); rintro e w2 ⟨rfl, hb2⟩; dsimp only))
    all_goals exact ⟨rfl, (below_drew' ((Below.refl _ w).alloc (Nat.le_refl _) _)).trans (hb2.mono (by simp))⟩
  intro V hV
  go_wp2
  go_ret
  exact ⟨rfl, hV⟩
set_option maxHeartbeats 1000000 in
theorem EFlaw4_any (a : Option Addr) (l : List EaL) (k S i : Nat) (w : World) (hl : l.length ≤ 9223372036854775807) (hi : EaLettersC w a l) (hx : LetOk S l i) :
    Calls Tryz.prog 169 #[.slice a l.length k, .int .i64 (i : Int)] w fun e w' => e = .returned (.bool false) ∧ Below w.heap.size w w' := by
  have hlt := hx.lt
  have h1 := hx.some
  obtain ⟨b, off, rfl, hb, _, c0, c1⟩ := hi i hlt
  generalize l[i].sounds = x at h1 c0
  generalize l[i].silent = y at h1 c1
  by_cases hz : x = 0
  · have e2 := eqi_t hz
    have := h1 hz
    subst this
    subst hz
    go_enter Tryz.func169, Tryz.ntmps169
    go_wp2
    go_ret
    exact ⟨rfl, Below.refl _ _⟩
  · have e2 := eqi_f hz
    clear h1
    go_enter Tryz.func169, Tryz.ntmps169
    go_wp2
    go_ret
    exact ⟨rfl, Below.refl _ _⟩
@[reducible] def flawCellsE (p : Nat) : Array Value := #[.int .i64 6, .func (.func 166) #[] #[], .int .i64 5, .func (.func 167) #[] #[], .int .i64 7, .func (.func 168) #[] #[.pointer (some ⟨p, 0, none⟩)], .int .i64 2, .func (.func 169) #[] #[]]
theorem EFlaws_any (S : Int) (w : World) : Calls Tryz.prog 132 #[.int .i64 S] w fun e w' => e = .returned (.slice (some ⟨w.heap.size + 1, 0, none⟩) 4 4) ∧ w' = (w.alloc (.cells #[.int .i64 S] 3)).alloc (.cells (flawCellsE w.heap.size) 209) := by
  go_enter Tryz.func132, Tryz.ntmps132
  go_wp2
  go_ret
  exact ⟨by simp, rfl⟩
end Go.Proofs.YtklconegomgjaaaGreat
