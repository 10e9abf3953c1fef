/- What is proved here: contracts of beyond (of the layer, and of ear), with their closures and the search of slices. No condition but lengths. -/
/- What is proved here: the contract of ear.Name. Condition: the string is of a length that a machine can hold. -/
/- What is proved here: laws for the built-in append onto a slice that the call itself owns, whatever is appended; a growing slice of slices of ints. Over any program. -/
/- What is proved here: what the call itself owns, seen as a slice of ints. Over any program. -/
/- What is proved here: facts on the program's types, by the kernel. No condition. -/
/- What is proved here: a slice of ints from a block on; bits. No condition. -/
/- What is proved here: the contract of the function that lists the numbers of a set, in layer 9. Conditions: sets below 64. -/
/- What is proved here: contracts of cmp.Compare and slices.Compare at ints, both signs; what of the world they turn: nothing. Conditions: both slices of one length. -/
import Derived.Test.YtelmponkmmfffaaGreatProg
import Derived.Test.YtelmponkmmfffaaGreatBlkG
import Derived.Test.YtelmponkmmfffaaGreatDeSpecG
import Derived.Laws.RangeAny
import Derived.Deep.OwnRows
import Derived.Laws.CopyOwn
import Derived.Deep.DeepCutAuto
set_option linter.unusedVariables false
set_option linter.unusedSimpArgs false
namespace Go.Proofs.YtelmponkmmfffaaGreat
open Go Go.RowKit

def outB (lo hi n : Int) : Bool := decide (n < lo) || decide (hi < n)

theorem any_lt {α : Type} {f : α → Bool} {l : List α} {k : Nat} (h : k < l.length) (hf : f l[k] = true) : l.any f = true := by
  rw [List.any_eq_true]; exact ⟨_, List.getElem_mem h, hf⟩
theorem any_not {α : Type} {f : α → Bool} {l : List α} (h : ∀ j (_ : j < l.length), f l[j] = false) : l.any f = false := by
  rw [List.any_eq_false]
  intro x hx
  obtain ⟨i, hi, rfl⟩ := List.getElem_of_mem hx
  simp [h i hi]

set_option maxHeartbeats 1000000 in
theorem MBeyond1_any (n lo hi : Int) (p q : Nat) (w : World) (h1 : w.cell? ⟨p, 0, none⟩ = some (.int .i64 lo)) (h2 : w.cell? ⟨q, 0, none⟩ = some (.int .i64 hi)) :
    Calls Tryz.prog 129 #[.int .i64 n, .pointer (some ⟨p, 0, none⟩), .pointer (some ⟨q, 0, none⟩)] w fun e w' => e = .returned (.bool (outB lo hi n)) ∧ w' = w := by
  have hp := lt_of_cell h1
  have hq := lt_of_cell h2
  have HO : Hid (outB lo hi n = (decide (n < lo) || decide (hi < n))) := rfl
  generalize outB lo hi n = r at HO ⊢
  by_cases a1 : n < lo
  · go_enter Tryz.func129, Tryz.ntmps129
    go_wp2
    go_ret
    exact ⟨ret_bool (by rw [HO.out]; simp [a1]), rfl⟩
  · by_cases a2 : hi < n
    all_goals
      go_enter Tryz.func129, Tryz.ntmps129
      go_wp2
      go_ret
      exact ⟨ret_bool (by rw [HO.out]; simp [a1, a2] <;> omega), rfl⟩
set_option maxHeartbeats 1000000 in
theorem MBeyondIndex_any (a : Option Addr) (l : List Int) (c : Nat) (lo hi : Int) (p q : Nat) (w : World) (hl : l.length ≤ 9223372036854775807) (hi' : IntsC w a l) (h1 : w.cell? ⟨p, 0, none⟩ = some (.int .i64 lo)) (h2 : w.cell? ⟨q, 0, none⟩ = some (.int .i64 hi)) :
    Calls Tryz.prog 130 #[.slice a l.length c, .func (.func 129) #[] #[.pointer (some ⟨p, 0, none⟩), .pointer (some ⟨q, 0, none⟩)]] w fun e w' => ∃ k : Int, e = .returned (.int .i64 k) ∧ Hid (decide (0 ≤ k) = l.any (outB lo hi)) ∧ w' = w := by
  go_enter Tryz.func130, Tryz.ntmps130
  go_wp2
  go_loop [8] (fun i => ∃ k : Nat, k ≤ l.length ∧ i = .int .i64 k ∧ Hid (∀ j (_ : j < k) (h : j < l.length), outB lo hi l[j] = false)) (fun i => l.length - (intOf i).toNat)
  case atStart => exact ⟨0, Nat.zero_le _, rfl, Lib.hid (fun j h => absurd h (Nat.not_lt_zero j))⟩
  case round =>
    obtain ⟨k, hk, rfl, HR⟩ := hrel
    by_cases hlt : k < l.length
    · obtain ⟨b, off, rfl, hb, hx⟩ := hi' k hlt
      have B := MBeyond1_any l[k] lo hi p q w h1 h2
      have HT := Lib.hid (fun (h : outB lo hi l[k] = true) => (any_lt hlt h : l.any (outB lo hi) = true))
      have HN := Lib.hid (fun (h : outB lo hi l[k] = false) => show ∀ j (_ : j < k + 1) (h : j < l.length), outB lo hi l[j] = false from fun j hj hjl => if hjk : j < k then HR.out j hjk hjl else (by have e : j = k := (by omega); subst e; exact h))
      generalize outB lo hi l[k] = br at B HT HN
      have B := Lib.hid B
      cases br
      · go_wp2_with (go_at_call 129; go_must (refine B.out.mono ?_; rintro e w2 ⟨rfl, hw2⟩; obtain rfl := hw2.symm; dsimp only))
        go_round
        case rel => exact ⟨k + 1, by omega, by go_num, Lib.hid (HN.out (by trivial))⟩
        case measure => simp [intOf]; omega
      · go_wp2_with (go_at_call 129; go_must (refine B.out.mono ?_; rintro e w2 ⟨rfl, hw2⟩; obtain rfl := hw2.symm; dsimp only))
        go_ret
        exact ⟨_, rfl, Lib.hid (by rw [HT.out (by trivial)]; simp), rfl⟩
    · obtain rfl : k = l.length := by omega
      go_wp2
      go_ret
      exact ⟨_, rfl, Lib.hid (by rw [any_not (fun j h => HR.out j h h)]; simp), rfl⟩
set_option maxHeartbeats 1000000 in
theorem MBeyondContains_any (a : Option Addr) (l : List Int) (c : Nat) (lo hi : Int) (p q : Nat) (w : World) (hl : l.length ≤ 9223372036854775807) (hi' : IntsC w a l) (h1 : w.cell? ⟨p, 0, none⟩ = some (.int .i64 lo)) (h2 : w.cell? ⟨q, 0, none⟩ = some (.int .i64 hi)) :
    Calls Tryz.prog 92 #[.slice a l.length c, .func (.func 129) #[] #[.pointer (some ⟨p, 0, none⟩), .pointer (some ⟨q, 0, none⟩)]] w fun e w' => e = .returned (.bool (l.any (outB lo hi))) ∧ w' = w := by
  have I := Lib.hid (MBeyondIndex_any a l c lo hi p q w hl hi' h1 h2)
  go_enter Tryz.func92, Tryz.ntmps92
  by_cases ha : l.any (outB lo hi) = true
  · go_wp2_with (go_at_call 130; go_must (refine I.out.mono ?_; rintro e w2 ⟨k, rfl, hk, hw2⟩; obtain rfl := hw2.symm; have hk2 : 0 ≤ k := of_decide_eq_true (hk.out.trans ha); dsimp only))
    go_ret
    exact ⟨rfl, rfl⟩
  · go_wp2_with (go_at_call 130; go_must (refine I.out.mono ?_; rintro e w2 ⟨k, rfl, hk, hw2⟩; obtain rfl := hw2.symm; have hk2 : ¬ 0 ≤ k := of_decide_eq_false (hk.out.trans (Bool.eq_false_iff.2 ha)); dsimp only))
    go_ret
    exact ⟨rfl, rfl⟩
set_option maxHeartbeats 1000000 in
theorem MBeyond_any (a : Option Addr) (l : List Int) (c : Nat) (lo hi : Int) (w : World) (hl : l.length ≤ 9223372036854775807) (hi' : IntsC w a l) :
    Calls Tryz.prog 89 #[.int .i64 lo, .int .i64 hi, .slice a l.length c] w fun e w' => e = .returned (.bool (l.any (outB lo hi))) ∧ Below w.heap.size w w' := by
  have g1 : ((w.alloc (.cells #[.int .i64 lo] 3)).alloc (.cells #[.int .i64 hi] 3)).cell? ⟨w.heap.size, 0, none⟩ = some (.int .i64 lo) := blk_cell 0 (blk_below ((Below.refl (w.heap.size + 1) _).alloc (by simp) _) (by omega) (blk_new w _)) rfl
  have g2 : ((w.alloc (.cells #[.int .i64 lo] 3)).alloc (.cells #[.int .i64 hi] 3)).cell? ⟨w.heap.size + 1, 0, none⟩ = some (.int .i64 hi) := by simp
  have C := Lib.hid (MBeyondContains_any a l c lo hi _ _ _ hl (hi'.mono (((Below.refl _ w).alloc (Nat.le_refl _) _).alloc (by simp) _)) g1 g2)
  clear g1 g2
  go_enter Tryz.func89, Tryz.ntmps89
  go_wp2_with (go_at_call 92; go_must (refine C.out.mono ?_; rintro e w2 ⟨rfl, hw2⟩; obtain rfl := hw2.symm; dsimp only))
  go_ret
  exact ⟨rfl, by go_grown⟩
set_option maxHeartbeats 1000000 in
theorem EBeyond1_any (n lo hi : Int) (p q : Nat) (w : World) (h1 : w.cell? ⟨p, 0, none⟩ = some (.int .i64 lo)) (h2 : w.cell? ⟨q, 0, none⟩ = some (.int .i64 hi)) :
    Calls Tryz.prog 151 #[.int .i64 n, .pointer (some ⟨p, 0, none⟩), .pointer (some ⟨q, 0, none⟩)] w fun e w' => e = .returned (.bool (outB lo hi n)) ∧ w' = w := by
  have hp := lt_of_cell h1
  have hq := lt_of_cell h2
  have HO : Hid (outB lo hi n = (decide (n < lo) || decide (hi < n))) := rfl
  generalize outB lo hi n = r at HO ⊢
  by_cases a1 : n < lo
  · go_enter Tryz.func151, Tryz.ntmps151
    go_wp2
    go_ret
    exact ⟨ret_bool (by rw [HO.out]; simp [a1]), rfl⟩
  · by_cases a2 : hi < n
    all_goals
      go_enter Tryz.func151, Tryz.ntmps151
      go_wp2
      go_ret
      exact ⟨ret_bool (by rw [HO.out]; simp [a1, a2] <;> omega), rfl⟩
set_option maxHeartbeats 1000000 in
theorem EBeyondIndex_any (a : Option Addr) (l : List Int) (c : Nat) (lo hi : Int) (p q : Nat) (w : World) (hl : l.length ≤ 9223372036854775807) (hi' : IntsC w a l) (h1 : w.cell? ⟨p, 0, none⟩ = some (.int .i64 lo)) (h2 : w.cell? ⟨q, 0, none⟩ = some (.int .i64 hi)) :
    Calls Tryz.prog 130 #[.slice a l.length c, .func (.func 151) #[] #[.pointer (some ⟨p, 0, none⟩), .pointer (some ⟨q, 0, none⟩)]] w fun e w' => ∃ k : Int, e = .returned (.int .i64 k) ∧ Hid (decide (0 ≤ k) = l.any (outB lo hi)) ∧ w' = w := by
  go_enter Tryz.func130, Tryz.ntmps130
  go_wp2
  go_loop [8] (fun i => ∃ k : Nat, k ≤ l.length ∧ i = .int .i64 k ∧ Hid (∀ j (_ : j < k) (h : j < l.length), outB lo hi l[j] = false)) (fun i => l.length - (intOf i).toNat)
  case atStart => exact ⟨0, Nat.zero_le _, rfl, Lib.hid (fun j h => absurd h (Nat.not_lt_zero j))⟩
  case round =>
    obtain ⟨k, hk, rfl, HR⟩ := hrel
    by_cases hlt : k < l.length
    · obtain ⟨b, off, rfl, hb, hx⟩ := hi' k hlt
      have B := EBeyond1_any l[k] lo hi p q w h1 h2
      have HT := Lib.hid (fun (h : outB lo hi l[k] = true) => (any_lt hlt h : l.any (outB lo hi) = true))
      have HN := Lib.hid (fun (h : outB lo hi l[k] = false) => show ∀ j (_ : j < k + 1) (h : j < l.length), outB lo hi l[j] = false from fun j hj hjl => if hjk : j < k then HR.out j hjk hjl else (by have e : j = k := (by omega); subst e; exact h))
      generalize outB lo hi l[k] = br at B HT HN
      have B := Lib.hid B
      cases br
      · go_wp2_with (go_at_call 151; go_must (refine B.out.mono ?_; rintro e w2 ⟨rfl, hw2⟩; obtain rfl := hw2.symm; dsimp only))
        go_round
        case rel => exact ⟨k + 1, by omega, by go_num, Lib.hid (HN.out (by trivial))⟩
        case measure => simp [intOf]; omega
      · go_wp2_with (go_at_call 151; go_must (refine B.out.mono ?_; rintro e w2 ⟨rfl, hw2⟩; obtain rfl := hw2.symm; dsimp only))
        go_ret
        exact ⟨_, rfl, Lib.hid (by rw [HT.out (by trivial)]; simp), rfl⟩
    · obtain rfl : k = l.length := by omega
      go_wp2
      go_ret
      exact ⟨_, rfl, Lib.hid (by rw [any_not (fun j h => HR.out j h h)]; simp), rfl⟩
set_option maxHeartbeats 1000000 in
theorem EBeyondContains_any (a : Option Addr) (l : List Int) (c : Nat) (lo hi : Int) (p q : Nat) (w : World) (hl : l.length ≤ 9223372036854775807) (hi' : IntsC w a l) (h1 : w.cell? ⟨p, 0, none⟩ = some (.int .i64 lo)) (h2 : w.cell? ⟨q, 0, none⟩ = some (.int .i64 hi)) :
    Calls Tryz.prog 92 #[.slice a l.length c, .func (.func 151) #[] #[.pointer (some ⟨p, 0, none⟩), .pointer (some ⟨q, 0, none⟩)]] w fun e w' => e = .returned (.bool (l.any (outB lo hi))) ∧ w' = w := by
  have I := Lib.hid (EBeyondIndex_any a l c lo hi p q w hl hi' h1 h2)
  go_enter Tryz.func92, Tryz.ntmps92
  by_cases ha : l.any (outB lo hi) = true
  · go_wp2_with (go_at_call 130; go_must (refine I.out.mono ?_; rintro e w2 ⟨k, rfl, hk, hw2⟩; obtain rfl := hw2.symm; have hk2 : 0 ≤ k := of_decide_eq_true (hk.out.trans ha); dsimp only))
    go_ret
    exact ⟨rfl, rfl⟩
  · go_wp2_with (go_at_call 130; go_must (refine I.out.mono ?_; rintro e w2 ⟨k, rfl, hk, hw2⟩; obtain rfl := hw2.symm; have hk2 : ¬ 0 ≤ k := of_decide_eq_false (hk.out.trans (Bool.eq_false_iff.2 ha)); dsimp only))
    go_ret
    exact ⟨rfl, rfl⟩
set_option maxHeartbeats 1000000 in
theorem EBeyond_any (a : Option Addr) (l : List Int) (c : Nat) (lo hi : Int) (w : World) (hl : l.length ≤ 9223372036854775807) (hi' : IntsC w a l) :
    Calls Tryz.prog 134 #[.int .i64 lo, .int .i64 hi, .slice a l.length c] w fun e w' => e = .returned (.bool (l.any (outB lo hi))) ∧ Below w.heap.size w w' := by
  have g1 : ((w.alloc (.cells #[.int .i64 lo] 3)).alloc (.cells #[.int .i64 hi] 3)).cell? ⟨w.heap.size, 0, none⟩ = some (.int .i64 lo) := blk_cell 0 (blk_below ((Below.refl (w.heap.size + 1) _).alloc (by simp) _) (by omega) (blk_new w _)) rfl
  have g2 : ((w.alloc (.cells #[.int .i64 lo] 3)).alloc (.cells #[.int .i64 hi] 3)).cell? ⟨w.heap.size + 1, 0, none⟩ = some (.int .i64 hi) := by simp
  have C := Lib.hid (EBeyondContains_any a l c lo hi _ _ _ hl (hi'.mono (((Below.refl _ w).alloc (Nat.le_refl _) _).alloc (by simp) _)) g1 g2)
  clear g1 g2
  go_enter Tryz.func134, Tryz.ntmps134
  go_wp2_with (go_at_call 92; go_must (refine C.out.mono ?_; rintro e w2 ⟨rfl, hw2⟩; obtain rfl := hw2.symm; dsimp only))
  go_ret
  exact ⟨rfl, by go_grown⟩
theorem outB_eq (lo hi n : Int) : outB lo hi n = !inB n lo hi := by
  unfold outB inB
  rw [Bool.eq_iff_iff]
  simp
theorem MBeyondOne_any (x lo hi : Int) (a : Nat) (w : World) (h : w.cell? ⟨a, 0, none⟩ = some (.int .i64 x)) :
    Calls Tryz.prog 89 #[.int .i64 lo, .int .i64 hi, .slice (some ⟨a, 0, none⟩) 1 1] w fun e w' => e = .returned (.bool (!inB x lo hi)) ∧ Below w.heap.size w w' := by
  have := MBeyond_any (some ⟨a, 0, none⟩) [x] 1 lo hi w (by simp) (fun i hi => by have e : i = 0 := (by simp at hi; omega); subst e; exact ⟨a, 0, rfl, lt_of_cell h, by simpa using h⟩)
  simpa [outB_eq] using this
end Go.Proofs.YtelmponkmmfffaaGreat
namespace Go.Proofs.YtelmponkmmfffaaGreat
open Go Go.RowKit

/-- What the rune at a position is like, by its byte. -/
theorem rune_ways (s : ByteArray) (k : Nat) (h : k < s.size) :
    ((low s[k] || (decide (0 < k) && late s[k])) = true ∧ (Utf8.decode s k).2 = 1 ∧ ((97 ≤ (Utf8.decode s k).1 ∧ (Utf8.decode s k).1 ≤ 122) ∨ (0 < k ∧ (Utf8.decode s k).1 = 46) ∨ (0 < k ∧ 48 ≤ (Utf8.decode s k).1 ∧ (Utf8.decode s k).1 ≤ 57))) ∨
    ((low s[k] || (decide (0 < k) && late s[k])) = false ∧ ((Utf8.decode s k).1 < 97 ∨ 122 < (Utf8.decode s k).1) ∧ (k = 0 ∨ ((Utf8.decode s k).1 ≠ 46 ∧ ((Utf8.decode s k).1 < 48 ∨ 57 < (Utf8.decode s k).1)))) := by
  by_cases ha : (s[k]'h).toNat < 128
  · rw [decode_ascii s k h ha]
    simp only [low, late]
    generalize (s[k]'h).toNat = c
    cases hg : (decide (97 ≤ c) && decide (c ≤ 122) || decide (0 < k) && (c == 46 || decide (48 ≤ c) && decide (c ≤ 57)))
    · right
      simp at hg
      refine ⟨by trivial, ?_, ?_⟩ <;> omega
    · left
      simp at hg
      refine ⟨by trivial, by trivial, ?_⟩
      omega
  · have hh := decode_high s k h (by omega)
    right
    refine ⟨?_, by omega, by omega⟩
    simp only [low, late]
    generalize (s[k]'h).toNat = c at ha
    simp
    omega

theorem below_iter (w : World) (s : ByteArray) (p : Nat) : Below w.heap.size w (w.iter s p) := (Below.refl _ _).alloc (Nat.le_refl _) (.stringIter s p)

set_option maxHeartbeats 4000000 in
theorem EarName_any (s : ByteArray) (w : World) (hs : s.size ≤ 9223372036854775807) :
    Calls Tryz.prog 102 #[.string s] w fun e w' => e = .returned (.bool (nameB s)) ∧ Below w.heap.size w w' := by
  have HN : Hid (nameB s = (decide (1 ≤ s.size) && decide (s.size ≤ 16) && nameFrom 0 s.data.toList)) := rfl
  generalize nameB s = r at HN ⊢
  go_enter Tryz.func102, Tryz.ntmps102
  go_wp2
  go_loopw [3] (fun x w' => ∃ pos : Nat, pos ≤ s.size ∧ w' = w.iter s pos ∧ Hid (nameFrom 0 s.data.toList = nameFrom pos (s.data.toList.drop pos))) (fun _ w' => s.size - w'.iterPos w.heap.size)
  case atStart => exact ⟨0, Nat.zero_le _, rfl, rfl⟩
  case round =>
    obtain ⟨pos, hpl, rfl, HP⟩ := hrel
    by_cases hp : pos < s.size
    · have hnx := fun ty => run_next_any (P := Tryz.prog) w s pos ty hp
      have hw := rune_ways s pos hp
      have hd := Lib.hid (name_drop s pos hp)
      generalize (low s[pos] || (decide (0 < pos) && late s[pos])) = g at hw hd
      generalize (Utf8.decode s pos).1 = R at hnx hw
      generalize (Utf8.decode s pos).2 = W at hnx hw
      rcases hw with ⟨rfl, rfl, hw⟩ | ⟨rfl, hw, hw2⟩
      · have HP2 := Lib.hid (show nameFrom 0 s.data.toList = nameFrom (pos + 1) (s.data.toList.drop (pos + 1)) by rw [HP.out, hd.out]; simp)
        rcases hw with ⟨a1, a2⟩ | ⟨a1, a2⟩ | ⟨a1, a2, a3⟩
        · go_wp2
          exact ⟨⟨pos + 1, by omega, rfl, HP2⟩, by simp; omega⟩
        · subst a2
          have e0 : ((pos : Int) == 0) = false := eqi_f (by omega)
          go_wp2
          exact ⟨⟨pos + 1, by omega, rfl, HP2⟩, by simp; omega⟩
        · have e0 : ((pos : Int) == 0) = false := eqi_f (by omega)
          have e1 : ((R : Int) != 46) = true := nei_t (by omega)
          have e2 : ¬ (R : Int) < 48 := by omega
          have e3 : ¬ (57 : Int) < (R : Int) := by omega
          go_wp2
          exact ⟨⟨pos + 1, by omega, rfl, HP2⟩, by simp; omega⟩
      · have HB := Lib.hid (show r = false by rw [HN.out, HP.out, hd.out]; simp)
        rcases hw with a1 | a1
        · rcases hw2 with rfl | ⟨b1, b2⟩
          · go_wp2
            go_ret
            exact ⟨ret_bool HB.out.symm, below_iter _ _ _⟩
          · have e1 : ((R : Int) != 46) = true := nei_t (by omega)
            by_cases hz : pos = 0
            · subst hz
              go_wp2
              go_ret
              exact ⟨ret_bool HB.out.symm, below_iter _ _ _⟩
            · have e0 : ((pos : Int) == 0) = false := eqi_f (by omega)
              rcases b2 with b2 | b2
              · go_wp2
                go_ret
                exact ⟨ret_bool HB.out.symm, below_iter _ _ _⟩
              · have e2 : ¬ (R : Int) < 48 := by omega
                have e3 : (57 : Int) < (R : Int) := by omega
                go_wp2
                go_ret
                exact ⟨ret_bool HB.out.symm, below_iter _ _ _⟩
        · have e4 : ¬ (R : Int) ≤ 122 := by omega
          have e5 : (97 : Int) ≤ (R : Int) := by omega
          rcases hw2 with rfl | ⟨b1, b2⟩
          · go_wp2
            go_ret
            exact ⟨ret_bool HB.out.symm, below_iter _ _ _⟩
          · have e1 : ((R : Int) != 46) = true := nei_t (by omega)
            by_cases hz : pos = 0
            · subst hz
              go_wp2
              go_ret
              exact ⟨ret_bool HB.out.symm, below_iter _ _ _⟩
            · have e0 : ((pos : Int) == 0) = false := eqi_f (by omega)
              rcases b2 with b2 | b2
              · omega
              · have e2 : ¬ (R : Int) < 48 := by omega
                have e3 : (57 : Int) < (R : Int) := by omega
                go_wp2
                go_ret
                exact ⟨ret_bool HB.out.symm, below_iter _ _ _⟩
    · obtain rfl : pos = s.size := by omega
      have hnx := fun ty => run_next_end (P := Tryz.prog) w s s.size ty hp
      have HP2 := Lib.hid (show r = (decide (1 ≤ s.size) && decide (s.size ≤ 16)) by rw [HN.out, HP.out, List.drop_of_length_le (by simp)]; simp [nameFrom])
      have B := Lib.hid (fun (W : World) (a : Nat) (h : W.cell? ⟨a, 0, none⟩ = some (.int .i64 s.size)) => EBeyond_any (some ⟨a, 0, none⟩) [(s.size : Int)] 1 1 16 W (by simp) (fun i hi => by have e : i = 0 := (by simp at hi; omega); subst e; exact ⟨a, 0, rfl, lt_of_cell h, by simpa using h⟩))
      go_wp2_with fail
      refine (B.out _ _ ?_).mono ?_
      · exact blk_cell 0 (blk_new _ _) rfl
      · rintro e w2 ⟨rfl, hb⟩
        dsimp only
        go_wp2
        go_ret
        exact ⟨ret_bool (by rw [HP2.out]; simp only [List.any_cons, List.any_nil, Bool.or_false, outB, Bool.not_or]; congr 1 <;> (rw [← decide_not]; congr 1; apply propext; omega)), ((below_iter w s s.size).alloc (by simp [World.iter]) _).trans (hb.mono (by simp [World.iter]; omega))⟩
end Go.Proofs.YtelmponkmmfffaaGreat
namespace Go.Proofs.YtelmponkmmfffaaGreat
open Go Go.RowKit

/-- What a slice type is made of: the element's type, zero value, cells and bytes. -/
structure ElemInfo (P : Program) (t e : TypeId) (z : Value) (size bytes : Nat) : Prop where
  und : P.underlying t = some (.slice e)
  info : (P.info? e).map (fun i => (i.zero, i.size, i.bytes)) = some (some z, size, bytes)
  zsz : z.cells.size = size
  pos : 0 < size

/-- The cells that an argument of append yields: m elements. -/
def SrcAt (w : World) (y : Value) (m size : Nat) (news : List Value) : Prop :=
  news.length = m * size ∧ (∀ u ∈ news, u.oneCell' = true) ∧
  ((y = .slice none 0 0 ∧ m = 0) ∨ ∃ ad c, y = .slice (some ad) m c ∧ ∀ j u, news[j]? = some u → w.cell? (ad.add j) = some u)

theorem SrcAt.one (w : World) (u : Value) (t : TypeId) (h : u.oneCell' = true) : SrcAt (w.alloc (.cells #[u] t)) (.slice (some ⟨w.heap.size, 0, none⟩) 1 1) 1 1 [u] :=
  ⟨rfl, by simpa using h, .inr ⟨_, _, rfl, cell_one_new _ _ _⟩⟩

theorem SrcAt.below {w W : World} {y : Value} {m size : Nat} {news : List Value} (h : SrcAt w y m size news) (hb : Below w.heap.size w W) : SrcAt W y m size news := by
  obtain ⟨h1, h2, h3⟩ := h
  refine ⟨h1, h2, ?_⟩
  rcases h3 with h3 | ⟨ad, c, e, hc⟩
  · exact .inl h3
  · refine .inr ⟨ad, c, e, fun j u hj => ?_⟩
    have h := hc j u hj
    exact (hb.cell (p := ad.add j) (lt_of_cell h)).trans h

theorem SrcAt.ints {w : World} {a : Option Addr} {l : List Int} {c : Nat} (hn : a = none → c = 0) (h : IntsC w a l) : SrcAt w (.slice a l.length c) l.length 1 (l.map (Value.int .i64)) := by
  refine ⟨by simp, by intro u hu; obtain ⟨x, _, rfl⟩ := List.mem_map.1 hu; rfl, ?_⟩
  cases a with
  | none =>
    have : l.length = 0 := by
      by_cases h0 : 0 < l.length
      · obtain ⟨b, off, e, _⟩ := h 0 h0
        cases e
      · omega
    left
    rw [hn rfl, this]
    exact ⟨rfl, rfl⟩
  | some ad =>
    refine .inr ⟨ad, c, rfl, fun j u hj => ?_⟩
    rw [List.getElem?_map] at hj
    obtain ⟨x, hx, rfl⟩ := Option.map_eq_some_iff.1 hj
    obtain ⟨hlt, rfl⟩ := List.getElem?_eq_some_iff.1 hx
    obtain ⟨b, off, e, _, hc⟩ := h j hlt
    cases e
    rw [Addr.add_lit]
    exact hc

theorem wpList_app {P : Program} {w : World} {ops : Array Oper} {rest : List Oper} {o : Oper} {a : Act} {Q : Exit → Act → World → Prop} (s x : Operand) {t e : TypeId} {z : Value} {size bytes : Nat}
    (hE : ElemInfo P t e z size bytes) (hgd : o.guard = none) (ho : o.op = .call { callee := .builtin .append, args := #[s, x], argTypes := #[t, t] })
    {v y : Value} (hs : a.eval s = v) (hx : a.eval x = y)
    (base n m : Nat) (xs news : List Value) (hown : w.ownsRow base e size v n xs) (hsrc : SrcAt w y m size news)
    (hnm : n + m ≤ 1000000) (hbt : bytes ≤ 1000000) (hbase : base ≤ w.heap.size)
    (h : ∀ v' w', w'.ownsRow base e size v' (n + m) (xs ++ news) → w.grownBy w' v.ownBlock → (v'.ownBlock = v.ownBlock ∨ v'.ownBlock = some w.heap.size) → wpList P ops Q rest (a.put o.dst v') w') :
    wpList P ops Q (o :: rest) a w := by
  obtain ⟨i, hi, hz, hsz, hby⟩ := info_parts hE.info
  obtain ⟨h1, h2, h3⟩ := hsrc
  rcases h3 with ⟨rfl, rfl⟩ | ⟨ad, c, rfl, hc⟩
  · have hn : news = [] := List.eq_nil_of_length_eq_zero (by simpa using h1)
    subst hn
    refine wpList_append_own_none hgd s x t ho base e i size hE.und hi v n xs hs hown hx ?_
    exact h v w (by simpa using hown) ⟨rfl, rfl, rfl, Nat.le_refl _, fun _ _ _ => rfl⟩ (.inl rfl)
  · have hm : maxLen = 9223372036854775807 := rfl
    have hb : (n + m) * bytes ≤ 1000000 * 1000000 := Nat.mul_le_mul hnm hbt
    exact wpList_append_own_at w hgd s x t ho base e i z size bytes hE.und hi hz hsz hby hE.zsz hE.pos v n xs hs hown ad m c news hx h1 hc h2 (by omega) (by omega) hbase
      fun v' w' h2 h3 _ h5 => h v' w' h2 h3 h5

/-- Behind an append onto a slice that was just made (block w.heap.size). -/
theorem app_fresh {w w1 : World} {o : Obj} {n c : Nat} (hg : (w.alloc o).grownBy w1 (Value.ownBlock (.slice (some ⟨w.heap.size, 0, none⟩) n c))) : Below w.heap.size w w1 :=
  ((Below.refl w.heap.size w).alloc (Nat.le_refl _) o).grown hg (by simp) (fun k e => by
    have : w.heap.size = k := by simpa [Value.ownBlock] using e
    omega)
/-- Behind an append of one cell onto a slice of the call's own. -/
theorem app_next {B base : Nat} {w w1 w2 : World} {o : Obj} {e : TypeId} {size n : Nat} {v : Value} {xs : List Value} (h : Below B w w1) (hB : B ≤ w.heap.size) (hb : B ≤ base) (ho : w1.ownsRow base e size v n xs) (hg : (w1.alloc o).grownBy w2 v.ownBlock) : Below B w w2 :=
  have h1 := h.size
  (h.alloc (by omega) o).grown hg (by simp; omega) (fun k e => Nat.le_trans hb (ho.lt k e).1)
/-- Memory grows: what is owned stays. -/
theorem own_below {w W : World} {base : Nat} {e : TypeId} {size n : Nat} {v : Value} {xs : List Value} (h : w.ownsRow base e size v n xs) (hb : Below w.heap.size w W) : W.ownsRow base e size v n xs :=
  h.kept (row := none) ⟨hb.os, hb.tape, hb.output, hb.size, fun k hk _ => hb.block k hk⟩ (by cases v.ownBlock <;> simp)

/-- A growing slice of slices of ints: the call's own; each row lies apart from the growing one. -/
def OwnRows (w : World) (base : Nat) (e : TypeId) (v : Value) (L : List (List Int)) : Prop :=
  ∃ vs : List Value, w.ownsRow base e 1 v L.length vs ∧ ∀ i (_ : i < L.length), ∃ a c, vs[i]? = some (.slice a L[i].length c) ∧ SlOk a L[i].length c ∧
    IntsC w a L[i] ∧ ∀ ad, a = some ad → ad.block < w.heap.size ∧ some ad.block ≠ v.ownBlock

theorem OwnRows.nil (w : World) (base : Nat) (e : TypeId) : OwnRows w base e (.slice none 0 0) [] := ⟨[], World.ownsRow_nil _ _ _ _, fun i hi => absurd hi (Nat.not_lt_zero i)⟩

theorem IntsC.grown {w W : World} {a : Option Addr} {l : List Int} {row : Option Nat} (h : IntsC w a l) (hg : w.grownBy W row) (hne : ∀ ad, a = some ad → some ad.block ≠ row) : IntsC W a l := fun i hi => by
  obtain ⟨b, off, e, hlt, hc⟩ := h i hi
  exact ⟨b, off, e, Nat.lt_of_lt_of_le hlt hg.size, hg.cell (a := ⟨b, off + i, none⟩) hc (show some b ≠ row from hne _ e)⟩

theorem ownBlock_lt {w : World} {base : Nat} {e : TypeId} {size n : Nat} {v : Value} {xs : List Value} (h : w.ownsRow base e size v n xs) : ∀ k, v.ownBlock = some k → k < w.heap.size := fun k hk => (h.lt k hk).2

/-- Other memory turns: the growing slice stays. -/
theorem OwnRows.kept {w W : World} {base : Nat} {e : TypeId} {v : Value} {L : List (List Int)} (h : OwnRows w base e v L) (hb : Below w.heap.size w W) : OwnRows W base e v L := by
  obtain ⟨vs, h1, h2⟩ := h
  have hg : w.grownBy W none := ⟨hb.os, hb.tape, hb.output, hb.size, fun k hk _ => hb.block k hk⟩
  refine ⟨vs, h1.kept hg ?_, fun i hi => ?_⟩
  · cases hv : v.ownBlock <;> simp
  · obtain ⟨a, c, e1, e2, e5, e6⟩ := h2 i hi
    exact ⟨a, c, e1, e2, e5.mono hb, fun ad ead => ⟨Nat.lt_of_lt_of_le (e6 ad ead).1 hb.size, (e6 ad ead).2⟩⟩

/-- Behind 'rows = append(rows, t)': w: where the rows lay; w1: where t was made; w2: behind the append of the one cell. -/
theorem OwnRows.push {w w1 w2 : World} {base : Nat} {e : TypeId} {v v' : Value} {L : List (List Int)} {vs : List Value} {a : Option Addr} {t : List Int} {c : Nat} {tmp : Obj}
    (hvs : w.ownsRow base e 1 v L.length vs)
    (h2 : ∀ i (_ : i < L.length), ∃ a c, vs[i]? = some (.slice a L[i].length c) ∧ SlOk a L[i].length c ∧ IntsC w a L[i] ∧ ∀ ad, a = some ad → ad.block < w.heap.size ∧ some ad.block ≠ v.ownBlock)
    (hb : Below w.heap.size w w1) (ht : IntsC w1 a t) (hc : SlOk a t.length c) (hnew : ∀ ad, a = some ad → w.heap.size ≤ ad.block ∧ ad.block < w1.heap.size)
    (hown : w2.ownsRow base e 1 v' (L.length + 1) (vs ++ [.slice a t.length c])) (hg : (w1.alloc tmp).grownBy w2 v.ownBlock) (hv : v'.ownBlock = v.ownBlock ∨ v'.ownBlock = some (w1.alloc tmp).heap.size) :
    OwnRows w2 base e v' (L ++ [t]) := by
  have hvl := ownBlock_lt hvs
  have hb1 : Below w.heap.size w (w1.alloc tmp) := hb.alloc hb.size _
  have hlen : vs.length = L.length := by simpa using hvs.1
  refine ⟨_, by simpa using hown, fun i hi => ?_⟩
  have hsz := hb1.size
  by_cases h : i < L.length
  · obtain ⟨a', c', e1, e2, e5, e6⟩ := h2 i h
    refine ⟨a', c', ?_, ?_, ?_, ?_⟩
    · rw [List.getElem?_append_left (by omega), List.getElem_append_left h]
      exact e1
    · rw [List.getElem_append_left h]; exact e2
    · rw [List.getElem_append_left h]
      exact (e5.mono hb1).grown hg fun ad ead => (e6 ad ead).2
    · intro ad ead
      have e7 := e6 ad ead
      have := hg.size
      simp at hsz this
      refine ⟨by omega, ?_⟩
      rcases hv with hv | hv
      · rw [hv]; exact e7.2
      · rw [hv]
        intro e'
        simp at e'
        omega
  · have hi' : i = L.length := by simp at hi; omega
    subst hi'
    refine ⟨a, c, ?_, ?_, ?_, ?_⟩
    · rw [List.getElem?_append_right (by omega)]
      simp [hlen]
    · simpa using hc
    · simp
      refine (ht.mono ((Below.refl _ _).alloc (Nat.le_refl _) _)).grown hg fun ad ead e' => ?_
      have := hvl _ e'.symm
      have := (hnew ad ead).1
      omega
    · intro ad ead
      have h1 := hnew ad ead
      have := hg.size
      simp at this
      refine ⟨by omega, fun e' => ?_⟩
      rcases hv with hv | hv
      · have := hvl _ (hv ▸ e'.symm)
        omega
      · rw [hv] at e'
        simp at e'
        omega

theorem OwnRows.rows {w : World} {base : Nat} {e : TypeId} {v : Value} {L : List (List Int)} (h : OwnRows w base e v L) : RowsV w v L := by
  obtain ⟨vs, h1, h2⟩ := h
  have hm : maxLen = 9223372036854775807 := rfl
  rcases h1.2 with ⟨rfl, h0⟩ | ⟨g, cap, cur, rfl, _, hg, h3, h4, h5, h6⟩
  · have : L = [] := List.eq_nil_of_length_eq_zero h0
    subst this
    exact ⟨none, 0, rfl, ⟨Nat.le_refl _, by omega, fun _ => rfl⟩, RowsC.nil _ _⟩
  · refine ⟨some ⟨g, 0, none⟩, cap, rfl, ⟨h3, by omega, fun h => by cases h⟩, fun i hi => ?_⟩
    obtain ⟨a, c, e1, e2, e5, _⟩ := h2 i hi
    refine ⟨g, 0, a, c, rfl, (Array.getElem?_eq_some_iff.1 hg).1, ?_, e2, e5⟩
    have := h1.cells (g := g) rfl i _ e1
    simpa [Addr.add_lit] using this
end Go.Proofs.YtelmponkmmfffaaGreat
namespace Go.Proofs.YtelmponkmmfffaaGreat
open Go Go.RowKit
theorem ints_ownV {w : World} {base : Nat} {e : TypeId} {v : Value} {n : Nat} {l : List Int} (h : w.ownsRow base e 1 v n (l.map (Value.int .i64))) : IntsV w v l := by
  have hl := h.1
  rcases h.2 with ⟨rfl, h0⟩ | ⟨g, cap, cur, rfl, _⟩
  · have : l = [] := List.eq_nil_of_length_eq_zero (by simp at hl; omega)
    subst this
    exact ⟨none, 0, rfl, ⟨Nat.le_refl _, by omega, fun _ => rfl⟩, IntsC.nil _ _⟩
  · obtain ⟨h1, h2, h3, _⟩ := ints_own h rfl
    subst h1
    exact ⟨_, _, rfl, h3, h2⟩
/-- The step of a list of numbers that pass a test. -/
theorem keep_succ (p : Nat → Bool) (n : Nat) : ((List.range (n+1)).filter p).map (fun (c : Nat) => (c : Int)) = ((List.range n).filter p).map (fun (c : Nat) => (c : Int)) ++ (if p n then [(n : Int)] else []) := by
  rw [List.range_succ, List.filter_append, List.map_append]
  congr 1
  cases h : p n <;> simp [h]
theorem keep_len (p : Nat → Bool) (n : Nat) : (((List.range n).filter p).map (fun (c : Nat) => (c : Int))).length ≤ n := by
  have := List.length_filter_le p (List.range n)
  simpa using this
end Go.Proofs.YtelmponkmmfffaaGreat
namespace Go.Proofs.YtelmponkmmfffaaGreat
open Go Go.RowKit
theorem E_int : ElemInfo Tryz.prog 35 3 (.int .i64 0) 1 8 := ⟨by kernel_rfl, by kernel_rfl, rfl, by decide⟩
theorem E_ints : ElemInfo Tryz.prog 51 35 (.slice none 0 0) 1 24 := ⟨by kernel_rfl, by kernel_rfl, rfl, by decide⟩
theorem E_str : ElemInfo Tryz.prog 44 9 (.string ⟨#[]⟩) 1 16 := ⟨by kernel_rfl, by kernel_rfl, rfl, by decide⟩
end Go.Proofs.YtelmponkmmfffaaGreat
namespace Go.Proofs.YtelmponkmmfffaaGreat
open Go Go.RowKit

/-- A slice value that holds a list of ints, in memory from B on. -/
def IntsN (B : Nat) (w : World) (v : Value) (l : List Int) : Prop := ∃ a c, v = .slice a l.length c ∧ SlOk a l.length c ∧ IntsC w a l ∧ ∀ ad, a = some ad → B ≤ ad.block
theorem IntsN.val {B : Nat} {w : World} {v : Value} {l : List Int} (h : IntsN B w v l) : IntsV w v l := by
  obtain ⟨a, c, e, h1, h2, _⟩ := h; exact ⟨a, c, e, h1, h2⟩
theorem IntsN.mono {B : Nat} {w W : World} {v : Value} {l : List Int} (h : IntsN B w v l) (hb : Below w.heap.size w W) : IntsN B W v l := by
  obtain ⟨a, c, e, h1, h2, h3⟩ := h; exact ⟨a, c, e, h1, h2.mono hb, h3⟩
theorem IntsN.grown {B : Nat} {w W : World} {v : Value} {l : List Int} {row : Option Nat} (h : IntsN B w v l) (hg : w.grownBy W row) (hr : ∀ r, row = some r → r < B) : IntsN B W v l := by
  obtain ⟨a, c, e, h1, h2, h3⟩ := h
  refine ⟨a, c, e, h1, h2.grown hg (fun ad ea e => ?_), h3⟩
  have := hr _ e.symm
  have := h3 ad ea
  omega
theorem bit_and : ∀ c : Nat, c < 64 → ∀ k : Nat, k < 7 → (bits BinOp.and IntKind.i64 ((c : Int) / 2 ^ k) 1 == 1) = c.testBit k := by decide +kernel
end Go.Proofs.YtelmponkmmfffaaGreat
namespace Go.Proofs.YtelmponkmmfffaaGreat
open Go Go.RowKit

/-- So many cells: a list, then zeros. -/
def padZ (l : List Int) (n : Nat) : List Value := (l ++ List.replicate (n - l.length) 0).map (Value.int .i64)
theorem padZ_len {l : List Int} {n : Nat} (h : l.length ≤ n) : (padZ l n).length = n := by simp [padZ]; omega
theorem padZ_nil (n : Nat) : madeCells #[.int .i64 0] n = (padZ [] n).toArray := by
  apply Array.ext
  · rw [size_madeCells]; simp [padZ]
  · intro i h1 h2
    simp [padZ, madeCells, Nat.mod_one]
theorem padZ_snoc {l : List Int} {n : Nat} (x : Int) (h : l.length < n) : splice (padZ l n) l.length [.int .i64 x] = padZ (l ++ [x]) n := by
  unfold splice padZ
  simp only [List.map_append, List.length_append, List.length_cons, List.length_nil]
  rw [List.take_left' (by simp), List.drop_append]
  rw [List.drop_eq_nil_of_le (by simp)]
  simp
  rw [show n - l.length - 1 = n - (l.length + 1) by omega]
theorem padZ_get {l : List Int} {n i : Nat} (h : i < l.length) : (padZ l n).toArray[i]? = some (.int .i64 l[i]) := by
  simp [padZ, List.getElem?_append, h]

theorem int_size : (Tryz.prog.info? 3).map (·.size) = some 1 := by kernel_rfl
set_option maxRecDepth 100000 in
set_option maxHeartbeats 2000000 in
theorem MNumbersN_any (s n : Nat) (hs : s < 64) (hn : n ≤ 6) (w : World) :
    Calls Tryz.prog 127 #[.int .i64 (s : Int), .int .i64 (n : Int)] w fun e w' => ∃ v, e = .returned v ∧ IntsN w.heap.size w' v (bitsList s n) ∧ Below w.heap.size w w' := by
  obtain ⟨p, hp⟩ : ∃ p : Nat → Bool, p = fun i => s.testBit i := ⟨_, rfl⟩
  have hW : Hid (bitsList s n = ((List.range n).filter p).map (fun (c : Nat) => (c : Int))) := by rw [hp]; exact (rfl : bitsList s n = _)
  generalize bitsList s n = r at hW ⊢
  have HP := Lib.hid hp
  clear hp
  obtain ⟨i, hi, hz, hsz, hby⟩ := info_parts E_int.info
  go_enter Tryz.func127, Tryz.ntmps127
  go_upto_region 2 with (refine wpList_make_row _ rfl (.tmp 8) (.tmp 8) _ rfl 3 i (.int .i64 0) E_int.und hi hz hsz rfl .i64 .i64 n rfl rfl (by rw [hby]; omega) (by omega) ?_; go_frame)
  rw [padZ_nil]
  obtain ⟨Y, hY⟩ : ∃ Y : World, Y = w.alloc (.cells (padZ [] n).toArray 3) := ⟨_, rfl⟩
  rw [← hY]
  have hY0 : Hid (Y.heap[w.heap.size]? = some (.cells (padZ [] n).toArray 3 (0, 0))) := Lib.hid (by rw [hY]; exact heap_alloc_new w _)
  have hYb : Below w.heap.size w Y := by rw [hY]; exact (Below.refl _ _).alloc (Nat.le_refl _) _
  clear hY hi hz hsz hby
  go_wp2
  go_loopw [6, 7, 11] (fun m _ i wr => ∃ (c : Nat), c ≤ n ∧ i = .int .i64 c ∧ m = .int .i64 ((((List.range c).filter p).map (fun (c : Nat) => (c : Int))).length : Nat) ∧ Hid (wr.heap[w.heap.size]? = some (.cells (padZ (((List.range c).filter p).map (fun (c : Nat) => (c : Int))) n).toArray 3 (0, 0))) ∧ Below w.heap.size w wr) (fun _ _ i _ => n - (intOf i).toNat)
  case atStart => exact ⟨0, Nat.zero_le _, rfl, rfl, hY0, hYb⟩
  case round =>
    clear hY0 hYb
    obtain ⟨c, hc, rfl, rfl, hown, hB⟩ := hrel
    have hB1 := hB.size
    have hlt0 := lt_of_block hown.out
    have hkl := keep_len p c
    have hst := Lib.hid (keep_succ p c)
    have hend := Lib.hid (fun (e : c = n) => (show r = ((List.range c).filter p).map (fun (c : Nat) => (c : Int)) by rw [hW.out, e]))
    generalize hL : ((List.range c).filter p).map (fun (c : Nat) => (c : Int)) = L at hown hst hkl hend
    clear hL
    have hLi : (L.length : Int) ≤ n := by omega
    have hLz : (0 : Int) ≤ L.length := by omega
    by_cases hlt : c < n
    · have hb := bit_and s hs c (by omega)
      have hpc : p c = s.testBit c := by rw [HP.out]
      rw [← hpc] at hb
      clear hpc
      generalize p c = bp at hst hb
      have hc64 : (c : Int) < 64 := by omega
      have hLn : L.length < n := by omega
      have hLi2 : (L.length : Int) < n := by omega
      cases bp
      · go_wp2
        go_roundw
        case rel => exact ⟨c + 1, by omega, by go_num, by rw [hst.out]; simp, by rw [hst.out]; simpa using hown, hB⟩
        case measure => simp [intOf]; omega
      · have HPS := Lib.hid (padZ_snoc (l := L) (n := n) (c : Int) hLn)
        have HPL := Lib.hid (padZ_len (l := L) (n := n) (by omega))
        have HC1 := (heap_alloc_old wr (.cells #[.int .i64 (c : Int)] 3) hlt0).trans hown.out
        obtain ⟨w2, hcp, HG2, hB2⟩ : ∃ w2 : World, (Builtin.copy_ #[35, 35] 3 #[.slice (some ⟨w.heap.size, L.length, none⟩) (n - L.length) (n - L.length), .slice (some ⟨wr.heap.size, 0, none⟩) 1 1]).run Tryz.prog (wr.alloc (.cells #[.int .i64 (c : Int)] 3)) = .ok (goInt 1) w2 ∧ Hid (w2.heap[w.heap.size]? = some (.cells (splice (padZ L n) L.length [.int .i64 (c : Int)]).toArray 3 (0, 0))) ∧ Below w.heap.size w w2 := by
          refine ⟨_, run_copy_row Tryz.prog (wr.alloc (.cells #[.int .i64 (c : Int)] 3)) 35 35 3 3 w.heap.size L.length (n - L.length) (n - L.length) ⟨wr.heap.size, 0, none⟩ 1 1 (padZ L n).toArray 3 [.int .i64 (c : Int)] E_int.und int_size HC1 ?_ ?_ ?_ ?_, Lib.hid ?_, below_setRow (hB.alloc hB1 _) (Nat.le_refl _) _⟩
          · show 1 = Nat.min 1 (n - L.length)
            exact (Nat.min_eq_left (by omega : 1 ≤ n - L.length)).symm
          · intro j v hj
            obtain rfl : j = 0 := by
              cases j with
              | zero => rfl
              | succ j => simp at hj
            simp at hj
            subst hj
            exact blk_cell 0 (heap_alloc_new wr _) rfl
          · simp [HPL.out]; omega
          · simp [Value.oneCell']
          · rw [setRow_heap _ _ _ _ _ _ HC1]
            simp [splice]
        clear HC1
        go_wp2
        go_roundw
        case rel => exact ⟨c + 1, by omega, by go_num, by rw [hst.out]; simp, by rw [hst.out]; rw [HPS.out] at HG2; exact HG2, hB2⟩
        case measure => simp [intOf]; omega
    · obtain rfl : c = n := by omega
      go_wp2
      go_ret
      rw [hend.out trivial]
      exact ⟨_, rfl, ⟨some ⟨w.heap.size, 0, none⟩, c, rfl, ⟨by omega, by omega, fun e => by cases e⟩, fun i hi => ⟨w.heap.size, 0, rfl, hlt0, by rw [Nat.zero_add]; exact blk_cell i hown.out (padZ_get hi)⟩, fun ad e => by cases e; exact Nat.le_refl _⟩, hB⟩
end Go.Proofs.YtelmponkmmfffaaGreat
namespace Go.Proofs.YtelmponkmmfffaaGreat
open Go Go.RowKit

def cmpI (x y : Int) : Int := if x < y then -1 else if y < x then 1 else 0

set_option maxHeartbeats 400000 in
theorem IsNaN_any (x : Int) (w : World) :
    Calls Tryz.prog 155 #[.int .i64 x] w fun e w' => e = .returned (.bool false) ∧ w' = w := by
  go_enter Tryz.func155, Tryz.ntmps155
  go_wp2
  go_ret
  exact ⟨ret_bool (by simp), rfl⟩

set_option maxHeartbeats 400000 in
theorem CmpInt_any (x y : Int) (w : World) :
    Calls Tryz.prog 150 #[.int .i64 x, .int .i64 y] w fun e w' => e = .returned (.int .i64 (cmpI x y)) ∧ w' = w := by
  have HN := Lib.hid (fun (x : Int) (W : World) => IsNaN_any x W)
  have HE : Hid (cmpI x y = if x < y then -1 else if y < x then 1 else 0) := rfl
  generalize cmpI x y = r at HE ⊢
  by_cases a1 : x < y
  · go_enter Tryz.func150, Tryz.ntmps150
    go_wp2_with (go_at_call 155; refine (HN.out _ _).mono ?_; rintro e w2 ⟨rfl, rfl⟩; dsimp only)
    go_ret
    exact ⟨ret_int (by rw [HE.out, if_pos a1]), rfl⟩
  · by_cases a2 : y < x
    all_goals
      go_enter Tryz.func150, Tryz.ntmps150
      go_wp2_with (go_at_call 155; refine (HN.out _ _).mono ?_; rintro e w2 ⟨rfl, rfl⟩; dsimp only)
      go_ret
      exact ⟨ret_int (by have := HE.out; split at this <;> (try split at this) <;> omega), rfl⟩

theorem less_at (l1 l2 : List Int) (j : Nat) (h1 : j < l1.length) (h2 : j < l2.length) :
    less (l1.drop j) (l2.drop j) = if l1[j] = l2[j] then less (l1.drop (j + 1)) (l2.drop (j + 1)) else decide (l1[j] < l2[j]) := by
  rw [List.drop_eq_getElem_cons h1, List.drop_eq_getElem_cons h2]
  simp only [less]

set_option maxHeartbeats 400000 in
theorem Cmp2_any (a1 a2 : Option Addr) (l1 l2 : List Int) (c1 c2 : Nat) (w : World) (hl : l1.length = l2.length) (hl5 : l2.length ≤ 9223372036854775807) (h1 : IntsC w a1 l1) (h2 : IntsC w a2 l2) :
    Calls Tryz.prog 128 #[.slice a1 l1.length c1, .slice a2 l2.length c2] w fun e w' => ∃ k : Int, e = .returned (.int .i64 k) ∧ Hid (decide (0 < k) = less l2 l1) ∧ w' = w := by
  have HC := Lib.hid (fun (x y : Int) (W : World) => CmpInt_any x y W)
  obtain ⟨r, hr⟩ : ∃ r, r = less l2 l1 := ⟨_, rfl⟩
  rw [← hr]
  have h00 : Hid (less (l2.drop 0) (l1.drop 0) = r) := hr.symm
  clear hr
  go_enter Tryz.func128, Tryz.ntmps128
  go_wp2
  go_loop [11] (fun i => ∃ k : Nat, i = .int .i64 k ∧ k ≤ l1.length ∧ Hid (less (l2.drop k) (l1.drop k) = r)) (fun i => l1.length - (intOf i).toNat)
  case atStart => exact ⟨0, rfl, by omega, h00⟩
  case round =>
    obtain ⟨k, rfl, hk, hr⟩ := hrel
    by_cases hlt : k < l1.length
    · obtain ⟨b1, o1, rfl, hb1, hc1⟩ := h1 k hlt
      obtain ⟨b2, o2, rfl, hb2, hc2⟩ := h2 k (by omega)
      have hlt2 : k < l2.length := by omega
      have hst := Lib.hid ((less_at l2 l1 k hlt2 hlt).symm.trans hr.out)
      generalize hx : l1[k] = x at hc1 hst
      generalize hy : l2[k] = y at hc2 hst
      clear hx hy
      have HK : Hid (cmpI x y = if x < y then -1 else if y < x then 1 else 0) := rfl
      have HC := fun W => HC.out x y W
      generalize cmpI x y = q at HC HK
      have HC := Lib.hid HC
      by_cases hq : q = 0
      · have g1 := nei_f hq
        go_wp2_with (go_at_call 150; refine (HC.out _).mono ?_; rintro e w2 ⟨rfl, rfl⟩; dsimp only)
        go_round
        case rel => exact ⟨k + 1, by go_num, by omega, Lib.hid (by rw [← hst.out]; have := HK.out; have e : y = x := (by split at this <;> (try split at this) <;> omega); rw [if_pos e])⟩
        case measure => simp [intOf]; omega
      · have g1 := nei_t hq
        go_wp2_with (go_at_call 150; refine (HC.out _).mono ?_; rintro e w2 ⟨rfl, rfl⟩; dsimp only)
        go_ret
        refine ⟨_, rfl, Lib.hid ?_, rfl⟩
        rw [← hst.out]
        have := HK.out
        have e : y ≠ x := by intro e; subst e; simp at this; exact hq this
        rw [if_neg e, decide_eq_decide]
        split at this <;> (try split at this) <;> omega
    · obtain rfl : k = l1.length := by omega
      go_wp2
      go_ret
      refine ⟨_, rfl, Lib.hid ?_, rfl⟩
      rw [← hr.out, List.drop_length, hl, List.drop_length]
      simp [less]

end Go.Proofs.YtelmponkmmfffaaGreat
