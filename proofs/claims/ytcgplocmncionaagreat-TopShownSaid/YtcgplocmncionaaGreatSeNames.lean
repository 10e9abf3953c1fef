/- What is proved here: contracts of the small helpers of the references (In, Inside, Has, Rising, Bit, Less, Fewer, Ints). Conditions: slices are of lengths that a machine can hold. -/
/- What is proved here: contracts of the helpers of the references that look at names (Where, Name, Fresh). Conditions: slices and strings are of lengths that a machine can hold. -/
/- What is proved here: contracts of beyond (of the layer, and of ear), with their closures and the search of slices. No condition but lengths. -/
/- What is proved here: the contract of ear.Name. Condition: the string is of a length that a machine can hold. -/
/- What is proved here: contracts of slices.Index, slices.Contains over strings. Condition: lengths. -/
import Derived.Test.YtcgplocmncionaaGreatProg
import Derived.Test.YtcgplocmncionaaGreatSeGround
import Derived.Test.YtcgplocmncionaaGreatSePlain
import Derived.Laws.RangeAny
set_option linter.unusedVariables false
set_option linter.unusedSimpArgs false
namespace Go.Proofs.YtcgplocmncionaaGreat
open Go Go.RowKit

set_option maxHeartbeats 400000 in
theorem In_any (n lo hi : Int) (w : World) : Calls Tryz.prog 21 #[.int .i64 n, .int .i64 lo, .int .i64 hi] w fun e w' => e = .returned (.bool (inB n lo hi)) ∧ w' = w := by
  have h := @inB_iff n lo hi
  have h2 := @inB_no n lo hi
  generalize inB n lo hi = c at h h2 ⊢
  go_enter Tryz.func21, Tryz.ntmps21
  cases c
  · have h3 : n < lo ∨ hi < n := by simpa using h2
    clear h h2
    go_wp2
    all_goals (go_ret; simp <;> omega)
  · have h3 : lo ≤ n ∧ n ≤ hi := by simpa using h
    obtain ⟨h4, h5⟩ := h3
    clear h h2
    go_wp2
    all_goals (go_ret; simp)

set_option maxHeartbeats 400000 in
theorem Has_any (a : Option Addr) (l : List Int) (c : Nat) (n : Int) (w : World) (hl : l.length ≤ 9223372036854775807) (hi : IntsC w a l) :
    Calls Tryz.prog 13 #[.slice a l.length c, .int .i64 n] w fun e w' => e = .returned (.bool (hasB l n)) ∧ w' = w := by
  obtain ⟨F, hF⟩ : ∃ F : Nat → Bool, F = fun j => hasB (l.take j) n := ⟨_, rfl⟩
  have F0 : Hid (F 0 = false) := by rw [hF]; exact (rfl : hasB (l.take 0) n = false)
  have Fs : Hid (∀ j (h : j < l.length), F (j+1) = (F j || (l[j] == n))) := by rw [hF]; exact fun j h => hasB_snoc l j h n
  have Fe : Hid (F l.length = hasB l n) := by rw [hF]; show hasB (l.take l.length) n = hasB l n; rw [List.take_length]
  clear hF
  go_enter Tryz.func13, Tryz.ntmps13
  go_wp2
  go_loop [5, 6] (fun m i => ∃ k : Nat, k ≤ l.length ∧ i = .int .i64 k ∧ m = .bool (F k)) (fun _ i => l.length - (intOf i).toNat)
  case atStart => exact ⟨0, Nat.zero_le _, rfl, val_bool F0.out.symm⟩
  case round =>
    obtain ⟨k, hk, rfl, rfl⟩ := hrel
    by_cases hlt : k < l.length
    · obtain ⟨b, off, rfl, _, h1⟩ := hi k hlt
      have H := Lib.hid (Fs.out k hlt)
      generalize F k = c0 at H ⊢
      generalize l[k] = x at H h1
      cases c0
      all_goals go_wp2
      all_goals go_round
      all_goals try (simp [intOf]; omega; done)
      all_goals exact ⟨k+1, by omega, by go_num, val_bool (by rw [H.out]; simp)⟩
    · go_wp2
      go_ret
      exact ⟨ret_bool (by rw [← Fe.out]; congr 1; omega), rfl⟩

set_option maxHeartbeats 400000 in
theorem Bit_any (n k : Int) (w : World) (hk : 0 ≤ k) (hk2 : k ≤ 1000) (h1 : -9223372036854775808 ≤ n) (h2 : n ≤ 9223372036854775807) :
    Calls Tryz.prog 9 #[.int .i64 n, .int .i64 k] w fun e w' => e = .returned (.bool (bitB n k.toNat)) ∧ w' = w := by
  obtain ⟨r, hr⟩ : ∃ r, r = bitB n k.toNat := ⟨_, rfl⟩
  rw [← hr]
  obtain ⟨K, rfl⟩ := Int.eq_ofNat_of_zero_le hk
  have Hr := Lib.hid hr
  clear hr
  go_enter Tryz.func9, Tryz.ntmps9
  go_wp2
  go_loop [0, 5] (fun m i => ∃ (j : Nat) (x : Int), j ≤ K ∧ i = .int .i64 j ∧ m = .int .i64 x ∧ -9223372036854775808 ≤ x ∧ x ≤ 9223372036854775807 ∧ Hid (r = bitB x (K - j))) (fun _ i => K - (intOf i).toNat)
  case atStart => exact ⟨0, n, Nat.zero_le _, rfl, rfl, h1, h2, Lib.hid (by simpa using Hr.out)⟩
  case round =>
    obtain ⟨j, x, hj, rfl, rfl, hx1, hx2, HR⟩ := hrel
    by_cases hlt : j < K
    · have hb := half_bd x hx1 hx2
      go_wp2
      go_round
      case rel => exact ⟨j+1, x.tdiv 2, by omega, by go_num, rfl, hb.1, hb.2, Lib.hid (by rw [HR.out, show K - j = (K - (j+1)) + 1 from by omega, bit_succ])⟩
      case measure => simp [intOf]; omega
    · go_wp2
      go_ret
      exact ⟨ret_bool (by rw [HR.out, show K - j = 0 from by omega, bit_zero]; exact (Bool.beq_eq_decide_eq _ _)), rfl⟩

theorem rising_drop (below : Int) (l : List Int) (last : Int) (k : Nat) (h : k < l.length) :
    risingFrom last below (l.drop k) = (decide (last < l[k]) && decide (l[k] < below) && risingFrom l[k] below (l.drop (k+1))) := by
  rw [List.drop_eq_getElem_cons h, risingFrom]

set_option maxHeartbeats 400000 in
theorem Rising_any (a : Option Addr) (l : List Int) (c : Nat) (below : Int) (w : World) (hl : l.length ≤ 9223372036854775807) (hi : IntsC w a l) :
    Calls Tryz.prog 15 #[.slice a l.length c, .int .i64 below] w fun e w' => e = .returned (.bool (rising l below)) ∧ w' = w := by
  obtain ⟨r, hr⟩ : ∃ r, r = rising l below := ⟨_, rfl⟩
  rw [← hr]
  have Hr := Lib.hid hr
  clear hr
  go_enter Tryz.func15, Tryz.ntmps15
  go_wp2
  go_loop [5, 6] (fun m i => ∃ (k : Nat) (x : Int), k ≤ l.length ∧ i = .int .i64 k ∧ m = .int .i64 x ∧ Hid (r = risingFrom x below (l.drop k))) (fun _ i => l.length - (intOf i).toNat)
  case atStart => exact ⟨0, -1, Nat.zero_le _, rfl, rfl, Lib.hid (by rw [Hr.out]; rfl)⟩
  case round =>
    obtain ⟨k, x, hk, rfl, rfl, HR⟩ := hrel
    by_cases hlt : k < l.length
    · obtain ⟨b, off, rfl, _, h1⟩ := hi k hlt
      have H := Lib.hid (rising_drop below l x k hlt)
      generalize l[k] = y at H h1
      by_cases g1 : y ≤ x
      · go_wp2
        go_ret
        exact ⟨ret_bool (by rw [HR.out, H.out]; simp; omega), rfl⟩
      · by_cases g2 : below ≤ y
        · go_wp2
          go_ret
          exact ⟨ret_bool (by rw [HR.out, H.out]; simp; omega), rfl⟩
        · go_wp2
          go_round
          case rel => exact ⟨k+1, y, by omega, by go_num, rfl, Lib.hid (by rw [HR.out, H.out]; simp; omega)⟩
          case measure => simp [intOf]; omega
    · go_wp2
      go_ret
      exact ⟨ret_bool (by rw [HR.out, List.drop_of_length_le (by omega)]; rfl), rfl⟩

set_option maxHeartbeats 800000 in
theorem Less_any (a b : Option Addr) (l m : List Int) (c d : Nat) (w : World) (hl : l.length ≤ 9223372036854775807) (hm : m.length ≤ 9223372036854775807) (hi : IntsC w a l) (hj : IntsC w b m) :
    Calls Tryz.prog 64 #[.slice a l.length c, .slice b m.length d] w fun e w' => e = .returned (.bool (less l m)) ∧ ∃ q, w' = w.drewN q := by
  obtain ⟨r, hr⟩ : ∃ r, r = less l m := ⟨_, rfl⟩
  rw [← hr]
  have Hr := Lib.hid hr
  clear hr
  go_enter Tryz.func64, Tryz.ntmps64
  go_wp2
  go_loopw [5] (fun i wr => ∃ (k q : Nat), k ≤ l.length ∧ k ≤ m.length ∧ i = .int .i64 k ∧ wr = w.drewN q ∧ Hid (r = less (l.drop k) (m.drop k))) (fun i _ => l.length - (intOf i).toNat)
  case atStart => exact ⟨0, 0, Nat.zero_le _, Nat.zero_le _, rfl, rfl, Lib.hid (by rw [Hr.out]; rfl)⟩
  case round =>
    obtain ⟨k, q, hk, hk2, rfl, rfl, HR⟩ := hrel
    by_cases h1 : k < l.length
    · by_cases h2 : k < m.length
      · obtain ⟨b1, off1, rfl, _, g1⟩ := hi k h1
        obtain ⟨b2, off2, rfl, _, g2⟩ := hj k h2
        have H := Lib.hid (less_drop l m k h1 h2)
        generalize l[k] = x at H g1
        generalize m[k] = y at H g2
        by_cases hxy : x = y
        · subst hxy
          have H := Lib.hid (H.out.trans (if_pos rfl))
          go_wp2
          go_quiet (fail)
          go_wp2
          go_roundw
          case rel => exact ⟨k+1, q + nq, by omega, by omega, by go_num, by simp, Lib.hid (HR.out.trans H.out)⟩
          case measure => simp [intOf]; omega
        · have hb : (x == y) = false := by simpa using hxy
          have H := Lib.hid (H.out.trans (if_neg hxy))
          have hd : ((k : Int) == (m.length : Int)) = false := by simp; omega
          have hd2 : ((k : Int) == (l.length : Int)) = false := by simp; omega
          go_wp2
          go_quiet (fail)
          go_wp2
          go_quiet (fail)
          go_wp2
          go_ret
          exact ⟨ret_bool (by rw [HR.out, H.out]), _, by first | rfl | (simp; rfl)⟩
      · have hd : decide ((k : Int) < (m.length : Int)) = false := by simp; omega
        have hd2 : ((k : Int) == (m.length : Int)) = true := by simp; omega
        go_wp2
        go_quiet (fail)
        go_wp2
        go_ret
        exact ⟨ret_bool (by rw [HR.out, less_end _ _ _ (by omega)]), _, by first | rfl | (simp; rfl)⟩
    · have hd0 : decide ((k : Int) < (l.length : Int)) = false := by simp; omega
      by_cases h2 : k < m.length
      · have hd2 : ((k : Int) == (m.length : Int)) = false := by simp; omega
        have hd3 : ((k : Int) == (l.length : Int)) = true := by simp; omega
        go_wp2
        go_quiet (fail)
        go_wp2
        go_quiet (fail)
        go_wp2
        go_ret
        exact ⟨ret_bool (by rw [HR.out, less_short _ _ _ (by omega) h2]), _, by first | rfl | (simp; rfl)⟩
      · have hd2 : ((k : Int) == (m.length : Int)) = true := by simp; omega
        go_wp2
        go_quiet (fail)
        go_wp2
        go_ret
        exact ⟨ret_bool (by rw [HR.out, less_end _ _ _ (by omega)]), _, by first | rfl | (simp; rfl)⟩

set_option maxHeartbeats 800000 in
theorem Ints_any (a b : Option Addr) (l m : List Int) (c d : Nat) (w : World) (hl : l.length ≤ 9223372036854775807) (hm : m.length ≤ 9223372036854775807) (hi : IntsC w a l) (hj : IntsC w b m) :
    Calls Tryz.prog 32 #[.slice a l.length c, .slice b m.length d] w fun e w' => e = .returned (.bool (intsB l m)) ∧ ∃ q, w' = w.drewN q := by
  go_enter Tryz.func32, Tryz.ntmps32
  by_cases h : l.length = m.length
  · have hd := eqn_t h
    have h1 : less l m = less l m := rfl
    have H : Hid (intsB l m = (!less l m && !less m l)) := by show intsB l m = _; simp [intsB, h]
    have C1 := fun w' hi hj => Less_any a b l m c d w' hl hm hi hj
    have C2 := fun w' hi hj => Less_any b a m l d c w' hm hl hi hj
    generalize less l m = b1 at *
    generalize less m l = b2 at *
    have C1 := Lib.hid C1
    have C2 := Lib.hid C2
    clear h h1
    cases b1
    · go_wp2_with fail
      refine (C1.out _ hi hj).mono ?_
      rintro e w' ⟨rfl, q, rfl⟩
      go_wp2_with fail
      refine (C2.out _ (fun i h => by simpa using hj i h) (fun i h => by simpa using hi i h)).mono ?_
      rintro e w' ⟨rfl, q2, rfl⟩
      go_wp2
      go_ret
      exact ⟨ret_bool (by rw [H.out]; simp), q + q2, by simp⟩
    · go_wp2_with fail
      refine (C1.out _ hi hj).mono ?_
      rintro e w' ⟨rfl, q, rfl⟩
      go_wp2
      go_ret
      exact ⟨ret_bool (by rw [H.out]; simp), q, by simp⟩
  · have hd := eqn_f h
    have H : Hid (intsB l m = false) := by show intsB l m = _; simp [intsB, h]
    clear h
    go_wp2
    go_ret
    exact ⟨ret_bool H.out.symm, 0, rfl⟩
end Go.Proofs.YtcgplocmncionaaGreat
namespace Go.Proofs.YtcgplocmncionaaGreat
open Go Go.RowKit Go.PlainAid

theorem where_drop (l : List ByteArray) (s : ByteArray) (k : Nat) (h : k < l.length) :
    whereFrom (l.drop k) s k = if l[k] = s then (k : Int) else whereFrom (l.drop (k+1)) s (k+1) := by
  rw [List.drop_eq_getElem_cons h, whereFrom]

set_option maxHeartbeats 800000 in
theorem Where_any (a : Option Addr) (l : List ByteArray) (c : Nat) (s : ByteArray) (w : World) (hl : l.length ≤ 9223372036854775807) (hi : StrsC w a l) :
    Calls Tryz.prog 48 #[.slice a l.length c, .string s] w fun e w' => e = .returned (.int .i64 (whereI l s)) ∧ w' = w := by
  obtain ⟨r, hr⟩ : ∃ r, r = whereI l s := ⟨_, rfl⟩
  rw [← hr]
  have Hr := Lib.hid hr
  clear hr
  go_enter Tryz.func48, Tryz.ntmps48
  go_wp2
  go_loop [5] (fun i => ∃ (k : Nat), k ≤ l.length ∧ i = .int .i64 k ∧ Hid (r = whereFrom (l.drop k) s k)) (fun i => l.length - (intOf i).toNat)
  case atStart => exact ⟨0, Nat.zero_le _, rfl, Lib.hid (by rw [Hr.out]; rfl)⟩
  case round =>
    obtain ⟨k, hk, rfl, HR⟩ := hrel
    by_cases hlt : k < l.length
    · obtain ⟨b, off, rfl, _, h1⟩ := hi k hlt
      have H := Lib.hid (where_drop l s k hlt)
      generalize l[k] = y at H h1
      have h0 : ((k : Int) == (l.length : Int)) = false := eqn_f (by omega)
      by_cases hy : y = s
      · have h2 := str_t hy
        have H := Lib.hid (H.out.trans (if_pos hy))
        clear hy
        go_wp2
        go_ret
        exact ⟨ret_int (by rw [HR.out, H.out]), rfl⟩
      · have h2 := str_f hy
        have H := Lib.hid (H.out.trans (if_neg hy))
        go_wp2
        go_round
        case rel => exact ⟨k+1, by omega, by go_num, Lib.hid (HR.out.trans H.out)⟩
        case measure => simp [intOf]; omega
    · have h0 : ((k : Int) == (l.length : Int)) = true := eqn_t (by omega)
      go_wp2
      go_ret
      exact ⟨ret_int (by rw [HR.out, List.drop_of_length_le (by omega)]; rfl), rfl⟩

theorem name_drop (s : ByteArray) (k : Nat) (h : k < s.size) :
    nameFrom k (s.data.toList.drop k) = ((low s[k] || (decide (0 < k) && late s[k])) && nameFrom (k+1) (s.data.toList.drop (k+1))) := by
  rw [List.drop_eq_getElem_cons (by simpa using h), nameFrom]
  rfl

theorem low_eq (c : UInt8) : low c = inB (c.toNat : Int) 97 122 := by simp only [low, inB]; congr 1 <;> simp <;> omega
theorem late_eq (c : UInt8) : late c = ((c.toNat : Int) == 46 || inB (c.toNat : Int) 48 57) := by
  simp only [late, inB]; congr 1
  · rw [Bool.eq_iff_iff]; simp; omega
  · congr 1 <;> simp <;> omega

set_option maxHeartbeats 1000000 in
theorem RefName_any (s : ByteArray) (w : World) (hs : s.size ≤ 9223372036854775807) :
    Calls Tryz.prog 49 #[.string s] w fun e w' => e = .returned (.bool (nameB s)) ∧ w' = w := by
  obtain ⟨r, hr⟩ : ∃ r, r = nameB s := ⟨_, rfl⟩
  rw [← hr]
  have Hr := Lib.hid hr
  clear hr
  have hb := get_bt s
  have C0 : Hid (∀ n w', Calls Tryz.prog 21 #[.int .i64 n, .int .i64 1, .int .i64 16] w' fun e w'' => e = .returned (.bool (inB n 1 16)) ∧ w'' = w') := fun n w' => In_any _ _ _ _
  have C1 : Hid (∀ n w', Calls Tryz.prog 21 #[.int .i64 n, .int .i64 48, .int .i64 57] w' fun e w'' => e = .returned (.bool (inB n 48 57)) ∧ w'' = w') := fun n w' => In_any _ _ _ _
  have C2 : Hid (∀ n w', Calls Tryz.prog 21 #[.int .i64 n, .int .i64 97, .int .i64 122] w' fun e w'' => e = .returned (.bool (inB n 97 122)) ∧ w'' = w') := fun n w' => In_any _ _ _ _
  go_enter Tryz.func49, Tryz.ntmps49
  go_wp2_with fail
  refine (C0.out _ _).mono ?_
  rintro e w' ⟨rfl, rfl⟩
  go_wp2_with fail
  go_loop [3, 4] (fun m i => ∃ (k : Nat) (f : Bool), k ≤ s.size ∧ i = .int .i64 k ∧ m = .bool f ∧ Hid (r = (f && nameFrom k (s.data.toList.drop k)))) (fun _ i => s.size - (intOf i).toNat)
  case atStart => exact ⟨0, _, Nat.zero_le _, rfl, rfl, Lib.hid (by rw [Hr.out]; unfold nameB; congr 1; simp [inB]; congr 1 <;> simp <;> omega)⟩
  case round =>
    obtain ⟨k, f, hk, rfl, rfl, HR⟩ := hrel
    by_cases hlt : k < s.size
    · have H := Lib.hid (name_drop s k hlt)
      have hbk := hb k hlt
      have b0 := bt_nonneg s k
      have b1 := bt_le s k
      have D1 := C1.out (bt s k)
      have D2 := C2.out (bt s k)
      have HL : Hid (low s[k] = inB (bt s k) 97 122) := by rw [← hbk]; exact low_eq _
      have HM : Hid (late s[k] = (bt s k == 46 || inB (bt s k) 48 57)) := by rw [← hbk]; exact late_eq _
      generalize inB (bt s k) 97 122 = cL at D2 HL
      generalize inB (bt s k) 48 57 = cM at D1 HM
      have D1 := Lib.hid D1
      have D2 := Lib.hid D2
      have hz : (0 < k) ∨ k = 0 := by omega
      clear hb
      by_cases h46 : bt s k = 46
      all_goals (first | have h46b := eqi_t h46 | have h46b := eqi_f h46)
      all_goals clear h46
      all_goals cases f
      all_goals cases cL
      all_goals rcases hz with hz | rfl
      all_goals
        go_wp2_with (go_at_call 21; first | ((with_reducible refine (D1.out _).mono ?_); rintro e w' ⟨rfl, rfl⟩) | ((with_reducible refine (D2.out _).mono ?_); rintro e w' ⟨rfl, rfl⟩))
      all_goals go_round
      all_goals try (simp [intOf]; omega; done)
      all_goals first | exact ⟨k+1, _, by omega, by go_num, rfl, Lib.hid (by rw [HR.out, H.out, HL.out, HM.out, h46b]; simp [hz])⟩ | exact ⟨1, _, by omega, by go_num, rfl, Lib.hid (by rw [HR.out, H.out, HL.out, HM.out, h46b]; simp)⟩
    · go_wp2
      go_ret
      exact ⟨ret_bool (by rw [HR.out, List.drop_of_length_le (by simp; omega)]; simp [nameFrom]), rfl⟩

theorem where_neg (l : List ByteArray) (s : ByteArray) (k : Nat) : (whereFrom l s k < 0 ↔ hasS l s = false) ∧ (0 ≤ whereFrom l s k ↔ hasS l s = true) := by
  induction l generalizing k with
  | nil => simp [whereFrom, hasS]
  | cons x xs ih =>
    have ih := ih (k+1)
    simp only [hasS] at ih
    rw [whereFrom, hasS, List.any_cons]
    by_cases h : x = s
    · rw [if_pos h]
      simp [h]
    · rw [if_neg h]
      simpa [h] using ih

set_option maxHeartbeats 1000000 in
theorem Fresh_any (s : ByteArray) (a : Option Addr) (l : List ByteArray) (c : Nat) (w : World) (hs : s.size ≤ 9223372036854775807) (hl : l.length ≤ 9223372036854775807) (hi : StrsC w a l) :
    Calls Tryz.prog 16 #[.string s, .slice a l.length c] w fun e w' => e = .returned (.int .i64 (fresh s l)) ∧ w' = w := by
  have D1 := RefName_any s w hs
  have hw := where_neg l s 0
  have D2 := Where_any a l c s w hl hi
  unfold whereI at D2
  have HF : Hid (fresh s l = if nameB s then (if hasS l s then 5 else 0) else 6) := rfl
  generalize fresh s l = r at HF ⊢
  generalize whereFrom l s 0 = x at hw D2
  generalize nameB s = b1 at D1 HF
  generalize hasS l s = b2 at hw HF
  have D1 := Lib.hid D1
  have D2 := Lib.hid D2
  obtain ⟨hw1, hw2⟩ := hw
  go_enter Tryz.func16, Tryz.ntmps16
  cases b2
  · have hx : x < 0 := hw1.2 rfl
    clear hw1 hw2
    cases b1
    all_goals go_wp2_with (first | (go_at_call 48; refine D2.out.mono ?_; rintro e w' ⟨rfl, rfl⟩) | (go_at_call 49; refine D1.out.mono ?_; rintro e w' ⟨rfl, rfl⟩))
    all_goals go_ret
    all_goals exact ⟨ret_int (by rw [HF.out]; simp), rfl⟩
  · have hx : 0 ≤ x := hw2.2 rfl
    clear hw1 hw2
    cases b1
    all_goals go_wp2_with (first | (go_at_call 48; refine D2.out.mono ?_; rintro e w' ⟨rfl, rfl⟩) | (go_at_call 49; refine D1.out.mono ?_; rintro e w' ⟨rfl, rfl⟩))
    all_goals go_ret
    all_goals exact ⟨ret_int (by rw [HF.out]; simp), rfl⟩

theorem FreshTake_any (s : ByteArray) (a : Option Addr) (l : List ByteArray) (k c : Nat) (w : World) (hs : s.size ≤ 9223372036854775807) (hl : l.length ≤ 9223372036854775807) (hk : k ≤ l.length) (hi : StrsC w a l) :
    Calls Tryz.prog 16 #[.string s, .slice a k c] w fun e w' => e = .returned (.int .i64 (fresh s (l.take k))) ∧ w' = w := by
  have h : (l.take k).length = k := List.length_take_of_le hk
  have := Fresh_any s a (l.take k) c w hs (by rw [h]; omega) (hi.take k)
  rw [h] at this
  exact this
end Go.Proofs.YtcgplocmncionaaGreat
namespace Go.Proofs.YtcgplocmncionaaGreat
open Go Go.RowKit

def outB (lo hi n : Int) : Bool := decide (n < lo) || decide (hi < n)

theorem any_lt {α : Type} {f : α → Bool} {l : List α} {k : Nat} (h : k < l.length) (hf : f l[k] = true) : l.any f = true := by
  rw [List.any_eq_true]; exact ⟨_, List.getElem_mem h, hf⟩
theorem any_not {α : Type} {f : α → Bool} {l : List α} (h : ∀ j (_ : j < l.length), f l[j] = false) : l.any f = false := by
  rw [List.any_eq_false]
  intro x hx
  obtain ⟨i, hi, rfl⟩ := List.getElem_of_mem hx
  simp [h i hi]

set_option maxHeartbeats 1000000 in
theorem MBeyond1_any (n lo hi : Int) (p q : Nat) (w : World) (h1 : w.cell? ⟨p, 0, none⟩ = some (.int .i64 lo)) (h2 : w.cell? ⟨q, 0, none⟩ = some (.int .i64 hi)) :
    Calls Tryz.prog 51 #[.int .i64 n, .pointer (some ⟨p, 0, none⟩), .pointer (some ⟨q, 0, none⟩)] w fun e w' => e = .returned (.bool (outB lo hi n)) ∧ w' = w := by
  have hp := lt_of_cell h1
  have hq := lt_of_cell h2
  have HO : Hid (outB lo hi n = (decide (n < lo) || decide (hi < n))) := rfl
  generalize outB lo hi n = r at HO ⊢
  by_cases a1 : n < lo
  · go_enter Tryz.func51, Tryz.ntmps51
    go_wp2
    go_ret
    exact ⟨ret_bool (by rw [HO.out]; simp [a1]), rfl⟩
  · by_cases a2 : hi < n
    all_goals
      go_enter Tryz.func51, Tryz.ntmps51
      go_wp2
      go_ret
      exact ⟨ret_bool (by rw [HO.out]; simp [a1, a2] <;> omega), rfl⟩
set_option maxHeartbeats 1000000 in
theorem MBeyondIndex_any (a : Option Addr) (l : List Int) (c : Nat) (lo hi : Int) (p q : Nat) (w : World) (hl : l.length ≤ 9223372036854775807) (hi' : IntsC w a l) (h1 : w.cell? ⟨p, 0, none⟩ = some (.int .i64 lo)) (h2 : w.cell? ⟨q, 0, none⟩ = some (.int .i64 hi)) :
    Calls Tryz.prog 80 #[.slice a l.length c, .func (.func 51) #[] #[.pointer (some ⟨p, 0, none⟩), .pointer (some ⟨q, 0, none⟩)]] w fun e w' => ∃ k : Int, e = .returned (.int .i64 k) ∧ Hid (decide (0 ≤ k) = l.any (outB lo hi)) ∧ w' = w := by
  go_enter Tryz.func80, Tryz.ntmps80
  go_wp2
  go_loop [8] (fun i => ∃ k : Nat, k ≤ l.length ∧ i = .int .i64 k ∧ Hid (∀ j (_ : j < k) (h : j < l.length), outB lo hi l[j] = false)) (fun i => l.length - (intOf i).toNat)
  case atStart => exact ⟨0, Nat.zero_le _, rfl, Lib.hid (fun j h => absurd h (Nat.not_lt_zero j))⟩
  case round =>
    obtain ⟨k, hk, rfl, HR⟩ := hrel
    by_cases hlt : k < l.length
    · obtain ⟨b, off, rfl, hb, hx⟩ := hi' k hlt
      have B := MBeyond1_any l[k] lo hi p q w h1 h2
      have HT := Lib.hid (fun (h : outB lo hi l[k] = true) => (any_lt hlt h : l.any (outB lo hi) = true))
      have HN := Lib.hid (fun (h : outB lo hi l[k] = false) => show ∀ j (_ : j < k + 1) (h : j < l.length), outB lo hi l[j] = false from fun j hj hjl => if hjk : j < k then HR.out j hjk hjl else (by have e : j = k := (by omega); subst e; exact h))
      generalize outB lo hi l[k] = br at B HT HN
      have B := Lib.hid B
      cases br
      · go_wp2_with (go_at_call 51; go_must (refine B.out.mono ?_; rintro e w2 ⟨rfl, hw2⟩; obtain rfl := hw2.symm; dsimp only))
        go_round
        case rel => exact ⟨k + 1, by omega, by go_num, Lib.hid (HN.out (by trivial))⟩
        case measure => simp [intOf]; omega
      · go_wp2_with (go_at_call 51; go_must (refine B.out.mono ?_; rintro e w2 ⟨rfl, hw2⟩; obtain rfl := hw2.symm; dsimp only))
        go_ret
        exact ⟨_, rfl, Lib.hid (by rw [HT.out (by trivial)]; simp), rfl⟩
    · obtain rfl : k = l.length := by omega
      go_wp2
      go_ret
      exact ⟨_, rfl, Lib.hid (by rw [any_not (fun j h => HR.out j h h)]; simp), rfl⟩
set_option maxHeartbeats 1000000 in
theorem MBeyondContains_any (a : Option Addr) (l : List Int) (c : Nat) (lo hi : Int) (p q : Nat) (w : World) (hl : l.length ≤ 9223372036854775807) (hi' : IntsC w a l) (h1 : w.cell? ⟨p, 0, none⟩ = some (.int .i64 lo)) (h2 : w.cell? ⟨q, 0, none⟩ = some (.int .i64 hi)) :
    Calls Tryz.prog 50 #[.slice a l.length c, .func (.func 51) #[] #[.pointer (some ⟨p, 0, none⟩), .pointer (some ⟨q, 0, none⟩)]] w fun e w' => e = .returned (.bool (l.any (outB lo hi))) ∧ w' = w := by
  have I := Lib.hid (MBeyondIndex_any a l c lo hi p q w hl hi' h1 h2)
  go_enter Tryz.func50, Tryz.ntmps50
  by_cases ha : l.any (outB lo hi) = true
  · go_wp2_with (go_at_call 80; go_must (refine I.out.mono ?_; rintro e w2 ⟨k, rfl, hk, hw2⟩; obtain rfl := hw2.symm; have hk2 : 0 ≤ k := of_decide_eq_true (hk.out.trans ha); dsimp only))
    go_ret
    exact ⟨rfl, rfl⟩
  · go_wp2_with (go_at_call 80; go_must (refine I.out.mono ?_; rintro e w2 ⟨k, rfl, hk, hw2⟩; obtain rfl := hw2.symm; have hk2 : ¬ 0 ≤ k := of_decide_eq_false (hk.out.trans (Bool.eq_false_iff.2 ha)); dsimp only))
    go_ret
    exact ⟨rfl, rfl⟩
set_option maxHeartbeats 1000000 in
theorem MBeyond_any (a : Option Addr) (l : List Int) (c : Nat) (lo hi : Int) (w : World) (hl : l.length ≤ 9223372036854775807) (hi' : IntsC w a l) :
    Calls Tryz.prog 22 #[.int .i64 lo, .int .i64 hi, .slice a l.length c] w fun e w' => e = .returned (.bool (l.any (outB lo hi))) ∧ Below w.heap.size w w' := by
  have g1 : ((w.alloc (.cells #[.int .i64 lo] 3)).alloc (.cells #[.int .i64 hi] 3)).cell? ⟨w.heap.size, 0, none⟩ = some (.int .i64 lo) := blk_cell 0 (blk_below ((Below.refl (w.heap.size + 1) _).alloc (by simp) _) (by omega) (blk_new w _)) rfl
  have g2 : ((w.alloc (.cells #[.int .i64 lo] 3)).alloc (.cells #[.int .i64 hi] 3)).cell? ⟨w.heap.size + 1, 0, none⟩ = some (.int .i64 hi) := by simp
  have C := Lib.hid (MBeyondContains_any a l c lo hi _ _ _ hl (hi'.mono (((Below.refl _ w).alloc (Nat.le_refl _) _).alloc (by simp) _)) g1 g2)
  clear g1 g2
  go_enter Tryz.func22, Tryz.ntmps22
  go_wp2_with (go_at_call 50; go_must (refine C.out.mono ?_; rintro e w2 ⟨rfl, hw2⟩; obtain rfl := hw2.symm; dsimp only))
  go_ret
  exact ⟨rfl, by go_grown⟩
set_option maxHeartbeats 1000000 in
theorem EBeyond1_any (n lo hi : Int) (p q : Nat) (w : World) (h1 : w.cell? ⟨p, 0, none⟩ = some (.int .i64 lo)) (h2 : w.cell? ⟨q, 0, none⟩ = some (.int .i64 hi)) :
    Calls Tryz.prog 113 #[.int .i64 n, .pointer (some ⟨p, 0, none⟩), .pointer (some ⟨q, 0, none⟩)] w fun e w' => e = .returned (.bool (outB lo hi n)) ∧ w' = w := by
  have hp := lt_of_cell h1
  have hq := lt_of_cell h2
  have HO : Hid (outB lo hi n = (decide (n < lo) || decide (hi < n))) := rfl
  generalize outB lo hi n = r at HO ⊢
  by_cases a1 : n < lo
  · go_enter Tryz.func113, Tryz.ntmps113
    go_wp2
    go_ret
    exact ⟨ret_bool (by rw [HO.out]; simp [a1]), rfl⟩
  · by_cases a2 : hi < n
    all_goals
      go_enter Tryz.func113, Tryz.ntmps113
      go_wp2
      go_ret
      exact ⟨ret_bool (by rw [HO.out]; simp [a1, a2] <;> omega), rfl⟩
set_option maxHeartbeats 1000000 in
theorem EBeyondIndex_any (a : Option Addr) (l : List Int) (c : Nat) (lo hi : Int) (p q : Nat) (w : World) (hl : l.length ≤ 9223372036854775807) (hi' : IntsC w a l) (h1 : w.cell? ⟨p, 0, none⟩ = some (.int .i64 lo)) (h2 : w.cell? ⟨q, 0, none⟩ = some (.int .i64 hi)) :
    Calls Tryz.prog 80 #[.slice a l.length c, .func (.func 113) #[] #[.pointer (some ⟨p, 0, none⟩), .pointer (some ⟨q, 0, none⟩)]] w fun e w' => ∃ k : Int, e = .returned (.int .i64 k) ∧ Hid (decide (0 ≤ k) = l.any (outB lo hi)) ∧ w' = w := by
  go_enter Tryz.func80, Tryz.ntmps80
  go_wp2
  go_loop [8] (fun i => ∃ k : Nat, k ≤ l.length ∧ i = .int .i64 k ∧ Hid (∀ j (_ : j < k) (h : j < l.length), outB lo hi l[j] = false)) (fun i => l.length - (intOf i).toNat)
  case atStart => exact ⟨0, Nat.zero_le _, rfl, Lib.hid (fun j h => absurd h (Nat.not_lt_zero j))⟩
  case round =>
    obtain ⟨k, hk, rfl, HR⟩ := hrel
    by_cases hlt : k < l.length
    · obtain ⟨b, off, rfl, hb, hx⟩ := hi' k hlt
      have B := EBeyond1_any l[k] lo hi p q w h1 h2
      have HT := Lib.hid (fun (h : outB lo hi l[k] = true) => (any_lt hlt h : l.any (outB lo hi) = true))
      have HN := Lib.hid (fun (h : outB lo hi l[k] = false) => show ∀ j (_ : j < k + 1) (h : j < l.length), outB lo hi l[j] = false from fun j hj hjl => if hjk : j < k then HR.out j hjk hjl else (by have e : j = k := (by omega); subst e; exact h))
      generalize outB lo hi l[k] = br at B HT HN
      have B := Lib.hid B
      cases br
      · go_wp2_with (go_at_call 113; go_must (refine B.out.mono ?_; rintro e w2 ⟨rfl, hw2⟩; obtain rfl := hw2.symm; dsimp only))
        go_round
        case rel => exact ⟨k + 1, by omega, by go_num, Lib.hid (HN.out (by trivial))⟩
        case measure => simp [intOf]; omega
      · go_wp2_with (go_at_call 113; go_must (refine B.out.mono ?_; rintro e w2 ⟨rfl, hw2⟩; obtain rfl := hw2.symm; dsimp only))
        go_ret
        exact ⟨_, rfl, Lib.hid (by rw [HT.out (by trivial)]; simp), rfl⟩
    · obtain rfl : k = l.length := by omega
      go_wp2
      go_ret
      exact ⟨_, rfl, Lib.hid (by rw [any_not (fun j h => HR.out j h h)]; simp), rfl⟩
set_option maxHeartbeats 1000000 in
theorem EBeyondContains_any (a : Option Addr) (l : List Int) (c : Nat) (lo hi : Int) (p q : Nat) (w : World) (hl : l.length ≤ 9223372036854775807) (hi' : IntsC w a l) (h1 : w.cell? ⟨p, 0, none⟩ = some (.int .i64 lo)) (h2 : w.cell? ⟨q, 0, none⟩ = some (.int .i64 hi)) :
    Calls Tryz.prog 50 #[.slice a l.length c, .func (.func 113) #[] #[.pointer (some ⟨p, 0, none⟩), .pointer (some ⟨q, 0, none⟩)]] w fun e w' => e = .returned (.bool (l.any (outB lo hi))) ∧ w' = w := by
  have I := Lib.hid (EBeyondIndex_any a l c lo hi p q w hl hi' h1 h2)
  go_enter Tryz.func50, Tryz.ntmps50
  by_cases ha : l.any (outB lo hi) = true
  · go_wp2_with (go_at_call 80; go_must (refine I.out.mono ?_; rintro e w2 ⟨k, rfl, hk, hw2⟩; obtain rfl := hw2.symm; have hk2 : 0 ≤ k := of_decide_eq_true (hk.out.trans ha); dsimp only))
    go_ret
    exact ⟨rfl, rfl⟩
  · go_wp2_with (go_at_call 80; go_must (refine I.out.mono ?_; rintro e w2 ⟨k, rfl, hk, hw2⟩; obtain rfl := hw2.symm; have hk2 : ¬ 0 ≤ k := of_decide_eq_false (hk.out.trans (Bool.eq_false_iff.2 ha)); dsimp only))
    go_ret
    exact ⟨rfl, rfl⟩
set_option maxHeartbeats 1000000 in
theorem EBeyond_any (a : Option Addr) (l : List Int) (c : Nat) (lo hi : Int) (w : World) (hl : l.length ≤ 9223372036854775807) (hi' : IntsC w a l) :
    Calls Tryz.prog 108 #[.int .i64 lo, .int .i64 hi, .slice a l.length c] w fun e w' => e = .returned (.bool (l.any (outB lo hi))) ∧ Below w.heap.size w w' := by
  have g1 : ((w.alloc (.cells #[.int .i64 lo] 3)).alloc (.cells #[.int .i64 hi] 3)).cell? ⟨w.heap.size, 0, none⟩ = some (.int .i64 lo) := blk_cell 0 (blk_below ((Below.refl (w.heap.size + 1) _).alloc (by simp) _) (by omega) (blk_new w _)) rfl
  have g2 : ((w.alloc (.cells #[.int .i64 lo] 3)).alloc (.cells #[.int .i64 hi] 3)).cell? ⟨w.heap.size + 1, 0, none⟩ = some (.int .i64 hi) := by simp
  have C := Lib.hid (EBeyondContains_any a l c lo hi _ _ _ hl (hi'.mono (((Below.refl _ w).alloc (Nat.le_refl _) _).alloc (by simp) _)) g1 g2)
  clear g1 g2
  go_enter Tryz.func108, Tryz.ntmps108
  go_wp2_with (go_at_call 50; go_must (refine C.out.mono ?_; rintro e w2 ⟨rfl, hw2⟩; obtain rfl := hw2.symm; dsimp only))
  go_ret
  exact ⟨rfl, by go_grown⟩
theorem outB_eq (lo hi n : Int) : outB lo hi n = !inB n lo hi := by
  unfold outB inB
  rw [Bool.eq_iff_iff]
  simp
theorem MBeyondOne_any (x lo hi : Int) (a : Nat) (w : World) (h : w.cell? ⟨a, 0, none⟩ = some (.int .i64 x)) :
    Calls Tryz.prog 22 #[.int .i64 lo, .int .i64 hi, .slice (some ⟨a, 0, none⟩) 1 1] w fun e w' => e = .returned (.bool (!inB x lo hi)) ∧ Below w.heap.size w w' := by
  have := MBeyond_any (some ⟨a, 0, none⟩) [x] 1 lo hi w (by simp) (fun i hi => by have e : i = 0 := (by simp at hi; omega); subst e; exact ⟨a, 0, rfl, lt_of_cell h, by simpa using h⟩)
  simpa [outB_eq] using this
end Go.Proofs.YtcgplocmncionaaGreat
namespace Go.Proofs.YtcgplocmncionaaGreat
open Go Go.RowKit

/-- What the rune at a position is like, by its byte. -/
theorem rune_ways (s : ByteArray) (k : Nat) (h : k < s.size) :
    ((low s[k] || (decide (0 < k) && late s[k])) = true ∧ (Utf8.decode s k).2 = 1 ∧ ((97 ≤ (Utf8.decode s k).1 ∧ (Utf8.decode s k).1 ≤ 122) ∨ (0 < k ∧ (Utf8.decode s k).1 = 46) ∨ (0 < k ∧ 48 ≤ (Utf8.decode s k).1 ∧ (Utf8.decode s k).1 ≤ 57))) ∨
    ((low s[k] || (decide (0 < k) && late s[k])) = false ∧ ((Utf8.decode s k).1 < 97 ∨ 122 < (Utf8.decode s k).1) ∧ (k = 0 ∨ ((Utf8.decode s k).1 ≠ 46 ∧ ((Utf8.decode s k).1 < 48 ∨ 57 < (Utf8.decode s k).1)))) := by
  by_cases ha : (s[k]'h).toNat < 128
  · rw [decode_ascii s k h ha]
    simp only [low, late]
    generalize (s[k]'h).toNat = c
    cases hg : (decide (97 ≤ c) && decide (c ≤ 122) || decide (0 < k) && (c == 46 || decide (48 ≤ c) && decide (c ≤ 57)))
    · right
      simp at hg
      refine ⟨by trivial, ?_, ?_⟩ <;> omega
    · left
      simp at hg
      refine ⟨by trivial, by trivial, ?_⟩
      omega
  · have hh := decode_high s k h (by omega)
    right
    refine ⟨?_, by omega, by omega⟩
    simp only [low, late]
    generalize (s[k]'h).toNat = c at ha
    simp
    omega

theorem below_iter (w : World) (s : ByteArray) (p : Nat) : Below w.heap.size w (w.iter s p) := (Below.refl _ _).alloc (Nat.le_refl _) (.stringIter s p)

set_option maxHeartbeats 4000000 in
theorem EarName_any (s : ByteArray) (w : World) (hs : s.size ≤ 9223372036854775807) :
    Calls Tryz.prog 83 #[.string s] w fun e w' => e = .returned (.bool (nameB s)) ∧ Below w.heap.size w w' := by
  have HN : Hid (nameB s = (decide (1 ≤ s.size) && decide (s.size ≤ 16) && nameFrom 0 s.data.toList)) := rfl
  generalize nameB s = r at HN ⊢
  go_enter Tryz.func83, Tryz.ntmps83
  go_wp2
  go_loopw [3] (fun x w' => ∃ pos : Nat, pos ≤ s.size ∧ w' = w.iter s pos ∧ Hid (nameFrom 0 s.data.toList = nameFrom pos (s.data.toList.drop pos))) (fun _ w' => s.size - w'.iterPos w.heap.size)
  case atStart => exact ⟨0, Nat.zero_le _, rfl, rfl⟩
  case round =>
    obtain ⟨pos, hpl, rfl, HP⟩ := hrel
    by_cases hp : pos < s.size
    · have hnx := fun ty => run_next_any (P := Tryz.prog) w s pos ty hp
      have hw := rune_ways s pos hp
      have hd := Lib.hid (name_drop s pos hp)
      generalize (low s[pos] || (decide (0 < pos) && late s[pos])) = g at hw hd
      generalize (Utf8.decode s pos).1 = R at hnx hw
      generalize (Utf8.decode s pos).2 = W at hnx hw
      rcases hw with ⟨rfl, rfl, hw⟩ | ⟨rfl, hw, hw2⟩
      · have HP2 := Lib.hid (show nameFrom 0 s.data.toList = nameFrom (pos + 1) (s.data.toList.drop (pos + 1)) by rw [HP.out, hd.out]; simp)
        rcases hw with ⟨a1, a2⟩ | ⟨a1, a2⟩ | ⟨a1, a2, a3⟩
        · go_wp2
          exact ⟨⟨pos + 1, by omega, rfl, HP2⟩, by simp; omega⟩
        · subst a2
          have e0 : ((pos : Int) == 0) = false := eqi_f (by omega)
          go_wp2
          exact ⟨⟨pos + 1, by omega, rfl, HP2⟩, by simp; omega⟩
        · have e0 : ((pos : Int) == 0) = false := eqi_f (by omega)
          have e1 : ((R : Int) != 46) = true := nei_t (by omega)
          have e2 : ¬ (R : Int) < 48 := by omega
          have e3 : ¬ (57 : Int) < (R : Int) := by omega
          go_wp2
          exact ⟨⟨pos + 1, by omega, rfl, HP2⟩, by simp; omega⟩
      · have HB := Lib.hid (show r = false by rw [HN.out, HP.out, hd.out]; simp)
        rcases hw with a1 | a1
        · rcases hw2 with rfl | ⟨b1, b2⟩
          · go_wp2
            go_ret
            exact ⟨ret_bool HB.out.symm, below_iter _ _ _⟩
          · have e1 : ((R : Int) != 46) = true := nei_t (by omega)
            by_cases hz : pos = 0
            · subst hz
              go_wp2
              go_ret
              exact ⟨ret_bool HB.out.symm, below_iter _ _ _⟩
            · have e0 : ((pos : Int) == 0) = false := eqi_f (by omega)
              rcases b2 with b2 | b2
              · go_wp2
                go_ret
                exact ⟨ret_bool HB.out.symm, below_iter _ _ _⟩
              · have e2 : ¬ (R : Int) < 48 := by omega
                have e3 : (57 : Int) < (R : Int) := by omega
                go_wp2
                go_ret
                exact ⟨ret_bool HB.out.symm, below_iter _ _ _⟩
        · have e4 : ¬ (R : Int) ≤ 122 := by omega
          have e5 : (97 : Int) ≤ (R : Int) := by omega
          rcases hw2 with rfl | ⟨b1, b2⟩
          · go_wp2
            go_ret
            exact ⟨ret_bool HB.out.symm, below_iter _ _ _⟩
          · have e1 : ((R : Int) != 46) = true := nei_t (by omega)
            by_cases hz : pos = 0
            · subst hz
              go_wp2
              go_ret
              exact ⟨ret_bool HB.out.symm, below_iter _ _ _⟩
            · have e0 : ((pos : Int) == 0) = false := eqi_f (by omega)
              rcases b2 with b2 | b2
              · omega
              · have e2 : ¬ (R : Int) < 48 := by omega
                have e3 : (57 : Int) < (R : Int) := by omega
                go_wp2
                go_ret
                exact ⟨ret_bool HB.out.symm, below_iter _ _ _⟩
    · obtain rfl : pos = s.size := by omega
      have hnx := fun ty => run_next_end (P := Tryz.prog) w s s.size ty hp
      have HP2 := Lib.hid (show r = (decide (1 ≤ s.size) && decide (s.size ≤ 16)) by rw [HN.out, HP.out, List.drop_of_length_le (by simp)]; simp [nameFrom])
      have B := Lib.hid (fun (W : World) (a : Nat) (h : W.cell? ⟨a, 0, none⟩ = some (.int .i64 s.size)) => EBeyond_any (some ⟨a, 0, none⟩) [(s.size : Int)] 1 1 16 W (by simp) (fun i hi => by have e : i = 0 := (by simp at hi; omega); subst e; exact ⟨a, 0, rfl, lt_of_cell h, by simpa using h⟩))
      go_wp2_with fail
      refine (B.out _ _ ?_).mono ?_
      · exact blk_cell 0 (blk_new _ _) rfl
      · rintro e w2 ⟨rfl, hb⟩
        dsimp only
        go_wp2
        go_ret
        exact ⟨ret_bool (by rw [HP2.out]; simp only [List.any_cons, List.any_nil, Bool.or_false, outB, Bool.not_or]; congr 1 <;> (rw [← decide_not]; congr 1; apply propext; omega)), ((below_iter w s s.size).alloc (by simp [World.iter]) _).trans (hb.mono (by simp [World.iter]; omega))⟩
end Go.Proofs.YtcgplocmncionaaGreat
namespace Go.Proofs.YtcgplocmncionaaGreat
open Go Go.RowKit

set_option maxHeartbeats 1000000 in
theorem IndexS_any (a : Option Addr) (l : List ByteArray) (c : Nat) (s : ByteArray) (w : World) (hl : l.length ≤ 9223372036854775807) (hi : StrsC w a l) :
    Calls Tryz.prog 109 #[.slice a l.length c, .string s] w fun e w' => ∃ k : Int, e = .returned (.int .i64 k) ∧ Hid (decide (0 ≤ k) = hasS l s) ∧ w' = w := by
  go_enter Tryz.func109, Tryz.ntmps109
  go_wp2
  go_loop [8] (fun i => ∃ k : Nat, k ≤ l.length ∧ i = .int .i64 k ∧ Hid (∀ j (_ : j < k) (h : j < l.length), decide (l[j] = s) = false)) (fun i => l.length - (intOf i).toNat)
  case atStart => exact ⟨0, Nat.zero_le _, rfl, Lib.hid (fun j h => absurd h (Nat.not_lt_zero j))⟩
  case round =>
    obtain ⟨k, hk, rfl, HR⟩ := hrel
    by_cases hlt : k < l.length
    · obtain ⟨b, off, rfl, hb, hx⟩ := hi k hlt
      have HT := Lib.hid (fun (h : decide (l[k] = s) = true) => (any_lt hlt h : l.any (fun x => decide (x = s)) = true))
      have HN := Lib.hid (fun (h : decide (l[k] = s) = false) => show ∀ j (_ : j < k + 1) (h : j < l.length), decide (l[j] = s) = false from fun j hj hjl => if hjk : j < k then HR.out j hjk hjl else (by have e : j = k := (by omega); subst e; exact h))
      generalize l[k] = x at hx HT HN
      by_cases he : x = s
      · replace HT := Lib.hid (HT.out (decide_eq_true he))
        have he2 := str_eq s x
        subst he
        clear HN
        go_wp2
        go_ret
        exact ⟨_, rfl, Lib.hid (by show _ = l.any _; rw [HT.out]; simp), rfl⟩
      · replace HN := Lib.hid (HN.out (decide_eq_false he))
        have he2 : (s.toList == x.toList) = false := (str_eq s x).trans (decide_eq_false (fun e => he e.symm))
        clear HT
        go_wp2
        go_round
        case rel => exact ⟨k + 1, by omega, by go_num, HN⟩
        case measure => simp [intOf]; omega
    · obtain rfl : k = l.length := by omega
      go_wp2
      go_ret
      exact ⟨_, rfl, Lib.hid (by show _ = l.any _; rw [any_not (fun j h => HR.out j h h)]; simp), rfl⟩

set_option maxHeartbeats 1000000 in
theorem ContainsS_any (a : Option Addr) (l : List ByteArray) (c : Nat) (s : ByteArray) (w : World) (hl : l.length ≤ 9223372036854775807) (hi : StrsC w a l) :
    Calls Tryz.prog 84 #[.slice a l.length c, .string s] w fun e w' => e = .returned (.bool (hasS l s)) ∧ w' = w := by
  have I := Lib.hid (IndexS_any a l c s w hl hi)
  generalize hasS l s = r at I ⊢
  cases r
  · go_enter Tryz.func84, Tryz.ntmps84
    go_wp2_with (go_at_call 109; go_must (refine I.out.mono ?_; rintro e w2 ⟨k, rfl, hk, hw2⟩; obtain rfl := hw2.symm; have hk2 : ¬ 0 ≤ k := of_decide_eq_false hk.out; dsimp only))
    go_ret
    exact ⟨rfl, rfl⟩
  · go_enter Tryz.func84, Tryz.ntmps84
    go_wp2_with (go_at_call 109; go_must (refine I.out.mono ?_; rintro e w2 ⟨k, rfl, hk, hw2⟩; obtain rfl := hw2.symm; have hk2 : 0 ≤ k := of_decide_eq_true hk.out; dsimp only))
    go_ret
    exact ⟨rfl, rfl⟩
end Go.Proofs.YtcgplocmncionaaGreat
