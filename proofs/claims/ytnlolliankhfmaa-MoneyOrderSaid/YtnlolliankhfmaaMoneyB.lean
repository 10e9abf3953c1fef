/- What is proved here: contracts of the program's Check of layer 7: its third closure, further ways. Conditions: the list lies in memory. -/
/- What is proved here: contracts of the program's Check of layer 7: its third closure, the last ways. Conditions: the list lies in memory. -/
/- What is proved here: contracts of the program's Check of layer 7: its third closure, whole; failing over words. Conditions: the list lies in memory. -/
/- What is proved here: contracts of the program's Check of layer 7: its second closure's search for a name. Conditions: the list lies in memory. -/
import Derived.Test.YtnlolliankhfmaaMoneyA
set_option linter.unusedVariables false
set_option linter.unusedSimpArgs false
namespace Go.Proofs.Ytnlolliankhfmaa
open Go Go.RowKit

set_option maxRecDepth 100000 in
set_option maxHeartbeats 4000000 in
theorem MCheck3_of (ac az aw ap : Option Addr) (cc cz cw cp : Nat) (m : MoList) (i B : Nat) (w : World) (hm : ListC w ac az aw ap cc cz cw cp m) (hi : i < m.words.length) (c0 : w.cell? ⟨B, 0, none⟩ = some (.slice ac m.claimants.length cc)) (c1 : w.cell? ⟨B, 1, none⟩ = some (.slice az m.sums.length cz)) (c2 : w.cell? ⟨B, 2, none⟩ = some (.slice aw m.words.length cw))
    (says sum of back OF : Int) (came : Bool) (hs : inB says 0 3 = true) (hs1 : inB sum 0 (m.sums.length - 1) = true) (hOF : OF = if 2 ≤ says then (m.sums.length : Int) else m.claimants.length) (hs2 : inB of 0 (OF - 1) = false)  :
    Calls Try.prog 67 #[.int .i64 i, .agg #[.int .i64 says, .int .i64 sum, .int .i64 of, .int .i64 back, .bool came], .pointer (some ⟨B, 0, none⟩)] w fun e w' => e = .returned (.int .i64 4) ∧ Below w.heap.size w w' := by
  have l1 := hm.okc.len
  have l2 := hm.okz.len
  have l3 := hm.okw.len
  have B0 := fun (a : Nat) (W : World) h => MBeyondOne_any says 0 3 a W h
  rw [hs] at B0
  have B0 := Lib.hid B0
  have B1 := fun (a : Nat) (W : World) h => MBeyondOne_any sum 0 (m.sums.length - 1) a W h
  rw [hs1] at B1
  have B1 := Lib.hid B1
  have B2 := fun (a : Nat) (W : World) h => MBeyondOne_any of 0 (OF - 1) a W h
  rw [hs2] at B2
  skip
  have hB := lt_of_cell c0
  have hQ0 := Below.refl (w.heap.size + 1) (w.alloc (.cells #[.int .i64 says, .int .i64 sum, .int .i64 of, .int .i64 back, .bool came] 70))
  clear hs hs1 hs2
  by_cases h2 : 2 ≤ says
  all_goals (first | rw [if_pos h2] at hOF | rw [if_neg h2] at hOF)
  all_goals
    subst hOF
    have B2 := Lib.hid B2
    go_enter Try.func67, Try.ntmps67
    go_wp2_with (first | (go_at_call 65; (with_reducible refine (B2.out _ _ ?_).mono ?_); (simp); rintro e w3 ⟨rfl, hb3⟩; have hQ3 := (hQ2.alloc (box_size hQ2) (.cells #[.int .i64 of] 3)).trans (hb3.mono (by have := box_size hQ2; simp; omega)); obtain ⟨c03, c13, c23⟩ : _ ∧ _ ∧ _ := ⟨cell_below (box_old hQ3) c0, cell_below (box_old hQ3) c1, cell_below (box_old hQ3) c2⟩; have x03 := box_cell hQ3 0 _ rfl; have x13 := box_cell hQ3 1 _ rfl; have x23 := box_cell hQ3 2 _ rfl; have x33 := box_cell hQ3 3 _ rfl; have y13 := lt_of_cell c03; have y23 := lt_of_cell x03; dsimp only) | (go_at_call 65; (with_reducible refine (B1.out _ _ ?_).mono ?_); (simp); rintro e w2 ⟨rfl, hb2⟩; have hQ2 := (hQ1.alloc (box_size hQ1) (.cells #[.int .i64 sum] 3)).trans (hb2.mono (by have := box_size hQ1; simp; omega)); obtain ⟨c02, c12, c22⟩ : _ ∧ _ ∧ _ := ⟨cell_below (box_old hQ2) c0, cell_below (box_old hQ2) c1, cell_below (box_old hQ2) c2⟩; have x02 := box_cell hQ2 0 _ rfl; have x12 := box_cell hQ2 1 _ rfl; have x22 := box_cell hQ2 2 _ rfl; have x32 := box_cell hQ2 3 _ rfl; have y12 := lt_of_cell c02; have y22 := lt_of_cell x02; dsimp only) | (go_at_call 65; (with_reducible refine (B0.out _ _ ?_).mono ?_); (simp); rintro e w1 ⟨rfl, hb1⟩; have hQ1 := (hQ0.alloc (box_size hQ0) (.cells #[.int .i64 says] 3)).trans (hb1.mono (by have := box_size hQ0; simp)); obtain ⟨c01, c11, c21⟩ : _ ∧ _ ∧ _ := ⟨cell_below (box_old hQ1) c0, cell_below (box_old hQ1) c1, cell_below (box_old hQ1) c2⟩; have x01 := box_cell hQ1 0 _ rfl; have x11 := box_cell hQ1 1 _ rfl; have x21 := box_cell hQ1 2 _ rfl; have x31 := box_cell hQ1 3 _ rfl; have y11 := lt_of_cell c01; have y21 := lt_of_cell x01; dsimp only))
    go_ret
    exact ⟨rfl, box_old hQ3⟩

set_option maxRecDepth 100000 in
set_option maxHeartbeats 4000000 in
theorem MCheck3_back (ac az aw ap : Option Addr) (cc cz cw cp : Nat) (m : MoList) (i B : Nat) (w : World) (hm : ListC w ac az aw ap cc cz cw cp m) (hi : i < m.words.length) (c0 : w.cell? ⟨B, 0, none⟩ = some (.slice ac m.claimants.length cc)) (c1 : w.cell? ⟨B, 1, none⟩ = some (.slice az m.sums.length cz)) (c2 : w.cell? ⟨B, 2, none⟩ = some (.slice aw m.words.length cw))
    (says sum of back OF : Int) (came : Bool) (hs : inB says 0 3 = true) (hs1 : inB sum 0 (m.sums.length - 1) = true) (hOF : OF = if 2 ≤ says then (m.sums.length : Int) else m.claimants.length) (hs2 : inB of 0 (OF - 1) = true) (hs3 : inB back (-1) (m.words.length - 1) = false) :
    Calls Try.prog 67 #[.int .i64 i, .agg #[.int .i64 says, .int .i64 sum, .int .i64 of, .int .i64 back, .bool came], .pointer (some ⟨B, 0, none⟩)] w fun e w' => e = .returned (.int .i64 4) ∧ Below w.heap.size w w' := by
  have l1 := hm.okc.len
  have l2 := hm.okz.len
  have l3 := hm.okw.len
  have B0 := fun (a : Nat) (W : World) h => MBeyondOne_any says 0 3 a W h
  rw [hs] at B0
  have B0 := Lib.hid B0
  have B1 := fun (a : Nat) (W : World) h => MBeyondOne_any sum 0 (m.sums.length - 1) a W h
  rw [hs1] at B1
  have B1 := Lib.hid B1
  have B2 := fun (a : Nat) (W : World) h => MBeyondOne_any of 0 (OF - 1) a W h
  rw [hs2] at B2
  have B3 := fun (a : Nat) (W : World) h => MBeyondOne_any back (-1) (m.words.length - 1) a W h
  rw [hs3] at B3
  have B3 := Lib.hid B3
  have hB := lt_of_cell c0
  have hQ0 := Below.refl (w.heap.size + 1) (w.alloc (.cells #[.int .i64 says, .int .i64 sum, .int .i64 of, .int .i64 back, .bool came] 70))
  clear hs hs1 hs2
  by_cases h2 : 2 ≤ says
  all_goals (first | rw [if_pos h2] at hOF | rw [if_neg h2] at hOF)
  all_goals
    subst hOF
    have B2 := Lib.hid B2
    go_enter Try.func67, Try.ntmps67
    go_wp2_with (first | (go_at_call 65; (with_reducible refine (B3.out _ _ ?_).mono ?_); (simp); rintro e w4 ⟨rfl, hb4⟩; have hQ4 := (hQ3.alloc (box_size hQ3) (.cells #[.int .i64 back] 3)).trans (hb4.mono (by have := box_size hQ3; simp; omega)); obtain ⟨c04, c14, c24⟩ : _ ∧ _ ∧ _ := ⟨cell_below (box_old hQ4) c0, cell_below (box_old hQ4) c1, cell_below (box_old hQ4) c2⟩; have x04 := box_cell hQ4 0 _ rfl; have x14 := box_cell hQ4 1 _ rfl; have x24 := box_cell hQ4 2 _ rfl; have x34 := box_cell hQ4 3 _ rfl; have y14 := lt_of_cell c04; have y24 := lt_of_cell x04; dsimp only) | (go_at_call 65; (with_reducible refine (B2.out _ _ ?_).mono ?_); (simp); rintro e w3 ⟨rfl, hb3⟩; have hQ3 := (hQ2.alloc (box_size hQ2) (.cells #[.int .i64 of] 3)).trans (hb3.mono (by have := box_size hQ2; simp; omega)); obtain ⟨c03, c13, c23⟩ : _ ∧ _ ∧ _ := ⟨cell_below (box_old hQ3) c0, cell_below (box_old hQ3) c1, cell_below (box_old hQ3) c2⟩; have x03 := box_cell hQ3 0 _ rfl; have x13 := box_cell hQ3 1 _ rfl; have x23 := box_cell hQ3 2 _ rfl; have x33 := box_cell hQ3 3 _ rfl; have y13 := lt_of_cell c03; have y23 := lt_of_cell x03; dsimp only) | (go_at_call 65; (with_reducible refine (B1.out _ _ ?_).mono ?_); (simp); rintro e w2 ⟨rfl, hb2⟩; have hQ2 := (hQ1.alloc (box_size hQ1) (.cells #[.int .i64 sum] 3)).trans (hb2.mono (by have := box_size hQ1; simp; omega)); obtain ⟨c02, c12, c22⟩ : _ ∧ _ ∧ _ := ⟨cell_below (box_old hQ2) c0, cell_below (box_old hQ2) c1, cell_below (box_old hQ2) c2⟩; have x02 := box_cell hQ2 0 _ rfl; have x12 := box_cell hQ2 1 _ rfl; have x22 := box_cell hQ2 2 _ rfl; have x32 := box_cell hQ2 3 _ rfl; have y12 := lt_of_cell c02; have y22 := lt_of_cell x02; dsimp only) | (go_at_call 65; (with_reducible refine (B0.out _ _ ?_).mono ?_); (simp); rintro e w1 ⟨rfl, hb1⟩; have hQ1 := (hQ0.alloc (box_size hQ0) (.cells #[.int .i64 says] 3)).trans (hb1.mono (by have := box_size hQ0; simp)); obtain ⟨c01, c11, c21⟩ : _ ∧ _ ∧ _ := ⟨cell_below (box_old hQ1) c0, cell_below (box_old hQ1) c1, cell_below (box_old hQ1) c2⟩; have x01 := box_cell hQ1 0 _ rfl; have x11 := box_cell hQ1 1 _ rfl; have x21 := box_cell hQ1 2 _ rfl; have x31 := box_cell hQ1 3 _ rfl; have y11 := lt_of_cell c01; have y21 := lt_of_cell x01; dsimp only))
    go_ret
    exact ⟨rfl, box_old hQ4⟩
end Go.Proofs.Ytnlolliankhfmaa
namespace Go.Proofs.Ytnlolliankhfmaa
open Go Go.RowKit
set_option maxRecDepth 100000 in
set_option maxHeartbeats 4000000 in
theorem MCheck3_end (ac az aw ap : Option Addr) (cc cz cw cp : Nat) (m : MoList) (i B : Nat) (w : World) (hm : ListC w ac az aw ap cc cz cw cp m) (hi : i < m.words.length) (c0 : w.cell? ⟨B, 0, none⟩ = some (.slice ac m.claimants.length cc)) (c1 : w.cell? ⟨B, 1, none⟩ = some (.slice az m.sums.length cz)) (c2 : w.cell? ⟨B, 2, none⟩ = some (.slice aw m.words.length cw))
    (says sum of back OF : Int) (came : Bool) (hs : inB says 0 3 = true) (hs1 : inB sum 0 (m.sums.length - 1) = true) (hOF : OF = if 2 ≤ says then (m.sums.length : Int) else m.claimants.length) (hs2 : inB of 0 (OF - 1) = true) (hs3 : inB back (-1) (m.words.length - 1) = true) :
    Calls Try.prog 67 #[.int .i64 i, .agg #[.int .i64 says, .int .i64 sum, .int .i64 of, .int .i64 back, .bool came], .pointer (some ⟨B, 0, none⟩)] w fun e w' => e = .returned (.int .i64 (if back = (i : Int) ∨ (2 ≤ says ∧ of = sum) then 2 else 0)) ∧ Below w.heap.size w w' := by
  have l1 := hm.okc.len
  have l2 := hm.okz.len
  have l3 := hm.okw.len
  have B0 := fun (a : Nat) (W : World) h => MBeyondOne_any says 0 3 a W h
  rw [hs] at B0
  have B0 := Lib.hid B0
  have B1 := fun (a : Nat) (W : World) h => MBeyondOne_any sum 0 (m.sums.length - 1) a W h
  rw [hs1] at B1
  have B1 := Lib.hid B1
  have B2 := fun (a : Nat) (W : World) h => MBeyondOne_any of 0 (OF - 1) a W h
  rw [hs2] at B2
  have B3 := fun (a : Nat) (W : World) h => MBeyondOne_any back (-1) (m.words.length - 1) a W h
  rw [hs3] at B3
  have B3 := Lib.hid B3
  have hB := lt_of_cell c0
  have hQ0 := Below.refl (w.heap.size + 1) (w.alloc (.cells #[.int .i64 says, .int .i64 sum, .int .i64 of, .int .i64 back, .bool came] 70))
  clear hs hs1 hs2
  obtain ⟨r, hr⟩ : ∃ r : Int, r = if back = (i : Int) ∨ (2 ≤ says ∧ of = sum) then (2 : Int) else 0 := ⟨_, rfl⟩
  rw [← hr]
  have HR := Lib.hid hr
  clear hr
  by_cases h2 : 2 ≤ says
  all_goals (first | rw [if_pos h2] at hOF | rw [if_neg h2] at hOF)
  all_goals by_cases hb : back = (i : Int)
  all_goals by_cases ho : of = sum
  all_goals have HX := Lib.hid (show r = _ from by have h := HR.out; simp only [hb, ho, h2, true_or, and_self, and_true, and_false, or_false, false_or, or_true, if_true, if_false, true_and, false_and] at h; exact h)
  all_goals (first | have hb2 := eqi_t hb | have hb2 := eqi_f hb)
  all_goals (first | have ho2 := eqi_t ho | have ho2 := eqi_f ho)
  all_goals
    clear HR hb ho
    subst hOF
    have B2 := Lib.hid B2
    go_enter Try.func67, Try.ntmps67
    go_wp2_with (first | (go_at_call 65; (with_reducible refine (B3.out _ _ ?_).mono ?_); (simp); rintro e w4 ⟨rfl, hb4⟩; have hQ4 := (hQ3.alloc (box_size hQ3) (.cells #[.int .i64 back] 3)).trans (hb4.mono (by have := box_size hQ3; simp; omega)); obtain ⟨c04, c14, c24⟩ : _ ∧ _ ∧ _ := ⟨cell_below (box_old hQ4) c0, cell_below (box_old hQ4) c1, cell_below (box_old hQ4) c2⟩; have x04 := box_cell hQ4 0 _ rfl; have x14 := box_cell hQ4 1 _ rfl; have x24 := box_cell hQ4 2 _ rfl; have x34 := box_cell hQ4 3 _ rfl; have y14 := lt_of_cell c04; have y24 := lt_of_cell x04; dsimp only) | (go_at_call 65; (with_reducible refine (B2.out _ _ ?_).mono ?_); (simp); rintro e w3 ⟨rfl, hb3⟩; have hQ3 := (hQ2.alloc (box_size hQ2) (.cells #[.int .i64 of] 3)).trans (hb3.mono (by have := box_size hQ2; simp; omega)); obtain ⟨c03, c13, c23⟩ : _ ∧ _ ∧ _ := ⟨cell_below (box_old hQ3) c0, cell_below (box_old hQ3) c1, cell_below (box_old hQ3) c2⟩; have x03 := box_cell hQ3 0 _ rfl; have x13 := box_cell hQ3 1 _ rfl; have x23 := box_cell hQ3 2 _ rfl; have x33 := box_cell hQ3 3 _ rfl; have y13 := lt_of_cell c03; have y23 := lt_of_cell x03; dsimp only) | (go_at_call 65; (with_reducible refine (B1.out _ _ ?_).mono ?_); (simp); rintro e w2 ⟨rfl, hb2⟩; have hQ2 := (hQ1.alloc (box_size hQ1) (.cells #[.int .i64 sum] 3)).trans (hb2.mono (by have := box_size hQ1; simp; omega)); obtain ⟨c02, c12, c22⟩ : _ ∧ _ ∧ _ := ⟨cell_below (box_old hQ2) c0, cell_below (box_old hQ2) c1, cell_below (box_old hQ2) c2⟩; have x02 := box_cell hQ2 0 _ rfl; have x12 := box_cell hQ2 1 _ rfl; have x22 := box_cell hQ2 2 _ rfl; have x32 := box_cell hQ2 3 _ rfl; have y12 := lt_of_cell c02; have y22 := lt_of_cell x02; dsimp only) | (go_at_call 65; (with_reducible refine (B0.out _ _ ?_).mono ?_); (simp); rintro e w1 ⟨rfl, hb1⟩; have hQ1 := (hQ0.alloc (box_size hQ0) (.cells #[.int .i64 says] 3)).trans (hb1.mono (by have := box_size hQ0; simp)); obtain ⟨c01, c11, c21⟩ : _ ∧ _ ∧ _ := ⟨cell_below (box_old hQ1) c0, cell_below (box_old hQ1) c1, cell_below (box_old hQ1) c2⟩; have x01 := box_cell hQ1 0 _ rfl; have x11 := box_cell hQ1 1 _ rfl; have x21 := box_cell hQ1 2 _ rfl; have x31 := box_cell hQ1 3 _ rfl; have y11 := lt_of_cell c01; have y21 := lt_of_cell x01; dsimp only))
    go_ret
    exact ⟨ret_int HX.out.symm, box_old hQ4⟩
end Go.Proofs.Ytnlolliankhfmaa
namespace Go.Proofs.Ytnlolliankhfmaa
open Go Go.RowKit

theorem MCheck3_any (ac az aw ap : Option Addr) (cc cz cw cp : Nat) (m : MoList) (i B : Nat) (w : World) (hm : ListC w ac az aw ap cc cz cw cp m) (hi : i < m.words.length) (c0 : w.cell? ⟨B, 0, none⟩ = some (.slice ac m.claimants.length cc)) (c1 : w.cell? ⟨B, 1, none⟩ = some (.slice az m.sums.length cz)) (c2 : w.cell? ⟨B, 2, none⟩ = some (.slice aw m.words.length cw)) :
    Calls Try.prog 67 #[.int .i64 i, .agg #[.int .i64 m.words[i].says, .int .i64 m.words[i].sum, .int .i64 m.words[i].of, .int .i64 m.words[i].back, .bool m.words[i].came], .pointer (some ⟨B, 0, none⟩)] w fun e w' => e = .returned (.int .i64 (wordErr m i)) ∧ Below w.heap.size w w' := by
  have HE : wordErr m i = wordErrOf m.claimants.length m.sums.length m.words.length i m.words[i] := by unfold wordErr; rw [List.getElem?_eq_getElem hi]
  rw [HE]
  clear HE
  generalize m.words[i] = wd
  obtain ⟨says, sum, of, back, came⟩ := wd
  unfold wordErrOf
  simp only
  cases h0 : inB says 0 3
  · simp only [Bool.false_eq_true, if_false]
    exact MCheck3_bad ac az aw ap cc cz cw cp m i B w hm hi c0 c1 c2 says sum of back came h0
  · simp only [if_true]
    cases h1 : inB sum 0 (m.sums.length - 1)
    · simp only [Bool.false_and, Bool.false_eq_true, if_false]
      exact MCheck3_sum ac az aw ap cc cz cw cp m i B w hm hi c0 c1 c2 says sum of back came h0 h1
    · simp only [Bool.true_and]
      cases h2 : inB of 0 ((if 2 ≤ says then (m.sums.length : Int) else m.claimants.length) - 1)
      · simp only [Bool.false_and, Bool.false_eq_true, if_false]
        exact MCheck3_of ac az aw ap cc cz cw cp m i B w hm hi c0 c1 c2 says sum of back _ came h0 h1 rfl h2
      · simp only [Bool.true_and]
        cases h3 : inB back (-1) (m.words.length - 1)
        · simp only [Bool.false_eq_true, if_false]
          exact MCheck3_back ac az aw ap cc cz cw cp m i B w hm hi c0 c1 c2 says sum of back _ came h0 h1 rfl h2 h3
        · simp only [if_true]
          exact MCheck3_end ac az aw ap cc cz cw cp m i B w hm hi c0 c1 c2 says sum of back _ came h0 h1 rfl h2 h3

set_option maxHeartbeats 2000000 in
theorem MFail3_any (ac az aw ap : Option Addr) (cc cz cw cp : Nat) (m : MoList) (B : Nat) (w : World) (hm : ListC w ac az aw ap cc cz cw cp m) (c0 : w.cell? ⟨B, 0, none⟩ = some (.slice ac m.claimants.length cc)) (c1 : w.cell? ⟨B, 1, none⟩ = some (.slice az m.sums.length cz)) (c2 : w.cell? ⟨B, 2, none⟩ = some (.slice aw m.words.length cw)) :
    Calls Try.prog 66 #[.slice aw m.words.length cw, .int .i64 6, .func (.func 67) #[] #[.pointer (some ⟨B, 0, none⟩)]] w fun e w' => e = .returned (.tuple #[.int .i64 (failOf m.words.length 6 (wordErr m)).1, .int .i64 (failOf m.words.length 6 (wordErr m)).2]) ∧ Below w.heap.size w w' := by
  have l1 := hm.okw.len
  obtain ⟨r, hr⟩ : ∃ r, r = failOf m.words.length 6 (wordErr m) := ⟨_, rfl⟩
  rw [← hr]
  have Hr := Lib.hid hr
  clear hr
  by_cases hlong : 6 < m.words.length
  · have hl2 : (6 : Int) < (m.words.length : Int) := by omega
    go_enter Try.func66, Try.ntmps66
    go_wp2
    go_ret2
    have := Hr.out.trans (failOf_long hlong)
    subst this
    exact ⟨rfl, by go_grown⟩
  · have hl2 : ¬ (6 : Int) < (m.words.length : Int) := by omega
    go_enter Try.func66, Try.ntmps66
    go_wp2
    go_loopw [17] (fun i wr => ∃ k : Nat, k ≤ m.words.length ∧ i = .int .i64 k ∧ Hid (∀ j, j < k → wordErr m j = 0) ∧ Below w.heap.size w wr) (fun i _ => m.words.length - (intOf i).toNat)
    case atStart => exact ⟨0, Nat.zero_le _, rfl, Lib.hid (fun j h => absurd h (Nat.not_lt_zero j)), Below.refl _ _⟩
    case round =>
      obtain ⟨k, hk, rfl, HZ, hbw⟩ := hrel
      by_cases hlt : k < m.words.length
      · have K := Lib.hid (fun (W : World) (h : Below w.heap.size w W) => MCheck3_any ac az aw ap cc cz cw cp m k B W (hm.mono h) hlt (cell_below h c0) (cell_below h c1) (cell_below h c2))
        obtain ⟨b, off, rfl, hb, e1, e2, e3, e4, e5⟩ := (hm.mono hbw).words k hlt
        have HE := Lib.hid (fun (h : wordErr m k ≠ 0) => Hr.out.trans (failOf_err (by omega) hlt HZ.out h))
        have HN := Lib.hid (fun (h : wordErr m k = 0) => show ∀ j, j < k + 1 → wordErr m j = 0 from fun j hj => if hjk : j < k then HZ.out j hjk else (by have e : j = k := (by omega); subst e; exact h))
        generalize wordErr m k = x at K HE HN
        generalize m.words[k] = s at K e1 e2 e3 e4 e5
        obtain ⟨says, sum, of, back, came⟩ := s
        simp only at K e1 e2 e3 e4 e5
        by_cases hx : x = 0
        · have hx2 := nei_f hx
          replace HN := Lib.hid (HN.out hx)
          subst hx
          clear HE
          go_wp2_with (go_at_call 67; go_must (refine (K.out _ (hbw.alloc hbw.size _)).mono ?_; rintro e w2 ⟨rfl, hb2⟩; have hbn := (hbw.alloc hbw.size (.cells #[.int .i64 says, .int .i64 sum, .int .i64 of, .int .i64 back, .bool came] 70)).trans (hb2.mono (by have := hbw.size; simp; omega)); dsimp only))
          go_roundw
          case rel => exact ⟨k + 1, by omega, by go_num, HN, hbn⟩
          case measure => simp [intOf]; omega
        · have hx2 := nei_t hx
          replace HE := Lib.hid (HE.out hx)
          clear HN hx
          go_wp2_with (go_at_call 67; go_must (refine (K.out _ (hbw.alloc hbw.size _)).mono ?_; rintro e w2 ⟨rfl, hb2⟩; have hbn := (hbw.alloc hbw.size (.cells #[.int .i64 says, .int .i64 sum, .int .i64 of, .int .i64 back, .bool came] 70)).trans (hb2.mono (by have := hbw.size; simp; omega)); dsimp only))
          go_ret2
          have := HE.out
          subst this
          exact ⟨rfl, hbn⟩
      · obtain rfl : k = m.words.length := by omega
        go_wp2
        go_ret2
        have := Hr.out.trans (failOf_ok (by omega) HZ.out)
        subst this
        exact ⟨rfl, hbw⟩
end Go.Proofs.Ytnlolliankhfmaa
namespace Go.Proofs.Ytnlolliankhfmaa
open Go Go.RowKit

set_option maxHeartbeats 1000000 in
theorem MSame_any (x : MoSum) (s : ByteArray) (p : Nat) (w : World) (h : w.cell? ⟨p, 0, none⟩ = some (.string s)) :
    Calls Try.prog 64 #[.agg #[.string x.name, .int .i64 x.pence, .int .i64 x.for_], .pointer (some ⟨p, 0, none⟩)] w fun e w' => e = .returned (.bool (decide (x.name = s))) ∧ Below w.heap.size w w' := by
  obtain ⟨name, pence, fo⟩ := x
  simp only
  have hp := lt_of_cell h
  by_cases he : name = s
  · have e2 := str_t he
    go_enter Try.func64, Try.ntmps64
    go_wp2
    go_ret
    exact ⟨ret_bool (by simp [he]), by go_grown⟩
  · have e2 := str_f he
    go_enter Try.func64, Try.ntmps64
    go_wp2
    go_ret
    exact ⟨ret_bool (by simp [he]), by go_grown⟩
theorem SumsC.take {w : World} {a : Option Addr} {l : List MoSum} (h : SumsC w a l) (k : Nat) : SumsC w a (l.take k) := fun i hi => by
  have hi' : i < l.length := by simp at hi; omega
  obtain ⟨b, off, e, hlt, h1, h2, h3⟩ := h i hi'
  exact ⟨b, off, e, hlt, by rw [h1]; simp, by rw [h2]; simp, by rw [h3]; simp⟩
set_option maxHeartbeats 1000000 in
theorem MSumIndex_any (a : Option Addr) (l : List MoSum) (c : Nat) (s : ByteArray) (p : Nat) (w : World) (hl : l.length ≤ 9223372036854775807) (hi' : SumsC w a l) (h : w.cell? ⟨p, 0, none⟩ = some (.string s)) :
    Calls Try.prog 97 #[.slice a l.length c, .func (.func 64) #[] #[.pointer (some ⟨p, 0, none⟩)]] w fun e w' => ∃ k : Int, e = .returned (.int .i64 k) ∧ Hid (decide (0 ≤ k) = l.any fun x => decide (x.name = s)) ∧ Below w.heap.size w w' := by
  go_enter Try.func97, Try.ntmps97
  go_wp2
  go_loopw [8] (fun i wr => ∃ k : Nat, k ≤ l.length ∧ i = .int .i64 k ∧ Hid (∀ j (_ : j < k) (h : j < l.length), decide (l[j].name = s) = false) ∧ Below w.heap.size w wr) (fun i _ => l.length - (intOf i).toNat)
  case atStart => exact ⟨0, Nat.zero_le _, rfl, Lib.hid (fun j h => absurd h (Nat.not_lt_zero j)), Below.refl _ _⟩
  case round =>
    obtain ⟨k, hk, rfl, HR, hbw⟩ := hrel
    by_cases hlt : k < l.length
    · obtain ⟨b, off, rfl, hb, hx1, hx2, hx3⟩ := hi'.mono hbw k hlt
      have B := MSame_any l[k] s p wr (cell_below hbw h)
      have HT := Lib.hid (fun (h : decide (l[k].name = s) = true) => (any_lt (f := fun x : MoSum => decide (x.name = s)) hlt h : l.any (fun x => decide (x.name = s)) = true))
      have HN := Lib.hid (fun (h : decide (l[k].name = s) = false) => show ∀ j (_ : j < k + 1) (h : j < l.length), decide (l[j].name = s) = false from fun j hj hjl => if hjk : j < k then HR.out j hjk hjl else (by have e : j = k := (by omega); subst e; exact h))
      generalize decide (l[k].name = s) = br at B HT HN
      have B := Lib.hid B
      cases br
      · go_wp2_with (go_at_call 64; go_must (refine B.out.mono ?_; rintro e w2 ⟨rfl, hb2⟩; dsimp only))
        go_roundw
        case rel => exact ⟨k + 1, by omega, by go_num, Lib.hid (HN.out (by trivial)), hbw.trans (hb2.mono hbw.size)⟩
        case measure => simp [intOf]; omega
      · go_wp2_with (go_at_call 64; go_must (refine B.out.mono ?_; rintro e w2 ⟨rfl, hb2⟩; dsimp only))
        go_ret
        exact ⟨_, rfl, Lib.hid (by rw [HT.out (by trivial)]; simp), hbw.trans (hb2.mono hbw.size)⟩
    · obtain rfl : k = l.length := by omega
      go_wp2
      go_ret
      exact ⟨_, rfl, Lib.hid (by rw [any_not (f := fun x : MoSum => decide (x.name = s)) (fun j h => HR.out j h h)]; simp), hbw⟩
set_option maxHeartbeats 1000000 in
theorem MSumContains_any (a : Option Addr) (l : List MoSum) (c : Nat) (s : ByteArray) (p : Nat) (w : World) (hl : l.length ≤ 9223372036854775807) (hi' : SumsC w a l) (h : w.cell? ⟨p, 0, none⟩ = some (.string s)) :
    Calls Try.prog 63 #[.slice a l.length c, .func (.func 64) #[] #[.pointer (some ⟨p, 0, none⟩)]] w fun e w' => e = .returned (.bool (l.any fun x => decide (x.name = s))) ∧ Below w.heap.size w w' := by
  have I := Lib.hid (MSumIndex_any a l c s p w hl hi' h)
  obtain ⟨r, hr⟩ : ∃ r, r = l.any fun x => decide (x.name = s) := ⟨_, rfl⟩
  rw [← hr] at I ⊢
  clear hr
  go_enter Try.func63, Try.ntmps63
  cases r
  · go_wp2_with (go_at_call 97; go_must (refine I.out.mono ?_; rintro e w2 ⟨k, rfl, hk, hb2⟩; have hk2 : ¬ 0 ≤ k := of_decide_eq_false hk.out; dsimp only))
    go_ret
    exact ⟨rfl, hb2⟩
  · go_wp2_with (go_at_call 97; go_must (refine I.out.mono ?_; rintro e w2 ⟨k, rfl, hk, hb2⟩; have hk2 : 0 ≤ k := of_decide_eq_true hk.out; dsimp only))
    go_ret
    exact ⟨rfl, hb2⟩
end Go.Proofs.Ytnlolliankhfmaa
