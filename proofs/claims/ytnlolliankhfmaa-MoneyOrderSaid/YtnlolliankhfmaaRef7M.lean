/- What is proved here: contracts of the reference of layer 7: Decides. Conditions: a valid list, numbers in range. -/
import Derived.Test.YtnlolliankhfmaaRef7L
import Derived.Test.YtnlolliankhfmaaPlain
set_option linter.unusedVariables false
set_option linter.unusedSimpArgs false
namespace Go.Proofs.Ytnlolliankhfmaa
open Go Go.RowKit

set_option maxRecDepth 100000 in
set_option maxHeartbeats 4000000 in
theorem Decides7_any (ac az aw ap : Option Addr) (cc cz cw cp : Nat) (m : MoList) (al : Option Addr) (l : List Int) (cl : Nat) (w : World) (hm : ListC w ac az aw ap cc cz cw cp m) (hva : Valid m) (hsl : SlOk al l.length cl) (hil : IntsC w al l) (hlb : ∀ x ∈ l, 0 ≤ x ∧ x < m.words.length) :
    Calls Try.prog 47 #[(.agg #[.slice ac m.claimants.length cc, .slice az m.sums.length cz, .slice aw m.words.length cw, .slice ap m.paid.length cp]), .slice al l.length cl] w fun e w' => e = .returned (.bool (decides m l)) ∧ Below w.heap.size w w' := by
  have hvM := valid_with hva l
  have D1 := Lib.hid (decides_none (m := m) (l := l))
  have D2 := Lib.hid (decides_some (m := m) (l := l))
  have hnw := hva.nw
  have hB0 := Below.refl (w.heap.size + 1) (w.alloc (.cells #[.slice ac m.claimants.length cc, .slice az m.sums.length cz, .slice aw m.words.length cw, .slice ap m.paid.length cp] 27))
  obtain ⟨c0, c1, c2, c3⟩ := box_four hB0
  have hbz := box_size hB0
  have Wi := Lib.hid (With7_any ac az aw ap cc cz cw cp m al l cl (w.alloc (.cells #[.slice ac m.claimants.length cc, .slice az m.sums.length cz, .slice aw m.words.length cw, .slice ap m.paid.length cp] 27)) (hm.mono (box_old hB0)) hsl (hil.mono (box_old hB0)) hlb (by omega))
  generalize withWords m l = M at hvM D1 D2 Wi
  have hnc := hvM.nc
  have hnz := hvM.nz
  have U0 := fun (a ac az aw ap : Option Addr) (cc cz cw cp c : Nat) (W : World) hm h1 h2 => Unsure7_any ac az aw ap cc cz cw cp M a (truths M) c W hm h1 h2 (fun t ht => by have := truths_len M t ht; omega) (by omega) (by omega)
  have T0 := fun (ac az aw ap : Option Addr) (cc cz cw cp : Nat) (W : World) hm => Truths7_any ac az aw ap cc cz cw cp M W hm hvM
  generalize truths M = T at U0 T0 D1 D2
  generalize unsure M T = U at U0 D2
  have T0 := Lib.hid T0
  have U0 := Lib.hid U0
  by_cases hT : T.length = 0
  · have HD := Lib.hid (D1.out hT)
    clear D1 D2
    go_enter Try.func47, Try.ntmps47
    go_wp2_with (first | (go_at_call 39; go_must (refine (T0.out _ _ _ _ _ _ _ _ _ (hm2.mono (box_old hBB))).mono ?_; rintro e w3 ⟨v, rfl, ⟨a, c, rfl, hso, hrc⟩, hb3⟩; have hB3 := hBB.trans (hb3.mono (by simp)); obtain ⟨e0, e1, e2, e3⟩ := box_four hB3; have hbz3 := box_size hB3; have hl3 := hso.len; dsimp only; rw [hT])) | (go_at_call 49; go_must (refine Wi.out.mono ?_; rintro e w2 ⟨aw', cw', rfl, hm2, hb2⟩; have hBB := Below.refl (w2.heap.size + 1) (w2.alloc (.cells #[.slice ac M.claimants.length cc, .slice az M.sums.length cz, .slice aw' M.words.length cw', .slice ap M.paid.length cp] 27)); obtain ⟨d0, d1, d2, d3⟩ := box_four hBB; have hbz2 := box_size hBB; dsimp only)))
    go_ret
    exact ⟨ret_bool HD.out.symm, (box_old hB0).trans ((hb2.mono (box_old hB0).size).trans ((box_old hB3).mono ((box_old hB0).trans (hb2.mono (box_old hB0).size)).size))⟩
  · have HD := Lib.hid (D2.out hT)
    have hT2 : (0 : Int) < (T.length : Int) := by omega
    clear D1 D2
    by_cases hU : U.length = 0
    · go_enter Try.func47, Try.ntmps47
      go_wp2_with (first | (go_at_call 82; go_must (refine (U0.out _ _ _ _ _ _ _ _ _ _ _ (hm2.mono (box_old hB3)) hso hrc).mono ?_; rintro e w4 ⟨v, rfl, ⟨a5, c5, rfl, hs5, _⟩, hb4⟩; have hB4 := hB3.trans (hb4.mono hbz3); have hl4 := hs5.len; dsimp only; rw [hU])) | (go_at_call 39; go_must (refine (T0.out _ _ _ _ _ _ _ _ _ (hm2.mono (box_old hBB))).mono ?_; rintro e w3 ⟨v, rfl, ⟨a, c, rfl, hso, hrc⟩, hb3⟩; have hB3 := hBB.trans (hb3.mono (by simp)); obtain ⟨e0, e1, e2, e3⟩ := box_four hB3; have hbz3 := box_size hB3; have hl3 := hso.len; dsimp only)) | (go_at_call 49; go_must (refine Wi.out.mono ?_; rintro e w2 ⟨aw', cw', rfl, hm2, hb2⟩; have hBB := Below.refl (w2.heap.size + 1) (w2.alloc (.cells #[.slice ac M.claimants.length cc, .slice az M.sums.length cz, .slice aw' M.words.length cw', .slice ap M.paid.length cp] 27)); obtain ⟨d0, d1, d2, d3⟩ := box_four hBB; have hbz2 := box_size hBB; dsimp only)))
      go_ret
      exact ⟨ret_bool (by rw [HD.out]; simp [hU]), (box_old hB0).trans ((hb2.mono (box_old hB0).size).trans ((box_old hB4).mono ((box_old hB0).trans (hb2.mono (box_old hB0).size)).size))⟩
    · have hU2 : ¬ (U.length : Int) = 0 := by omega
      have hU3 := eqi_f hU2
      go_enter Try.func47, Try.ntmps47
      go_wp2_with (first | (go_at_call 82; go_must (refine (U0.out _ _ _ _ _ _ _ _ _ _ _ (hm2.mono (box_old hB3)) hso hrc).mono ?_; rintro e w4 ⟨v, rfl, ⟨a5, c5, rfl, hs5, _⟩, hb4⟩; have hB4 := hB3.trans (hb4.mono hbz3); have hl4 := hs5.len; dsimp only)) | (go_at_call 39; go_must (refine (T0.out _ _ _ _ _ _ _ _ _ (hm2.mono (box_old hBB))).mono ?_; rintro e w3 ⟨v, rfl, ⟨a, c, rfl, hso, hrc⟩, hb3⟩; have hB3 := hBB.trans (hb3.mono (by simp)); obtain ⟨e0, e1, e2, e3⟩ := box_four hB3; have hbz3 := box_size hB3; have hl3 := hso.len; dsimp only)) | (go_at_call 49; go_must (refine Wi.out.mono ?_; rintro e w2 ⟨aw', cw', rfl, hm2, hb2⟩; have hBB := Below.refl (w2.heap.size + 1) (w2.alloc (.cells #[.slice ac M.claimants.length cc, .slice az M.sums.length cz, .slice aw' M.words.length cw', .slice ap M.paid.length cp] 27)); obtain ⟨d0, d1, d2, d3⟩ := box_four hBB; have hbz2 := box_size hBB; dsimp only)))
      go_ret
      exact ⟨ret_bool (by rw [HD.out]; simp [hU]), (box_old hB0).trans ((hb2.mono (box_old hB0).size).trans ((box_old hB4).mono ((box_old hB0).trans (hb2.mono (box_old hB0).size)).size))⟩
end Go.Proofs.Ytnlolliankhfmaa
