/- What is proved here: the walk of MoneyWaits: it returns true, and turns nothing that was there. Conditions: the list lies in memory. -/
import Derived.Test.YtnlolliankhfmaaLawA
set_option linter.unusedVariables false
set_option linter.unusedSimpArgs false
namespace Go.Proofs.Ytnlolliankhfmaa
open Go Go.RowKit
set_option maxRecDepth 100000 in
set_option maxHeartbeats 4000000 in
theorem MoneyWaits_walk (ac az aw ap : Option Addr) (cc cz cw cp : Nat) (m : MoList) (w : World) (hm : ListC w ac az aw ap cc cz cw cp m) : Calls Try.prog 5 #[(.agg #[.slice ac m.claimants.length cc, .slice az m.sums.length cz, .slice aw m.words.length cw, .slice ap m.paid.length cp])] w fun e w' => e = .returned (.bool true) ∧ Below w.heap.size w w' := by
  obtain ⟨⟨l1, e1⟩, h1⟩ : ∃ r, waitOf m = r := ⟨_, rfl⟩
  obtain ⟨⟨l2, e2⟩, h2⟩ : ∃ r, wrongOf m = r := ⟨_, rfl⟩
  replace h1 := Lib.hid h1
  replace h2 := Lib.hid h2
  have hQ := Below.refl (w.heap.size + 1) (w.alloc (.cells #[.slice ac m.claimants.length cc, .slice az m.sums.length cz, .slice aw m.words.length cw, .slice ap m.paid.length cp] 27))
  have hx := box_four hQ
  have hz := box_size hQ
  go_enter Try.func5, Try.ntmps5
  go_wp2_with (first
    | (go_at_call 23; (with_reducible refine (Awake_any _).mono ?_); rintro e w8 ⟨rfl, hb⟩; replace hQ := box_on hQ hb; replace hx := box_four hQ; replace hz := box_size hQ; replace i1 := i1.mono hb; replace i2 := i2.mono hb; replace i3 := i3.mono hb; replace i4 := i4.mono hb; dsimp only)
    | (go_at_call 20; (with_reducible refine (Ints_same o3 i3 i4).mono ?_); rintro e w7 ⟨rfl, hb⟩; replace hQ := box_on hQ hb; replace hx := box_four hQ; replace hz := box_size hQ; replace i1 := i1.mono hb; replace i2 := i2.mono hb; replace i3 := i3.mono hb; replace i4 := i4.mono hb; dsimp only)
    | (go_at_call 31; (with_reducible refine (B_Wrong _ _ _ _ _ _ _ _ m l2 e2 h2.out _ (hm.mono (box_old hQ))).mono ?_); rintro e w6 ⟨a4, c4, rfl, o4, i4, hb⟩; replace hQ := box_on hQ hb; replace hx := box_four hQ; replace hz := box_size hQ; replace i1 := i1.mono hb; replace i2 := i2.mono hb; replace i3 := i3.mono hb; dsimp only)
    | (go_at_call 30; (with_reducible refine (A_Wrong _ _ _ _ _ _ _ _ m l2 e2 h2.out _ (hm.mono (box_old hQ))).mono ?_); rintro e w5 ⟨a3, c3, rfl, o3, i3, hb⟩; replace hQ := box_on hQ hb; replace hx := box_four hQ; replace hz := box_size hQ; replace i1 := i1.mono hb; replace i2 := i2.mono hb; dsimp only)
    | (go_at_call 20; (with_reducible refine (Ints_same o1 i1 i2).mono ?_); rintro e w4 ⟨rfl, hb⟩; replace hQ := box_on hQ hb; replace hx := box_four hQ; replace hz := box_size hQ; replace i1 := i1.mono hb; replace i2 := i2.mono hb; dsimp only)
    | (go_at_call 29; (with_reducible refine (B_Wait _ _ _ _ _ _ _ _ m l1 e1 h1.out _ (hm.mono (box_old hQ))).mono ?_); rintro e w3 ⟨a2, c2, rfl, o2, i2, hb⟩; replace hQ := box_on hQ hb; replace hx := box_four hQ; replace hz := box_size hQ; replace i1 := i1.mono hb; dsimp only)
    | (go_at_call 28; (with_reducible refine (A_Wait _ _ _ _ _ _ _ _ m l1 e1 h1.out _ (hm.mono (box_old hQ))).mono ?_); rintro e w2 ⟨a1, c1, rfl, o1, i1, hb⟩; replace hQ := box_on hQ hb; replace hx := box_four hQ; replace hz := box_size hQ; dsimp only))
  go_ret
  exact ⟨rfl, box_old hQ⟩
end Go.Proofs.Ytnlolliankhfmaa
