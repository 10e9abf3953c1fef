/- What is proved here: the walk of MoneyPays: it returns true, and turns nothing that was there. Conditions: the list lies in memory. -/
import Derived.Test.YtnlolliankhfmaaLawA
set_option linter.unusedVariables false
set_option linter.unusedSimpArgs false
namespace Go.Proofs.Ytnlolliankhfmaa
open Go Go.RowKit
set_option maxRecDepth 100000 in
set_option maxHeartbeats 4000000 in
theorem MoneyPays_walk (ac az aw ap : Option Addr) (cc cz cw cp : Nat) (m : MoList) (s : Int) (w : World) (hm : ListC w ac az aw ap cc cz cw cp m) : Calls Try.prog 4 #[(.agg #[.slice ac m.claimants.length cc, .slice az m.sums.length cz, .slice aw m.words.length cw, .slice ap m.paid.length cp]), .int .i64 s] w fun e w' => e = .returned (.bool true) ∧ Below w.heap.size w w' := by
  obtain ⟨⟨n1, e1⟩, h1⟩ : ∃ r, payOf m s = r := ⟨_, rfl⟩
  obtain ⟨⟨l2, e2⟩, h2⟩ : ∃ r, heldOf m = r := ⟨_, rfl⟩
  replace h1 := Lib.hid h1
  replace h2 := Lib.hid h2
  have hQ := Below.refl (w.heap.size + 1) (w.alloc (.cells #[.slice ac m.claimants.length cc, .slice az m.sums.length cz, .slice aw m.words.length cw, .slice ap m.paid.length cp] 27))
  have hx := box_four hQ
  have hz := box_size hQ
  go_enter Try.func4, Try.ntmps4
  go_wp2_with (first
    | (go_at_call 23; (with_reducible refine (Awake_any _).mono ?_); rintro e w7 ⟨rfl, hb⟩; replace hQ := box_on hQ hb; replace hx := box_four hQ; replace hz := box_size hQ; replace i1 := i1.mono hb; replace i2 := i2.mono hb; dsimp only)
    | (go_at_call 20; (with_reducible refine (Ints_same o1 i1 i2).mono ?_); rintro e w6 ⟨rfl, hb⟩; replace hQ := box_on hQ hb; replace hx := box_four hQ; replace hz := box_size hQ; replace i1 := i1.mono hb; replace i2 := i2.mono hb; dsimp only)
    | (go_at_call 27; (with_reducible refine (B_Held _ _ _ _ _ _ _ _ m l2 e2 h2.out _ (hm.mono (box_old hQ))).mono ?_); rintro e w5 ⟨a2, c2, rfl, o2, i2, hb⟩; replace hQ := box_on hQ hb; replace hx := box_four hQ; replace hz := box_size hQ; replace i1 := i1.mono hb; dsimp only)
    | (go_at_call 26; (with_reducible refine (A_Held _ _ _ _ _ _ _ _ m l2 e2 h2.out _ (hm.mono (box_old hQ))).mono ?_); rintro e w4 ⟨a1, c1, rfl, o1, i1, hb⟩; replace hQ := box_on hQ hb; replace hx := box_four hQ; replace hz := box_size hQ; dsimp only)
    | (go_at_call 25; (with_reducible refine (B_Pay _ _ _ _ _ _ _ _ m s n1 e1 h1.out _ (hm.mono (box_old hQ))).mono ?_); rintro e w3 ⟨rfl, hb⟩; replace hQ := box_on hQ hb; replace hx := box_four hQ; replace hz := box_size hQ; dsimp only)
    | (go_at_call 24; (with_reducible refine (A_Pay _ _ _ _ _ _ _ _ m s n1 e1 h1.out _ (hm.mono (box_old hQ))).mono ?_); rintro e w2 ⟨rfl, hb⟩; replace hQ := box_on hQ hb; replace hx := box_four hQ; replace hz := box_size hQ; dsimp only))
  go_ret
  exact ⟨rfl, box_old hQ⟩
end Go.Proofs.Ytnlolliankhfmaa
