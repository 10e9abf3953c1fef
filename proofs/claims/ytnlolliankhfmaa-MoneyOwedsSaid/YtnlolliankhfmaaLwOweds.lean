/- What is proved here: the walk of MoneyOweds: it returns true, and turns nothing that was there. Conditions: the list lies in memory. -/
import Derived.Test.YtnlolliankhfmaaLawA
set_option linter.unusedVariables false
set_option linter.unusedSimpArgs false
namespace Go.Proofs.Ytnlolliankhfmaa
open Go Go.RowKit
set_option maxRecDepth 100000 in
set_option maxHeartbeats 4000000 in
theorem MoneyOweds_walk (ac az aw ap : Option Addr) (cc cz cw cp : Nat) (m : MoList) (s : Int) (w : World) (hm : ListC w ac az aw ap cc cz cw cp m) : Calls Try.prog 6 #[(.agg #[.slice ac m.claimants.length cc, .slice az m.sums.length cz, .slice aw m.words.length cw, .slice ap m.paid.length cp]), .int .i64 s] w fun e w' => e = .returned (.bool true) ∧ Below w.heap.size w w' := by
  obtain ⟨⟨⟨lo, hi⟩, e1⟩, h1⟩ : ∃ r, owedOf m s = r := ⟨_, rfl⟩
  obtain ⟨⟨n1, n2, e2⟩, h2⟩ : ∃ r, needOf m = r := ⟨_, rfl⟩
  replace h1 := Lib.hid h1
  replace h2 := Lib.hid h2
  have hQ := Below.refl (w.heap.size + 1) (w.alloc (.cells #[.slice ac m.claimants.length cc, .slice az m.sums.length cz, .slice aw m.words.length cw, .slice ap m.paid.length cp] 27))
  have hx := box_four hQ
  have hz := box_size hQ
  go_enter Try.func6, Try.ntmps6
  go_wp2_with (first
    | (go_at_call 23; (with_reducible refine (Awake_any _).mono ?_); rintro e w6 ⟨rfl, hb⟩; replace hQ := box_on hQ hb; replace hx := box_four hQ; replace hz := box_size hQ; dsimp only)
    | (go_at_call 35; (with_reducible refine (B_Need _ _ _ _ _ _ _ _ m n1 n2 e2 h2.out _ (hm.mono (box_old hQ))).mono ?_); rintro e w5 ⟨rfl, hb⟩; replace hQ := box_on hQ hb; replace hx := box_four hQ; replace hz := box_size hQ; dsimp only)
    | (go_at_call 34; (with_reducible refine (A_Need _ _ _ _ _ _ _ _ m n1 n2 e2 h2.out _ (hm.mono (box_old hQ))).mono ?_); rintro e w4 ⟨rfl, hb⟩; replace hQ := box_on hQ hb; replace hx := box_four hQ; replace hz := box_size hQ; dsimp only)
    | (go_at_call 33; (with_reducible refine (B_Owed _ _ _ _ _ _ _ _ m s lo hi e1 h1.out _ (hm.mono (box_old hQ))).mono ?_); rintro e w3 ⟨rfl, hb⟩; replace hQ := box_on hQ hb; replace hx := box_four hQ; replace hz := box_size hQ; replace s1 := sp_on s1 hb; have s2 := sp_new w3 lo hi 44; replace hb := al_on w3 (.cells #[.int .i64 lo, .int .i64 hi] 44); replace hQ := box_on hQ hb; replace hx := box_four hQ; replace hz := box_size hQ; replace s1 := sp_on s1 hb; obtain ⟨p1, p2, p3⟩ := s1; dsimp only)
    | (go_at_call 32; (with_reducible refine (A_Owed _ _ _ _ _ _ _ _ m s lo hi e1 h1.out _ (hm.mono (box_old hQ))).mono ?_); rintro e w2 ⟨rfl, hb⟩; replace hQ := box_on hQ hb; replace hx := box_four hQ; replace hz := box_size hQ; have s1 := sp_new w2 lo hi 44; replace hb := al_on w2 (.cells #[.int .i64 lo, .int .i64 hi] 44); replace hQ := box_on hQ hb; replace hx := box_four hQ; replace hz := box_size hQ; dsimp only))
  go_ret
  exact ⟨rfl, box_old hQ⟩
end Go.Proofs.Ytnlolliankhfmaa
