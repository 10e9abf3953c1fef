/- What is proved here: contracts of the laws' helpers valid, some, pence. Conditions: the list lies in memory. -/
import Derived.Test.YtnlolliankhfmaaLawA
import Derived.Test.YtnlolliankhfmaaFacts
set_option linter.unusedVariables false
set_option linter.unusedSimpArgs false
namespace Go.Proofs.Ytnlolliankhfmaa
open Go Go.RowKit
def validB (m : MoList) : Bool := errOf m == 0
def someB (m : MoList) : Bool := wholeErr m == 0
theorem valid_t {m : MoList} (h : errOf m = 0) : validB m = true := by unfold validB; simp [h]
theorem valid_f {m : MoList} (h : errOf m ≠ 0) : validB m = false := by unfold validB; simpa using h
theorem some_t {m : MoList} (h : wholeErr m = 0) : someB m = true := by unfold someB; simp [h]
theorem some_f {m : MoList} (h : wholeErr m ≠ 0) : someB m = false := by unfold someB; simpa using h
set_option maxRecDepth 100000 in
set_option maxHeartbeats 1000000 in
theorem Valid_any (ac az aw ap : Option Addr) (cc cz cw cp : Nat) (m : MoList) (w : World) (hm : ListC w ac az aw ap cc cz cw cp m) : Calls Try.prog 50 #[(.agg #[.slice ac m.claimants.length cc, .slice az m.sums.length cz, .slice aw m.words.length cw, .slice ap m.paid.length cp])] w fun e w' => e = .returned (.bool (validB m)) ∧ Below w.heap.size w w' := by
  obtain ⟨⟨q1, q2, q3⟩, h1⟩ : ∃ r, check m = r := ⟨_, rfl⟩
  have hV : Hid (validB m = (q3 == 0)) := Lib.hid (by unfold validB errOf; rw [h1])
  replace h1 := Lib.hid h1
  generalize validB m = b at hV ⊢
  have hQ := Below.refl (w.heap.size + 1) (w.alloc (.cells #[.slice ac m.claimants.length cc, .slice az m.sums.length cz, .slice aw m.words.length cw, .slice ap m.paid.length cp] 27))
  have hx := box_four hQ
  have hz := box_size hQ
  go_enter Try.func50, Try.ntmps50
  go_wp2_with (go_at_call 17; (with_reducible refine (B_Check _ _ _ _ _ _ _ _ m q1 q2 q3 h1.out _ (hm.mono (box_old hQ))).mono ?_); rintro e w3 ⟨rfl, hb⟩; replace hQ := box_on hQ hb; replace hx := box_four hQ; replace hz := box_size hQ; dsimp only)
  go_ret
  exact ⟨by rw [hV.out]; rfl, box_old hQ⟩
theorem Valid_yes (ac az aw ap : Option Addr) (cc cz cw cp : Nat) (m : MoList) (h : errOf m = 0) (w : World) (hm : ListC w ac az aw ap cc cz cw cp m) : Calls Try.prog 50 #[(.agg #[.slice ac m.claimants.length cc, .slice az m.sums.length cz, .slice aw m.words.length cw, .slice ap m.paid.length cp])] w fun e w' => e = .returned (.bool true) ∧ Below w.heap.size w w' := by
  have C := Valid_any ac az aw ap cc cz cw cp m w hm
  rwa [valid_t h] at C
theorem Valid_no (ac az aw ap : Option Addr) (cc cz cw cp : Nat) (m : MoList) (h : errOf m ≠ 0) (w : World) (hm : ListC w ac az aw ap cc cz cw cp m) : Calls Try.prog 50 #[(.agg #[.slice ac m.claimants.length cc, .slice az m.sums.length cz, .slice aw m.words.length cw, .slice ap m.paid.length cp])] w fun e w' => e = .returned (.bool false) ∧ Below w.heap.size w w' := by
  have C := Valid_any ac az aw ap cc cz cw cp m w hm
  rwa [valid_f h] at C
set_option maxRecDepth 100000 in
set_option maxHeartbeats 1000000 in
theorem SomeL_any (ac az aw ap : Option Addr) (cc cz cw cp : Nat) (m : MoList) (w : World) (hm : ListC w ac az aw ap cc cz cw cp m) : Calls Try.prog 38 #[(.agg #[.slice ac m.claimants.length cc, .slice az m.sums.length cz, .slice aw m.words.length cw, .slice ap m.paid.length cp])] w fun e w' => e = .returned (.bool (someB m)) ∧ Below w.heap.size w w' := by
  have hQ := Below.refl (w.heap.size + 1) (w.alloc (.cells #[.slice ac m.claimants.length cc, .slice az m.sums.length cz, .slice aw m.words.length cw, .slice ap m.paid.length cp] 27))
  have hx := box_four hQ
  have hz := box_size hQ
  by_cases h0 : errOf m = 0
  · have hv := valid_of h0
    by_cases hl : (truths m).length = 0
    · have hs : someB m = false := some_f (by unfold wholeErr someErr; rw [if_pos h0, if_pos hl]; decide)
      rw [hs]
      have h0' := Lib.hid h0
      have hv' := Lib.hid hv
      have hl' := Lib.hid hl
      clear h0 hv hl hs
      have T := Lib.hid (fun (W : World) (h : ListC W ac az aw ap cc cz cw cp m) => Truths7_any ac az aw ap cc cz cw cp m W h hv'.out)
      obtain ⟨L, hL⟩ : ∃ L, truths m = L := ⟨_, rfl⟩
      rw [hL] at T hl'
      obtain rfl : L = [] := List.eq_nil_of_length_eq_zero hl'.out
      clear hL hl'
      go_enter Try.func38, Try.ntmps38
      go_wp2_with (first
        | (go_at_call 39; (with_reducible refine (T.out _ (hm.mono (box_old hQ))).mono ?_); rintro e w4 ⟨v, rfl, ⟨a, c, rfl, hso, -⟩, hb⟩; replace hQ := box_on hQ hb; replace hx := box_four hQ; replace hz := box_size hQ; dsimp only [List.length_nil])
        | (go_at_call 50; (with_reducible refine (Valid_yes _ _ _ _ _ _ _ _ m h0'.out _ (hm.mono (box_old hQ))).mono ?_); rintro e w3 ⟨rfl, hb⟩; replace hQ := box_on hQ hb; replace hx := box_four hQ; replace hz := box_size hQ; dsimp only))
      go_ret
      exact ⟨rfl, box_old hQ⟩
    · have hs : someB m = true := some_t (by unfold wholeErr someErr; rw [if_pos h0, if_neg hl])
      rw [hs]
      have h0' := Lib.hid h0
      have hv' := Lib.hid hv
      clear h0 hv hs
      have T := Lib.hid (fun (W : World) (h : ListC W ac az aw ap cc cz cw cp m) => Truths7_any ac az aw ap cc cz cw cp m W h hv'.out)
      generalize truths m = L at T hl
      have hl1 : 0 < L.length := by omega
      clear hl
      go_enter Try.func38, Try.ntmps38
      go_wp2_with (first
        | (go_at_call 39; (with_reducible refine (T.out _ (hm.mono (box_old hQ))).mono ?_); rintro e w4 ⟨v, rfl, ⟨a, c, rfl, hso, -⟩, hb⟩; replace hQ := box_on hQ hb; replace hx := box_four hQ; replace hz := box_size hQ; dsimp only)
        | (go_at_call 50; (with_reducible refine (Valid_yes _ _ _ _ _ _ _ _ m h0'.out _ (hm.mono (box_old hQ))).mono ?_); rintro e w3 ⟨rfl, hb⟩; replace hQ := box_on hQ hb; replace hx := box_four hQ; replace hz := box_size hQ; dsimp only))
      go_ret
      exact ⟨rfl, box_old hQ⟩
  · have hs : someB m = false := some_f (by unfold wholeErr someErr; rw [if_neg h0]; exact h0)
    rw [hs]
    have h0' := Lib.hid h0
    clear h0 hs
    go_enter Try.func38, Try.ntmps38
    go_wp2_with (go_at_call 50; (with_reducible refine (Valid_no _ _ _ _ _ _ _ _ m h0'.out _ (hm.mono (box_old hQ))).mono ?_); rintro e w3 ⟨rfl, hb⟩; replace hQ := box_on hQ hb; replace hx := box_four hQ; replace hz := box_size hQ; dsimp only)
    go_ret
    exact ⟨rfl, box_old hQ⟩
theorem SomeL_yes (ac az aw ap : Option Addr) (cc cz cw cp : Nat) (m : MoList) (h : wholeErr m = 0) (w : World) (hm : ListC w ac az aw ap cc cz cw cp m) : Calls Try.prog 38 #[(.agg #[.slice ac m.claimants.length cc, .slice az m.sums.length cz, .slice aw m.words.length cw, .slice ap m.paid.length cp])] w fun e w' => e = .returned (.bool true) ∧ Below w.heap.size w w' := by
  have C := SomeL_any ac az aw ap cc cz cw cp m w hm
  rwa [some_t h] at C
theorem SomeL_no (ac az aw ap : Option Addr) (cc cz cw cp : Nat) (m : MoList) (h : wholeErr m ≠ 0) (w : World) (hm : ListC w ac az aw ap cc cz cw cp m) : Calls Try.prog 38 #[(.agg #[.slice ac m.claimants.length cc, .slice az m.sums.length cz, .slice aw m.words.length cw, .slice ap m.paid.length cp])] w fun e w' => e = .returned (.bool false) ∧ Below w.heap.size w w' := by
  have C := SomeL_any ac az aw ap cc cz cw cp m w hm
  rwa [some_f h] at C
set_option maxRecDepth 100000 in
set_option maxHeartbeats 1000000 in
theorem Pence_any (ac az aw ap : Option Addr) (cc cz cw cp : Nat) (m : MoList) (w : World) (hm : ListC w ac az aw ap cc cz cw cp m) (hv : Valid m) : Calls Try.prog 42 #[(.agg #[.slice ac m.claimants.length cc, .slice az m.sums.length cz, .slice aw m.words.length cw, .slice ap m.paid.length cp])] w fun e w' => e = .returned (.int .i64 (penceTo m m.sums.length)) ∧ Below w.heap.size w w' := by
  have hQ := Below.refl (w.heap.size + 1) (w.alloc (.cells #[.slice ac m.claimants.length cc, .slice az m.sums.length cz, .slice aw m.words.length cw, .slice ap m.paid.length cp] 27))
  have hx := box_four hQ
  have hz := box_size hQ
  have hzl := hm.okz.len
  have hz5 := hv.nz
  go_enter Try.func42, Try.ntmps42
  go_wp2
  go_loop [3, 4] (fun n i => ∃ k : Nat, k ≤ m.sums.length ∧ i = .int .i64 k ∧ n = .int .i64 (penceTo m k)) (fun _ i => m.sums.length - (intOf i).toNat)
  case atStart => exact ⟨0, Nat.zero_le _, rfl, rfl⟩
  case round =>
    obtain ⟨k, hk, rfl, rfl⟩ := hrel
    have hp := penceTo_bd m hv k
    have hp2 := pence_bd m hv k
    by_cases hlt : k < m.sums.length
    · have hs : Hid (penceTo m (k + 1) = penceTo m k + m.sums[k].pence) := Lib.hid (by rw [penceTo, penceAt_eq m k hlt])
      rw [penceAt_eq m k hlt] at hp2
      obtain ⟨b, off, rfl, hb0, -, hc1, -⟩ := hm.sums k hlt
      have hc := cell_below (box_old hQ) hc1
      have hbl := lt_of_cell hc
      generalize m.sums[k].pence = p at hs hc hp2 hc1
      generalize penceTo m k = n at hs hp ⊢
      clear hc1
      go_wp2
      go_round
      case rel => exact ⟨k + 1, by omega, by go_num, by rw [hs.out]⟩
      case measure => simp [intOf]; omega
    · obtain rfl : k = m.sums.length := by omega
      go_wp2
      go_ret
      exact ⟨rfl, box_old hQ⟩
end Go.Proofs.Ytnlolliankhfmaa
