/- What is proved here: the contract of Wait's closure, of Wait. Conditions: the list lies in memory. -/
import Derived.Test.YtnlolliankhfmaaLook19
set_option linter.unusedVariables false
set_option linter.unusedSimpArgs false
namespace Go.Proofs.Ytnlolliankhfmaa
open Go Go.RowKit

theorem and_bits : ∀ s : Nat, s < 64 → ∀ c : Nat, c < 64 → (bits BinOp.and .i64 (s : Int) (c : Int) != 0) = !(s &&& c == 0) := by decide +kernel
/-- The sums that are held, by truths. -/
def heldL (m : MoList) (T : List (List Int)) : List Int := ((List.range m.sums.length).filter fun i => !oneB (evBit T i)).map fun (i : Nat) => (i : Int)
theorem decides_held (m : MoList) (hv : Valid m) (s : Nat) : decides m (bitsList s m.words.length) = (!decide ((truths (withBits m (lookBits m s))).length = 0) && decide ((heldL m (truths (withBits m (lookBits m s)))).length = 0)) := by
  have hv2 := valid_bits hv (lookBits m s)
  have hu := truth_unsure (withBits m (lookBits m s)) hv2.nc
  have hu2 : unsure (withBits m (lookBits m s)) (truths (withBits m (lookBits m s))) = heldL m (truths (withBits m (lookBits m s))) := hu
  rw [← hu2]
  rw [lookBits_with]
  by_cases h : (truths (withWords m (bitsList s m.words.length))).length = 0
  · rw [decides_none h]; simp [h]
  · rw [decides_some h]; simp [h]

set_option maxRecDepth 100000 in
set_option maxHeartbeats 800000 in
theorem MWait1_any (ac az aw ap : Option Addr) (cc cz cw cp : Nat) (m : MoList) (bm bo p q s : Nat) (E : List Int) (w : World) (hm : ListC w ac az aw ap cc cz cw cp m) (hv : Valid m) (hs : s < 64)
    (hp : w.cell? ⟨p, 0, none⟩ = some (.pointer (some ⟨bm, 0, none⟩))) (hL : LBlk w bm ac az aw ap cc cz cw cp m (lookBits m 0) bo E) 
    (q0 : w.cell? ⟨q, 0, none⟩ = some (.slice ac m.claimants.length cc)) (q1 : w.cell? ⟨q, 1, none⟩ = some (.slice az m.sums.length cz)) (q2 : w.cell? ⟨q, 2, none⟩ = some (.slice aw m.words.length cw)) (q3 : w.cell? ⟨q, 3, none⟩ = some (.slice ap m.paid.length cp)) :
    Calls Try.prog 84 #[.int .i64 (s : Int), .pointer (some ⟨p, 0, none⟩), .pointer (some ⟨q, 0, none⟩)] w fun e w' => e = .returned (.bool (waitSo m s)) ∧ Below w.heap.size w w' := by
  have hc : lookBits m 0 < 64 := bitsCame_lt m 0 (by decide) _ hv.nw
  have HA := and_bits s hs _ hc
  have HW : Hid (waitSo m s = ((s &&& lookBits m 0 == 0) && decides m (bitsList s m.words.length))) := rfl
  rw [decides_held m hv s] at HW
  have c4 := hL.cells.2.2.2.2.1
  have hbm := hL.lt
  have hpl := lt_of_cell hp
  have hql := lt_of_cell q0
  have L := Lib.hid (MLook_any ac az aw ap cc cz cw cp m s w hm hv hs)
  have h16 := Lib.hid (truth_ev16 (withBits m (lookBits m s)) (valid_bits hv _).nc)
  have hz5 := hv.nz
  clear hL
  generalize lookBits m 0 = c at HA HW c4 hc
  generalize waitSo m s = r at HW ⊢
  generalize (s &&& c == 0) = a at HA HW
  cases a
  · go_enter Try.func84, Try.ntmps84
    go_wp2
    go_ret
    exact ⟨ret_bool (by rw [HW.out]; rfl), Below.refl _ _⟩
  · generalize hTT : truths (withBits m (lookBits m s)) = T at HW h16
    have HTT := Lib.hid hTT
    clear hTT
    have H := Lib.hid (fun (bm2 bo2 : Nat) (V : World) (hL : LBlk V bm2 ac az aw ap cc cz cw cp m (lookBits m s) bo2 (everyL m T)) => MHeld_any ac az aw ap cc cz cw cp m bm2 bo2 (lookBits m s) T h16.out hz5 V hL)
    have HH : Hid (heldL m T = ((List.range m.sums.length).filter fun i => !oneB (evBit T i)).map fun (i : Nat) => (i : Int)) := rfl
    rw [← HH.out] at H
    clear HH
    generalize heldL m T = hl at H HW
    by_cases h0 : T.length = 0
    · have g0 := eqn_t h0
      replace HW : Hid (r = false) := Lib.hid (by rw [HW.out]; simp [h0])
      have hT0 : ¬ 0 < T.length := by omega
      have HT0 := Lib.hid h0
      clear h0
      go_enter Try.func84, Try.ntmps84
      go_wp2_with (first
        | (at_len; refine wpList_len_v rfl (.tmp 19) _ rfl _ _ key_map bo2 _ rfl hLW.map ?_; rw [ents_len, HTT.out]; simp only [Act.put, List.setIfInBounds_toArray, List.set_cons_succ, List.set_cons_zero])
        | (go_at_call 85; go_must (refine L.out.mono ?_; rintro e w4 ⟨bm2, bo2, rfl, hLW, hb4⟩; have c5 := hLW.blk.cells.2.2.2.2.2; have hbm2 := hLW.blk.lt; dsimp only)))
      go_ret
      exact ⟨ret_bool (by rw [HW.out]), hb4⟩
    · have hT0 : 0 < T.length := by omega
      by_cases h1 : hl.length = 0
      all_goals
        (first | have g1 := eqn_t h1 | have g1 := eqn_f h1)
        have HW := Lib.hid (HW.out.trans (by simp [h0, h1] : _ = decide (hl.length = 0)))
        go_enter Try.func84, Try.ntmps84
        go_wp2_with (first
          | (at_len; refine wpList_len_v rfl (.tmp 19) _ rfl _ _ key_map bo2 _ rfl hLW.map ?_; rw [ents_len, HTT.out]; simp only [Act.put, List.setIfInBounds_toArray, List.set_cons_succ, List.set_cons_zero])
          | (go_at_call 81; go_must (refine (H.out bm2 bo2 _ hL2).mono ?_; rintro e w5 ⟨v5, rfl, ⟨a5, k5, rfl, ho5, hi5⟩, hb5⟩; dsimp only))
          | (go_at_call 85; go_must (refine L.out.mono ?_; rintro e w4 ⟨bm2, bo2, rfl, hLW, hb4⟩; have c5 := hLW.blk.cells.2.2.2.2.2; have hbm2 := hLW.blk.lt; have hL2 := hLW.blk; rw [HTT.out] at hL2; dsimp only)))
        go_ret
        exact ⟨ret_bool (by rw [HW.out]; simp [h1]), hb4.trans (hb5.mono hb4.size)⟩

theorem wait_hid (m : MoList) : wholeErr m ≠ 0 → waitOf m = ([], wholeErr m) := fun h => if_neg h
theorem enters84 (xs : Array Value) (W : World) : (callFunc 84 xs).run Try.prog W = .ok (.enter 84 xs) W := by kernel_rfl

set_option maxRecDepth 100000 in
set_option maxHeartbeats 800000 in
theorem MWait_any (ac az aw ap : Option Addr) (cc cz cw cp : Nat) (m : MoList) (w : World) (hm : ListC w ac az aw ap cc cz cw cp m) :
    Calls Try.prog 28 #[(.agg #[.slice ac m.claimants.length cc, .slice az m.sums.length cz, .slice aw m.words.length cw, .slice ap m.paid.length cp])] w fun e w' => ∃ v, e = .returned (.tuple #[v, .int .i64 (waitOf m).2]) ∧ IntsV w' v (waitOf m).1 ∧ Below w.heap.size w w' := by
  have HV := Lib.hid (fun h : wholeErr m = 0 => whole_valid h)
  have HE := Lib.hid (wait_hid m)
  have HF := Lib.hid (fun (h : wholeErr m = 0) (best : List Int) (found : Bool) (hf : Found m.words.length (waitSo m) (2 ^ m.words.length) best found) => (wait_found h hf : (found = true ∧ (waitOf m).2 = 0 ∧ best = (waitOf m).1) ∨ (found = false ∧ (waitOf m).2 = 9 ∧ (waitOf m).1 = [])))
  have hQ := Below.refl (w.heap.size + 1) (w.alloc (.cells #[.slice ac m.claimants.length cc, .slice az m.sums.length cz, .slice aw m.words.length cw, .slice ap m.paid.length cp] 27))
  obtain ⟨c0, c1, c2, c3⟩ := box_four hQ
  have hbz := box_size hQ
  have C := MEnter2_any ac az aw ap cc cz cw cp m 0 none [] 0 (w.alloc (.cells #[.slice ac m.claimants.length cc, .slice az m.sums.length cz, .slice aw m.words.length cw, .slice ap m.paid.length cp] 27)) (hm.mono (box_old hQ)) (by decide) (by decide) (by decide) (IntsC.nil _ _)
  rw [enter_whole] at C
  have HN := Lib.hid (look_none m)
  replace C := Lib.hid C
  generalize waitOf m = r at HE HF ⊢
  generalize wholeErr m = er at C HE HV HF
  by_cases he : er = 0
  · have g1 := nei_f he
    obtain ⟨hv, hpos⟩ := HV.out he
    replace HF := Lib.hid (HF.out he)
    have HX := Lib.hid he
    have hp6 := hv.nw
    have hpl : (m.words.length : Int) ≤ 6 := by omega
    clear he
    have F := Lib.hid (fun (bm bo p q : Nat) (E : List Int) (V : World) (hb : Below w.heap.size w V) (hp : V.cell? ⟨p, 0, none⟩ = some (.pointer (some ⟨bm, 0, none⟩))) (hL : LBlk V bm ac az aw ap cc cz cw cp m (lookBits m 0) bo E)
        (q0 : V.cell? ⟨q, 0, none⟩ = some (.slice ac m.claimants.length cc)) (q1 : V.cell? ⟨q, 1, none⟩ = some (.slice az m.sums.length cz)) (q2 : V.cell? ⟨q, 2, none⟩ = some (.slice aw m.words.length cw)) (q3 : V.cell? ⟨q, 3, none⟩ = some (.slice ap m.paid.length cp)) =>
      MFewest_any m.words.length 84 (by omega) #[.pointer (some ⟨p, 0, none⟩), .pointer (some ⟨q, 0, none⟩)] (waitSo m) V enters84 (fun s W hs hW => by
        have h64 := two_pow_le m.words.length (by omega)
        exact MWait1_any ac az aw ap cc cz cw cp m bm bo p q s E W (hm.mono (hb.trans (hW.mono hb.size))) hv (by omega) (cell_below hW hp) (hL.same (hW.block _ hL.lt)) (cell_below hW q0) (cell_below hW q1) (cell_below hW q2) (cell_below hW q3)))
    go_enter Try.func28, Try.ntmps28
    go_wp2_with (first
      | (go_at_call 83; go_must (refine (F.out bm bo _ w.heap.size _ _ (box_old hQ3) hpc hL3 e0 e1 e2 e3).mono ?_; rintro e w4 ⟨v4, best, found, rfl, hv4, hf4, hb4⟩; have hF4 := Lib.hid (HF.out best found hf4.out); dsimp only))
      | (go_at_call 74; go_must (refine C.out.mono ?_; rintro e w2 ⟨v2, rfl, h2, hb2, _⟩; obtain ⟨bm, bo, rfl, hLW⟩ := h2 HX.out; have hL := hLW.blk; rw [HN.out] at hL; have hQ2 := box_on hQ hb2; have hz2 := hQ2.size; have hz2 : w.heap.size + 1 ≤ w2.heap.size := by { simpa using hz2 }; have hQ3 := hQ2.alloc hz2 (.cells #[.pointer (some ⟨bm, 0, none⟩)] 92); have hL3 := hL.same (heap_alloc_old _ (.cells #[.pointer (some ⟨bm, 0, none⟩)] 92) hL.lt); have hpc := box_cell (Below.refl _ (w2.alloc (.cells #[.pointer (some ⟨bm, 0, none⟩)] 92))) 0 _ rfl; obtain ⟨e0, e1, e2, e3⟩ := box_four hQ3; obtain ⟨d0, d1, d2, d3⟩ := box_four hQ2; have hbz2 := box_size hQ2; dsimp only)))
    all_goals
      have hQ4 := box_on hQ3 hb4
      go_ret2
      rcases hF4.out with ⟨g1, g2, g3⟩ | ⟨g1, g2, g3⟩
      · first
        | exact ⟨v4, by rw [g2]; rfl, by rw [← g3]; exact hv4, box_old hQ4⟩
        | (simp_all; done)
      · first
        | exact ⟨_, by rw [g2]; rfl, by rw [g3]; exact ⟨none, 0, rfl, ⟨by simp, by omega, fun _ => rfl⟩, IntsC.nil _ _⟩, box_old hQ4⟩
        | (simp_all; done)
  · have g1 := nei_t he
    have HX := Lib.hid he
    have HE := Lib.hid (HE.out he)
    clear he
    go_enter Try.func28, Try.ntmps28
    go_wp2_with (go_at_call 74; go_must (refine C.out.mono ?_; rintro e w2 ⟨v2, rfl, h2, hb2, h3⟩; obtain rfl := h3 HX.out; have hQ2 := box_on hQ hb2; have hz2 := hQ2.size; dsimp only))
    go_ret2
    rw [HE.out]
    exact ⟨_, rfl, ⟨none, 0, rfl, ⟨by simp, by omega, fun _ => rfl⟩, IntsC.nil _ _⟩, box_old (hQ2.alloc (by simpa using hz2) _)⟩
end Go.Proofs.Ytnlolliankhfmaa
