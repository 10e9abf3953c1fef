/- What is proved here: the contract of Need. Conditions: the list lies in memory. -/
import Derived.Test.YtnlolliankhfmaaLook21
set_option linter.unusedVariables false
set_option linter.unusedSimpArgs false
namespace Go.Proofs.Ytnlolliankhfmaa
open Go Go.RowKit

set_option maxRecDepth 100000 in
set_option maxHeartbeats 1600000 in
theorem MNeed_any (ac az aw ap : Option Addr) (cc cz cw cp : Nat) (m : MoList) (w : World) (hm : ListC w ac az aw ap cc cz cw cp m) :
    Calls Try.prog 34 #[(.agg #[.slice ac m.claimants.length cc, .slice az m.sums.length cz, .slice aw m.words.length cw, .slice ap m.paid.length cp])] w fun e w' => e = .returned (.tuple #[.int .i64 (needOf m).1, .int .i64 (needOf m).2.1, .int .i64 (needOf m).2.2]) ∧ Below w.heap.size w w' := by
  have HV := Lib.hid (fun h : wholeErr m = 0 => whole_valid h)
  have HE := Lib.hid (need_hid m)
  have hQ := Below.refl (w.heap.size + 1) (w.alloc (.cells #[.slice ac m.claimants.length cc, .slice az m.sums.length cz, .slice aw m.words.length cw, .slice ap m.paid.length cp] 27))
  obtain ⟨c0, c1, c2, c3⟩ := box_four hQ
  have hbz := box_size hQ
  have C := MEnter2_any ac az aw ap cc cz cw cp m 0 none [] 0 (w.alloc (.cells #[.slice ac m.claimants.length cc, .slice az m.sums.length cz, .slice aw m.words.length cw, .slice ap m.paid.length cp] 27)) (hm.mono (box_old hQ)) (by decide) (by decide) (by decide) (IntsC.nil _ _)
  rw [enter_whole] at C
  have HN := Lib.hid (look_none m)
  replace C := Lib.hid C
  generalize needOf m = r at HE ⊢
  generalize wholeErr m = er at C HE HV
  by_cases he : er = 0
  · have g1 := nei_f he
    obtain ⟨hv, hpos⟩ := HV.out he
    replace HE := Lib.hid (HE.out.trans (if_pos he))
    have HX := Lib.hid he
    have hz5 := hv.nz
    clear he
    have h4 := hm.okp.len
    have SU := Lib.hid (fun (bm bo j : Nat) (hj : j < m.sums.length) (V : World) (hL : LBlk V bm ac az aw ap cc cz cw cp m (lookBits m 0) bo (everyL m (truths m))) => MSure_any ac az aw ap cc cz cw cp m bm bo (lookBits m 0) j (everyL m (truths m)) (evBit (truths m) j) (truth_ev16 m hv.nc j) (by unfold everyL; rw [List.getElem?_map, List.getElem?_range (by omega)]; simp [everyAt, hj]) (everyL_len m _) V hL)
    have HH := Lib.hid (fun (j : Nat) (hj : j < m.sums.length) => held_has m hv.nc j hj)
    have HBD := Lib.hid (needTo_bd m hv (unsure m (truths m)))
    have HPY := Lib.hid (needTo_paid m (unsure m (truths m)))
    have HYS := Lib.hid (needTo_yes m (unsure m (truths m)))
    have HNO := Lib.hid (needTo_no m (unsure m (truths m)))
    have HPB := Lib.hid (pence_bd m hv)
    have HPE := Lib.hid (penceAt_eq m)
    generalize unsure m (truths m) = U at HE HH HBD HPY HYS HNO
    have PC := Lib.hid (fun (s : Int) (p : Nat) (V : World) (hb : Below w.heap.size w V) (h : V.cell? ⟨p, 0, none⟩ = some (.int .i64 s)) => MPaidContains_any ap m.paid cp s p V h4 (hm.mono hb).paid h)
    go_enter Try.func34, Try.ntmps34
    go_wp2_with (go_at_call 74; go_must (refine C.out.mono ?_; rintro e w2 ⟨v2, rfl, h2, hb2, _⟩; obtain ⟨bm, bo, rfl, hLW⟩ := h2 HX.out; have hL := hLW.blk; rw [HN.out] at hL; have hQ2 := box_on hQ hb2; obtain ⟨d0, d1, d2, d3⟩ := box_four hQ2; have hbz2 := box_size hQ2; dsimp only))
    have hl := hL.lt
    go_loopw [2, 3, 19] (fun s a i wr => ∃ j : Nat, j ≤ m.sums.length ∧ i = .int .i64 j ∧ s = .int .i64 (needTo m U j).1 ∧ a = .int .i64 (needTo m U j).2 ∧ Below w2.heap.size w2 wr) (fun _ _ i _ => m.sums.length - (intOf i).toNat)
    case atStart => exact ⟨0, Nat.zero_le _, rfl, rfl, rfl, Below.refl _ _⟩
    case round =>
      obtain ⟨j, hj, rfl, rfl, rfl, hb⟩ := hrel
      clear d0 d1 d2 d3 hbz2
      have hQ3 := box_on hQ2 hb
      obtain ⟨d0, d1, d2, d3⟩ := box_four hQ3
      have hbz3 := box_size hQ3
      by_cases hlt : j < m.sums.length
      · obtain ⟨b, off, rfl, hb0, z0, z1, z2⟩ := (hm.mono (box_old hQ3)).sums j hlt
        have hpe := HPE.out j hlt
        have hpb := HPB.out j
        have P1 := Lib.hid (HPY.out j)
        have P2 := HYS.out j
        have P3 := HNO.out j
        have hh := HH.out j hlt
        have S := fun V hL => SU.out bm bo j hlt V hL
        have bd := HBD.out j
        rw [hh] at P2 P3
        rw [hpe] at P2 P3 hpb
        clear hh hpe
        generalize m.sums[j].name = nm at z0
        generalize m.sums[j].pence = pe at z1 P2 P3 hpb
        generalize m.sums[j].for_ = fo at z2
        generalize oneB (evBit (truths m) j) = ob at P2 P3 S
        generalize needTo m U j = nj at P1 P2 P3 bd
        obtain ⟨n1, n2⟩ := nj
        simp only at bd
        obtain ⟨⟨bd1, bd2⟩, bd3, bd4⟩ := bd
        have PB := fun p V hb h => PC.out (j : Int) p V hb h
        have hPB : m.paid.any (fun x => decide (x.sum = (j : Int))) = paidB m j := rfl
        rw [hPB] at PB
        clear hPB
        generalize paidB m j = pb at P1 P2 P3 PB
        replace PB := Lib.hid PB
        replace P2 := Lib.hid P2
        replace P3 := Lib.hid P3
        replace S := Lib.hid S
        have hQ5 := (hQ3.alloc (by omega) (.cells #[.int .i64 (j : Int)] 3)).alloc (by simp; omega) (.cells #[.string nm, .int .i64 pe, .int .i64 fo] 73)
        have hcj : ((wr.alloc (.cells #[.int .i64 (j : Int)] 3)).alloc (.cells #[.string nm, .int .i64 pe, .int .i64 fo] 73)).cell? ⟨wr.heap.size, 0, none⟩ = some (.int .i64 (j : Int)) := by simp
        cases pb
        · cases ob
          · go_wp2_with (first
              | (go_at_call 80; go_must (refine (S.out _ hL4).mono ?_; rintro e w4 ⟨rfl, q, rfl⟩; dsimp only))
              | (go_at_call 89; go_must (refine (PB.out _ _ (box_old hQ5) hcj).mono ?_; rintro e w3 ⟨rfl, hb3⟩; have hb4 : Below w2.heap.size w2 w3 := ((hb.alloc hb.size _).alloc (by simp; have := hb.size; omega) _).trans (hb3.mono (by simp; have := hb.size; omega)); have hL4 := hL.same (hb4.block _ hl); have x0 : w3.cell? ⟨wr.heap.size, 0, none⟩ = some (.int .i64 (j : Int)) := (hb3.cell (p := ⟨wr.heap.size, 0, none⟩) (by simp; omega)).trans hcj; have x1 : w3.cell? ⟨wr.heap.size + 1, 1, none⟩ = some (.int .i64 pe) := (hb3.cell (p := ⟨wr.heap.size + 1, 1, none⟩) (by simp)).trans (by simp); have x2 := lt_of_cell x0; have x3 := lt_of_cell x1; dsimp only)))
            go_roundw
            case rel => exact ⟨j + 1, by omega, by go_num, by rw [P3.out rfl rfl], by rw [P3.out rfl rfl], below_drewN' hb4 q⟩
            case measure => simp [intOf]; omega
          · go_wp2_with (first
              | (go_at_call 80; go_must (refine (S.out _ hL4).mono ?_; rintro e w4 ⟨rfl, q, rfl⟩; dsimp only))
              | (go_at_call 89; go_must (refine (PB.out _ _ (box_old hQ5) hcj).mono ?_; rintro e w3 ⟨rfl, hb3⟩; have hb4 : Below w2.heap.size w2 w3 := ((hb.alloc hb.size _).alloc (by simp; have := hb.size; omega) _).trans (hb3.mono (by simp; have := hb.size; omega)); have hL4 := hL.same (hb4.block _ hl); have x0 : w3.cell? ⟨wr.heap.size, 0, none⟩ = some (.int .i64 (j : Int)) := (hb3.cell (p := ⟨wr.heap.size, 0, none⟩) (by simp; omega)).trans hcj; have x1 : w3.cell? ⟨wr.heap.size + 1, 1, none⟩ = some (.int .i64 pe) := (hb3.cell (p := ⟨wr.heap.size + 1, 1, none⟩) (by simp)).trans (by simp); have x2 := lt_of_cell x0; have x3 := lt_of_cell x1; dsimp only)))
            go_roundw
            case rel => exact ⟨j + 1, by omega, by go_num, by rw [P2.out rfl rfl], by rw [P2.out rfl rfl], below_drewN' hb4 q⟩
            case measure => simp [intOf]; omega
        · go_wp2_with (go_at_call 89; go_must (refine (PB.out _ _ (box_old hQ5) hcj).mono ?_; rintro e w3 ⟨rfl, hb3⟩; dsimp only))
          go_roundw
          case rel => exact ⟨j + 1, by omega, by go_num, by rw [P1.out rfl], by rw [P1.out rfl], ((hb.alloc hb.size _).alloc (by simp; have := hb.size; omega) _).trans (hb3.mono (by simp; have := hb.size; omega))⟩
          case measure => simp [intOf]; omega
      · obtain rfl : j = m.sums.length := by omega
        go_wp2
        go_ret3
        rw [HE.out]
        exact ⟨rfl, box_old hQ3⟩
  · have g1 := nei_t he
    have HX := Lib.hid he
    replace HE := Lib.hid (HE.out.trans (if_neg he))
    clear he
    go_enter Try.func34, Try.ntmps34
    go_wp2_with (go_at_call 74; go_must (refine C.out.mono ?_; rintro e w2 ⟨v2, rfl, h2, hb2, h3⟩; obtain rfl := h3 HX.out; have hQ2 := box_on hQ hb2; dsimp only))
    go_ret3
    rw [HE.out]
    exact ⟨rfl, box_old hQ2⟩
end Go.Proofs.Ytnlolliankhfmaa
