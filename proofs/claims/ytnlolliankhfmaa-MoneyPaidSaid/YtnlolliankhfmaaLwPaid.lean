/- What is proved here: the walk of MoneyPaid: it returns true, and turns nothing that was there. Conditions: the list lies in memory. -/
import Derived.Test.YtnlolliankhfmaaLwP
set_option linter.unusedVariables false
set_option linter.unusedSimpArgs false
namespace Go.Proofs.Ytnlolliankhfmaa
open Go Go.RowKit
set_option maxRecDepth 100000 in
set_option maxHeartbeats 4000000 in
theorem MoneyPaid_walk (ac az aw ap : Option Addr) (cc cz cw cp : Nat) (m : MoList) (x : Nat) (hx : x ≤ 255) (w : World) (hm : ListC w ac az aw ap cc cz cw cp m) : Calls Try.prog 11 #[(.agg #[.slice ac m.claimants.length cc, .slice az m.sums.length cz, .slice aw m.words.length cw, .slice ap m.paid.length cp]), .int .u8 (x : Int)] w fun e w' => e = .returned (.bool true) ∧ Below w.heap.size w w' := by
  have hQ := Below.refl (w.heap.size + 1) (w.alloc (.cells #[.slice ac m.claimants.length cc, .slice az m.sums.length cz, .slice aw m.words.length cw, .slice ap m.paid.length cp] 27))
  have hx4 := box_four hQ
  have hz := box_size hQ
  by_cases h0 : wholeErr m = 0
  · have hv := (whole_valid h0).1
    obtain ⟨wl, hW, hr, hinc, hso, hfe⟩ := wrong_facts h0
    have l2 := hm.okz.len
    have l4 := hm.okp.len
    have n5 := hv.nz
    have np := hv.np
    have HS := Lib.hid (fun (W : World) (h : ListC W ac az aw ap cc cz cw cp m) => SomeL_yes _ _ _ _ _ _ _ _ m h0 W h)
    have HT := Lib.hid (fun (W : World) (h : ListC W ac az aw ap cc cz cw cp m) => Truths7_any ac az aw ap cc cz cw cp m W h hv)
    have tl := Lib.hid (truths_len m)
    have SR := Lib.hid (fun (aL ab : Option Addr) (but : List Int) (cL cb : Nat) (W : World) (h : ListC W ac az aw ap cc cz cw cp m) (h1 : SlOk aL (truths m).length cL) (h2 : RowsC W aL (truths m)) (h3 : SlOk ab but.length cb) (h4 : IntsC W ab but) => SomeRight7_any ac az aw ap cc cz cw cp m aL ab (truths m) but cL cb W h hv h1 h2 (truths_len m) h3 h4)
    have PC : Hid (∀ i : Nat, i < m.sums.length → (∃ c : Int, payOf (withPaid m (sureTo m i)) i = (c, 0) ∧ sureTo m (i + 1) = sureTo m i ++ [⟨i, c⟩]) ∨ (payOf (withPaid m (sureTo m i)) i = (0, 9) ∧ sureTo m (i + 1) = sureTo m i)) := Lib.hid (fun i hi => by
      have hp := pay_paid h0 (sureTo_ok h0 (show i ≤ m.sums.length by omega)) hi
      rcases pay_cases h0 hi with ⟨c, h1, -⟩ | ⟨h1, -⟩
      · exact .inl ⟨c, hp.trans h1, sureTo_yes h1⟩
      · exact .inr ⟨hp.trans h1, sureTo_no h1 (by decide)⟩)
    have SL := Lib.hid (sureTo_len m)
    have SW := Lib.hid (sure_wrong h0)
    have IL := Lib.hid (idxTo_len (x : Int))
    replace hfe := Lib.hid (hfe (x : Int))
    generalize truths m = T at HT SR hso hfe tl
    generalize hO : idxTo (x : Int) m.paid.length = O at hfe
    replace hO := Lib.hid hO
    replace hso := Lib.hid hso
    replace hr := Lib.hid hr
    replace hW := Lib.hid hW
    clear h0 hv hinc
    go_enter Try.func11, Try.ntmps11
    go_wp2_with (first
      | (go_at_call 39; (with_reducible refine (HT.out _ (hm.mono (box_old hQ))).mono ?_); rintro e w4 ⟨v, rfl, ⟨aT, cT, rfl, hsT, hrT⟩, hb⟩; replace i1 := i1.mono hb; replace hQ := box_on hQ hb; replace hx4 := box_four hQ; replace hz := box_size hQ; dsimp only)
      | (go_at_call 38; (with_reducible refine (HS.out _ (hm.mono (box_old hQ))).mono ?_); rintro e w3 ⟨rfl, hb⟩; replace i1 := i1.mono hb; replace hQ := box_on hQ hb; replace hx4 := box_four hQ; replace hz := box_size hQ; dsimp only)
      | (go_at_call 30; (with_reducible refine (A_Wrong _ _ _ _ _ _ _ _ m wl 0 hW.out _ (hm.mono (box_old hQ))).mono ?_); rintro e w2 ⟨a1, c1, rfl, o1, i1, hb⟩; replace hQ := box_on hQ hb; replace hx4 := box_four hQ; replace hz := box_size hQ; dsimp only))
    clear hx4 hz
    go_loopw [8, 9] (fun o i wq => ∃ k : Nat, k ≤ m.paid.length ∧ i = .int .i64 k ∧ wq.ownsRow w4.heap.size 3 1 o (idxTo (x : Int) k).length ((idxTo (x : Int) k).map (Value.int .i64)) ∧ Below w4.heap.size w4 wq) (fun _ i _ => m.paid.length - (intOf i).toNat)
    case atStart => exact ⟨0, Nat.zero_le _, rfl, World.ownsRow_nil _ _ _ _, Below.refl _ _⟩
    case round =>
      obtain ⟨k, hk, rfl, hown, hB⟩ := hrel
      have hBz := hB.size
      have hQ5 := box_on hQ hB
      have hx4 := box_four hQ5
      have hz := box_size hQ5
      by_cases hlt : k < m.paid.length
      · have hy := Lib.hid (idxTo_yes (b := (x : Int)) (j := k))
        have hn := Lib.hid (idxTo_no (b := (x : Int)) (j := k))
        have hpl := IL.out k
        generalize hL : idxTo (x : Int) k = L at hown hy hn hpl
        clear hL
        cases hbit : bitB (x : Int) k
        · go_wp2_with (go_at_call 46; (with_reducible refine (Bit_is x k _ _ hbit (by omega) (by omega)).mono ?_); rintro e w7 ⟨rfl, rfl⟩; dsimp only)
          go_roundw
          case rel => exact ⟨k + 1, by omega, by go_num, by rw [hn.out hbit]; exact hown, hB⟩
          case measure => simp [intOf]; omega
        · go_wp2_with (first
            | (at_builtin; go_must (refine wpList_app (.tmp 44) (.tmp 46) E_int rfl rfl rfl rfl w4.heap.size L.length 1 (L.map (Value.int .i64)) [.int .i64 (k : Int)] (hown.alloc _) (SrcAt.one _ _ _ rfl) (by omega) (by decide) (by simp; omega) ?_; intro v2 w8 ho2 hg2 _; (have hb2 := app_next hB (Nat.le_refl _) (Nat.le_refl _) hown hg2); clear hg2; simp only [Act.put, List.setIfInBounds_toArray, List.set_cons_succ, List.set_cons_zero]))
            | (go_at_call 46; (with_reducible refine (Bit_is x k _ _ hbit (by omega) (by omega)).mono ?_); rintro e w7 ⟨rfl, rfl⟩; dsimp only))
          go_roundw
          case rel => exact ⟨k + 1, by omega, by go_num, by rw [hy.out hbit]; simpa using ho2, hb2⟩
          case measure => simp [intOf]; omega
      · obtain rfl : k = m.paid.length := by omega
        rw [hO.out] at hown
        obtain ⟨a3, c3, rfl, o3, i3⟩ := ints_ownV hown
        replace i1 := i1.mono hB
        replace hrT := hrT.mono hB
        have SO := SR.out aT a3 O cT c3
        have SWL := SR.out aT a1 wl cT c1
        rw [hso.out] at SWL
        generalize someRight m T O = D at SO hfe
        replace SO := Lib.hid SO
        replace SWL := Lib.hid SWL
        clear hk hlt
        go_upto_region 11 with (fail)
        go_cut [75] (fun v W => v = .bool false ∧ Below wr.heap.size wr W)
        case first =>
          have hBc := Below.refl wr.heap.size wr
          cases D
          · go_wp2_with (first
              | (go_at_call 53; (with_reducible refine (SO.out _ (hm.mono (box_old hQ5)) hsT hrT o3 i3).mono ?_); rintro e w11 ⟨rfl, hb⟩; replace hBc := hBc.trans (hb.mono hBc.size); dsimp only)
              | (go_at_call 53; (with_reducible refine (SWL.out _ (hm.mono (box_old hQ5)) hsT hrT o1 i1).mono ?_); rintro e w10 ⟨rfl, hb⟩; replace hBc := hBc.trans (hb.mono hBc.size); replace hQ5 := box_on hQ5 hb; replace hrT := hrT.mono hb; replace i1 := i1.mono hb; replace i3 := i3.mono hb; replace hx4 := box_four hQ5; replace hz := box_size hQ5; dsimp only)
              | (go_at_call 43; (with_reducible refine (Rising_yes _ _ _ _ _ hr.out o1.len i1).mono ?_); rintro e w9 ⟨rfl, rfl⟩; dsimp only))
            go_meet
            case rel => exact ⟨rfl, hBc⟩
          · go_wp2_with (first
              | (go_at_call 48; (with_reducible refine (Fewer_no _ _ _ _ _ _ _ (hfe.out rfl) o3.len o1.len i3 i1).mono ?_); rintro e w12 ⟨rfl, hb⟩; replace hBc := hBc.trans (hb.mono hBc.size); dsimp only)
              | (go_at_call 53; (with_reducible refine (SO.out _ (hm.mono (box_old hQ5)) hsT hrT o3 i3).mono ?_); rintro e w11 ⟨rfl, hb⟩; replace hBc := hBc.trans (hb.mono hBc.size); replace i1 := i1.mono hb; replace i3 := i3.mono hb; dsimp only)
              | (go_at_call 53; (with_reducible refine (SWL.out _ (hm.mono (box_old hQ5)) hsT hrT o1 i1).mono ?_); rintro e w10 ⟨rfl, hb⟩; replace hBc := hBc.trans (hb.mono hBc.size); replace hQ5 := box_on hQ5 hb; replace hrT := hrT.mono hb; replace i1 := i1.mono hb; replace i3 := i3.mono hb; replace hx4 := box_four hQ5; replace hz := box_size hQ5; dsimp only)
              | (go_at_call 43; (with_reducible refine (Rising_yes _ _ _ _ _ hr.out o1.len i1).mono ?_); rintro e w9 ⟨rfl, rfl⟩; dsimp only))
            go_meet
            case rel => exact ⟨rfl, hBc⟩
        case rest =>
          obtain ⟨rfl, hBc⟩ := hcut
          have hQc := box_on hQ5 hBc
          have H0 : wc.heap[w.heap.size]? = some (.cells #[.slice ac m.claimants.length cc, .slice az m.sums.length cz, .slice aw m.words.length cw, .slice ap m.paid.length cp] 27 (0, 0)) := blk_below hQc (by omega) (blk_new w (.cells #[.slice ac m.claimants.length cc, .slice az m.sums.length cz, .slice aw m.words.length cw, .slice ap m.paid.length cp] 27 (0, 0)))
          clear hx4 hz i1 i3 o1 o3 hown hrT hsT SO SWL SR HT
          have c3' : wc.cell? ⟨w.heap.size, 3, none⟩ = some (.slice ap m.paid.length cp) := blk_cell 3 H0 rfl
          have f3 := blk_free 3 H0
          have z3 := lt_of_block H0
          go_upto_region 14 with (fail)
          obtain ⟨Y, hY⟩ : ∃ Y : World, Y = wc.setCell ⟨w.heap.size, 3, none⟩ (.slice none 0 0) := ⟨_, rfl⟩
          rw [← hY]
          have HY : Y.heap[w.heap.size]? = some (.cells #[.slice ac m.claimants.length cc, .slice az m.sums.length cz, .slice aw m.words.length cw, .slice none 0 0] 27 (0, 0)) := by rw [hY]; exact blk_set 3 _ H0
          have HbY : Below w.heap.size w Y := by rw [hY]; exact (box_old hQc).setCell (Nat.le_refl _) _
          clear hY c3' f3 z3 H0
          go_wp2
          go_loopw [10] (fun i wr => ∃ (k : Nat) (ap' : Option Addr) (cp' : Nat), k ≤ m.sums.length ∧ i = .int .i64 k ∧ wr.heap[w.heap.size]? = some (.cells #[.slice ac m.claimants.length cc, .slice az m.sums.length cz, .slice aw m.words.length cw, .slice ap' (sureTo m k).length cp'] 27 (0, 0)) ∧ ListC wr ac az aw ap' cc cz cw cp' (withPaid m (sureTo m k)) ∧ Below w.heap.size w wr) (fun i _ => m.sums.length - (intOf i).toNat)
          case atStart => exact ⟨0, none, 0, Nat.zero_le _, rfl, HY, list_paid hm HbY ⟨Nat.le_refl _, by omega, fun _ => rfl⟩ (paid_none _), HbY⟩
          case round =>
            clear HY HbY
            obtain ⟨k, ap', cp', hk, rfl, H0, hK, hB⟩ := hrel
            have hsl := SL.out k
            have PCk := PC.out k
            have hx4 : wr.cell? ⟨w.heap.size, 0, none⟩ = some (.slice ac m.claimants.length cc) ∧ wr.cell? ⟨w.heap.size, 1, none⟩ = some (.slice az m.sums.length cz) ∧ wr.cell? ⟨w.heap.size, 2, none⟩ = some (.slice aw m.words.length cw) ∧ wr.cell? ⟨w.heap.size, 3, none⟩ = some (.slice ap' (sureTo m k).length cp') := ⟨blk_cell 0 H0 rfl, blk_cell 1 H0 rfl, blk_cell 2 H0 rfl, blk_cell 3 H0 rfl⟩
            have hz := lt_of_block H0
            by_cases hlt : k < m.sums.length
            · replace PCk := PCk hlt
              rcases PCk with ⟨c, hp, hs⟩ | ⟨hp, hs⟩
              · generalize hP2 : sureTo m (k + 1) = P2 at hs
                replace hP2 := Lib.hid hP2
                generalize sureTo m k = P at H0 hK hsl hx4 hp hs
                replace hp := Lib.hid hp
                replace hs := Lib.hid hs
                go_upto_region 19 with (go_at_call 24; (with_reducible refine (A_PayP _ _ _ _ _ _ _ _ m P k c 0 hp.out _ hK).mono ?_); rintro e V ⟨rfl, hb⟩; replace H0 := blk_below hb hz H0; replace hB := hB.trans (hb.mono hB.size); replace hK := hK.mono hb; replace hx4 := (⟨blk_cell 0 H0 rfl, blk_cell 1 H0 rfl, blk_cell 2 H0 rfl, blk_cell 3 H0 rfl⟩ : V.cell? ⟨w.heap.size, 0, none⟩ = some (.slice ac m.claimants.length cc) ∧ V.cell? ⟨w.heap.size, 1, none⟩ = some (.slice az m.sums.length cz) ∧ V.cell? ⟨w.heap.size, 2, none⟩ = some (.slice aw m.words.length cw) ∧ V.cell? ⟨w.heap.size, 3, none⟩ = some (.slice ap' P.length cp')); replace hz := lt_of_block H0; dsimp only)
                have f3 := blk_free 3 H0
                have H0v := H0
                go_wp2_with (first
                  | (at_builtin; (have ho1' := ho1); (refine wpList_app (.tmp 95) (.tmp 99) E_paid rfl rfl rfl rfl V.heap.size P.length 1 (flatC paidCells P) [.int .i64 (k : Int), .int .i64 c] (ho1'.alloc _) (SrcAt.pair w14 _ _ _) (by omega) (by decide) (by have := hb1.size; simp; omega) ?_; intro v2 w15 ho2 hg2 _; (have hb2 := app_next hb1 (Nat.le_refl _) (Nat.le_refl _) ho1 hg2); clear hg2; (rw [paid_snoc, ← hs.out] at ho2); (have e2 : P.length + 1 = P2.length := by rw [hs.out]; simp); (rw [e2] at ho2); clear e2; (obtain ⟨-, a9, c9, rfl, hs9, -⟩ := paid_own ho2); replace H0 := blk_below hb2 hz H0v; replace f3 := blk_free 3 H0; replace hx4 := (⟨blk_cell 0 H0 rfl, blk_cell 1 H0 rfl, blk_cell 2 H0 rfl, blk_cell 3 H0 rfl⟩ : w15.cell? ⟨w.heap.size, 0, none⟩ = some (.slice ac m.claimants.length cc) ∧ w15.cell? ⟨w.heap.size, 1, none⟩ = some (.slice az m.sums.length cz) ∧ w15.cell? ⟨w.heap.size, 2, none⟩ = some (.slice aw m.words.length cw) ∧ w15.cell? ⟨w.heap.size, 3, none⟩ = some (.slice ap' P.length cp')); have hz2 := lt_of_block H0; simp only [Act.put, List.setIfInBounds_toArray, List.set_cons_succ, List.set_cons_zero]))
                  | (at_builtin; go_must (refine wpList_app (.tmp 92) (.tmp 94) E_paid rfl rfl rfl rfl V.heap.size 0 P.length [] (flatC paidCells P) (made_row V _ 2) ?g1 (by omega) (by decide) (by simp) ?_; (case g1 => exact SrcAt.paid hK.okp.2.2 (hK.paid.mono (al_on _ _))); intro v1 w14 ho1 hg1 _; (simp only [Nat.zero_add, List.nil_append] at ho1); (have hb1 := app_fresh (n := 0) (c := 0) hg1); clear hg1; replace H0 := blk_below hb1 hz H0; replace f3 := blk_free 3 H0; replace hx4 := (⟨blk_cell 0 H0 rfl, blk_cell 1 H0 rfl, blk_cell 2 H0 rfl, blk_cell 3 H0 rfl⟩ : w14.cell? ⟨w.heap.size, 0, none⟩ = some (.slice ac m.claimants.length cc) ∧ w14.cell? ⟨w.heap.size, 1, none⟩ = some (.slice az m.sums.length cz) ∧ w14.cell? ⟨w.heap.size, 2, none⟩ = some (.slice aw m.words.length cw) ∧ w14.cell? ⟨w.heap.size, 3, none⟩ = some (.slice ap' P.length cp')); have hz1 := lt_of_block H0; simp only [Act.put, List.setIfInBounds_toArray, List.set_cons_succ, List.set_cons_zero])))
                go_roundw
                case rel =>
                  refine ⟨k + 1, a9, c9, by omega, by go_num, ?_, ?_, ?_⟩
                  · rw [hP2.out]; exact blk_set 3 _ H0
                  · rw [hP2.out]
                    have hoY := ownsRow_setCell_other ho2 (a := ⟨w.heap.size, 3, none⟩) (fun e => by have h1 := (ho2.lt _ e).1; simp only at h1; omega) (.slice a9 P2.length c9)
                    obtain ⟨_, a8, c8, e8, hs8, hw8⟩ := paid_own hoY
                    cases e8
                    exact list_paid hm ((hB.trans (hb2.mono hB.size)).setCell (Nat.le_refl _) _) hs8 hw8
                  · exact (hB.trans (hb2.mono hB.size)).setCell (Nat.le_refl _) _
                case measure => simp [intOf]; omega
              · replace hp := Lib.hid hp
                go_wp2_with (go_at_call 24; (with_reducible refine (A_PayP _ _ _ _ _ _ _ _ m (sureTo m k) k 0 9 hp.out _ hK).mono ?_); rintro e V ⟨rfl, hb⟩; replace H0 := blk_below hb hz H0; replace hB := hB.trans (hb.mono hB.size); replace hK := hK.mono hb; dsimp only)
                go_roundw
                case rel => exact ⟨k + 1, ap', cp', by omega, by go_num, by rw [hs]; exact H0, by rw [hs]; exact hK, hB⟩
                case measure => simp [intOf]; omega
            · obtain rfl : k = m.sums.length := by omega
              clear PCk
              go_wp2_with (first
                | (go_at_call 23; (with_reducible refine (Awake_any _).mono ?_); rintro e w15 ⟨rfl, hb⟩; replace hB := hB.trans (hb.mono hB.size); dsimp only)
                | (go_at_call 30; (with_reducible refine (A_WrongP _ _ _ _ _ _ _ _ m _ [] 0 SW.out _ hK).mono ?_); rintro e w14 ⟨a6, c6, rfl, o6, i6, hb⟩; replace hB := hB.trans (hb.mono hB.size); dsimp only [List.length_nil]))
              go_ret
              exact ⟨rfl, hB⟩
  · have hW := wrong_no h0
    have he' := nei_t h0
    have HS := Lib.hid (fun (W : World) (h : ListC W ac az aw ap cc cz cw cp m) => SomeL_no _ _ _ _ _ _ _ _ m h0 W h)
    generalize wholeErr m = e1 at hW he'
    replace hW := Lib.hid hW
    clear h0
    go_enter Try.func11, Try.ntmps11
    go_wp2_with (first
      | (go_at_call 23; (with_reducible refine (Awake_any _).mono ?_); rintro e w5 ⟨rfl, hb⟩; replace hQ := box_on hQ hb; replace hx4 := box_four hQ; replace hz := box_size hQ; dsimp only)
      | (go_at_call 38; (with_reducible refine (HS.out _ (hm.mono (box_old hQ))).mono ?_); rintro e w4 ⟨rfl, hb⟩; replace hQ := box_on hQ hb; replace hx4 := box_four hQ; replace hz := box_size hQ; dsimp only)
      | (go_at_call 30; (with_reducible refine (A_Wrong _ _ _ _ _ _ _ _ m [] e1 hW.out _ (hm.mono (box_old hQ))).mono ?_); rintro e w2 ⟨a1, c1, rfl, o1, i1, hb⟩; replace hQ := box_on hQ hb; replace hx4 := box_four hQ; replace hz := box_size hQ; dsimp only [List.length_nil]))
    go_ret
    exact ⟨rfl, box_old hQ⟩
end Go.Proofs.Ytnlolliankhfmaa
