/- What is proved here: the walk of MoneyOnce: it returns true, and turns nothing that was there. Conditions: the list lies in memory. -/
import Derived.Test.YtnlolliankhfmaaLwA
import Derived.Test.YtnlolliankhfmaaLwT
set_option linter.unusedVariables false
set_option linter.unusedSimpArgs false
namespace Go.Proofs.Ytnlolliankhfmaa
open Go Go.RowKit
theorem Inside_yes (n lo hi : Int) (w : World) (h : inB n lo hi = true) : Calls Try.prog 41 #[.int .i64 n, .agg #[.int .i64 lo, .int .i64 hi]] w fun e w' => e = .returned (.bool true) ∧ Below w.heap.size w w' := by
  have C := Inside_any n lo hi w
  rwa [h] at C
set_option maxRecDepth 100000 in
set_option maxHeartbeats 4000000 in
theorem MoneyOnce_walk (ac az aw ap : Option Addr) (cc cz cw cp : Nat) (m : MoList) (x : Nat) (hx : x ≤ 65535) (w : World) (hm : ListC w ac az aw ap cc cz cw cp m) : Calls Try.prog 8 #[(.agg #[.slice ac m.claimants.length cc, .slice az m.sums.length cz, .slice aw m.words.length cw, .slice ap m.paid.length cp]), .int .u16 (x : Int)] w fun e w' => e = .returned (.bool true) ∧ Below w.heap.size w w' := by
  have hQ := Below.refl (w.heap.size + 1) (w.alloc (.cells #[.slice ac m.claimants.length cc, .slice az m.sums.length cz, .slice aw m.words.length cw, .slice ap m.paid.length cp] 27))
  have hx4 := box_four hQ
  have hz := box_size hQ
  by_cases h0 : wholeErr m = 0
  · obtain ⟨hv, hpos⟩ := whole_valid h0
    have PC := fun (i : Nat) (hi : i < m.sums.length) => pay_cases h0 hi
    have OC := fun (c : Nat) (hc : c < m.claimants.length) => owed_cases h0 hc
    have DA := fun (t : List Int) (ht : t ∈ truths m) => dues_all ht
    have DU := fun (t : List Int) (ht : t ∈ truths m) (c : Int) => due_is ht c
    have TL := truths_len m
    have HS := Lib.hid (fun (W : World) (h : ListC W ac az aw ap cc cz cw cp m) => SomeL_yes _ _ _ _ _ _ _ _ m h0 W h)
    have HT := Lib.hid (fun (W : World) (h : ListC W ac az aw ap cc cz cw cp m) => Truths7_any ac az aw ap cc cz cw cp m W h hv)
    have hk : x % (truths m).length < (truths m).length := Nat.mod_lt _ hpos
    have n5 := hv.nz
    have n4 := hv.nc
    have l1 := hm.okc.len
    have l2 := hm.okz.len
    have hv' := Lib.hid hv
    have hmany := truths_many m n4 m.sums.length n5
    replace hmany : (truths m).length ≤ 1024 := hmany
    clear hv h0
    have ht := List.getElem_mem hk
    obtain ⟨t, hte⟩ : ∃ t, t = (truths m)[x % (truths m).length] := ⟨_, rfl⟩
    rw [← hte] at ht
    have htl := TL t ht
    replace DA := Lib.hid (DA t ht)
    replace DU := Lib.hid (DU t ht)
    replace PC := Lib.hid (fun i hi => (PC i hi).imp (fun ⟨c, h1, _, _, _, h2⟩ => (⟨c, h1, h2 t ht⟩ : ∃ c : Int, payOf m i = (c, 0) ∧ t[i]?.getD 0 = c)) (fun h => h.1))
    replace OC := Lib.hid (fun c hc => (OC c hc).imp fun lo h => h.imp fun hi h => (⟨h.1, h.2 t ht⟩ : owedOf m c = ((lo, hi), 0) ∧ lo ≤ dueOf m t c ∧ dueOf m t c ≤ hi))
    replace hte := Lib.hid hte
    clear TL ht
    generalize truths m = T at HT hpos hk hte hmany
    have hne : ((T.length : Int) == 0) = false := eqi_f (by omega)
    go_enter Try.func8, Try.ntmps8
    go_wp2_with (first
      | (go_at_call 39; (with_reducible refine (HT.out _ (hm.mono (box_old hQ))).mono ?_); rintro e w3 ⟨v, rfl, ⟨aT, cT, rfl, hsT, hrT⟩, hb⟩; obtain ⟨bT, oT, aR, cR, rfl, hbT, hcT, hsR, hiR⟩ := hrT _ hk; rw [← hte.out] at hcT hsR hiR; replace hQ := box_on hQ hb; replace hx4 := box_four hQ; replace hz := box_size hQ; dsimp only)
      | (go_at_call 38; (with_reducible refine (HS.out _ (hm.mono (box_old hQ))).mono ?_); rintro e w2 ⟨rfl, hb⟩; replace hQ := box_on hQ hb; replace hx4 := box_four hQ; replace hz := box_size hQ; dsimp only))
    clear hcT
    have hpd := Lib.hid (penceTo_bd m hv'.out)
    go_loopw [9] (fun i wr => ∃ k : Nat, k ≤ m.sums.length ∧ i = .int .i64 k ∧ Below w3.heap.size w3 wr) (fun i _ => m.sums.length - (intOf i).toNat)
    case atStart => exact ⟨0, Nat.zero_le _, rfl, Below.refl _ _⟩
    case round =>
      obtain ⟨i, hi, rfl, hB⟩ := hrel
      have hQ2 := box_on hQ hB
      replace hx4 := box_four hQ2
      replace hz := box_size hQ2
      by_cases hlt : i < m.sums.length
      · have hlt2 : i < t.length := by omega
        obtain ⟨bR, oR, rfl, hbR, hcR⟩ := hiR i hlt2
        replace hcR := cell_below hB hcR
        have hbR2 := lt_of_cell hcR
        have hti : t[i]?.getD 0 = t[i] := by rw [List.getElem?_eq_getElem hlt2]; rfl
        have P := PC.out i hlt
        rw [hti] at P
        generalize t[i] = ti at hcR P
        rcases P with ⟨c, hp, rfl⟩ | hp
        · replace hp := Lib.hid hp
          have hne2 := nei_f (rfl : ti = ti)
          go_wp2_with (go_at_call 24; (with_reducible refine (A_Pay _ _ _ _ _ _ _ _ m i ti 0 hp.out _ (hm.mono (box_old hQ2))).mono ?_); rintro e w4 ⟨rfl, hb⟩; replace hB := hB.trans (hb.mono hB.size); replace hcR := cell_below hb hcR; replace hbR2 := lt_of_cell hcR; dsimp only)
          go_roundw
          case rel => exact ⟨i + 1, by omega, by go_num, hB⟩
          case measure => simp [intOf]; omega
        · replace hp := Lib.hid hp
          go_wp2_with (go_at_call 24; (with_reducible refine (A_Pay _ _ _ _ _ _ _ _ m i 0 9 hp.out _ (hm.mono (box_old hQ2))).mono ?_); rintro e w4 ⟨rfl, hb⟩; replace hB := hB.trans (hb.mono hB.size); dsimp only)
          go_roundw
          case rel => exact ⟨i + 1, by omega, by go_num, hB⟩
          case measure => simp [intOf]; omega
      · go_wp2
        clear hx4 hz
        have hDB := Lib.hid (duesUpto_bd m hv'.out t m.sums.length)
        go_loopw [12, 13] (fun s c wq => ∃ k : Nat, k ≤ m.claimants.length ∧ c = .int .i64 k ∧ s = .int .i64 (duesUpto m t m.sums.length k) ∧ Below w3.heap.size w3 wq) (fun _ c _ => m.claimants.length - (intOf c).toNat)
        case atStart => exact ⟨0, Nat.zero_le _, rfl, rfl, hB⟩
        case round =>
          obtain ⟨k, hk2, rfl, rfl, hBq⟩ := hrel
          have hQ3 := box_on hQ hBq
          have hx4 := box_four hQ3
          have hz := box_size hQ3
          have hd := hDB.out k
          have hd3 : duesUpto m t m.sums.length k ≤ 1980 := by
            have h1 : ((99 * m.sums.length * k : Nat) : Int) ≤ ((99 * 5 * 4 : Nat) : Int) := by
              have := Nat.mul_le_mul (Nat.mul_le_mul_left 99 n5) (show k ≤ 4 by omega)
              exact_mod_cast this
            have h2 := hd.2
            push_cast at h1
            omega
          by_cases hlt : k < m.claimants.length
          · have hs : Hid (duesUpto m t m.sums.length (k + 1) = duesUpto m t m.sums.length k + dueOf m t k) := Lib.hid (by rw [duesUpto, DU.out])
            obtain ⟨lo, hi2, ho, ho1, ho2⟩ := OC.out k hlt
            have hbd := dueTo_bd m hv'.out t k t.length
            replace hbd : 0 ≤ dueOf m t k ∧ dueOf m t k ≤ 495 := by unfold dueOf; omega
            have D := Lib.hid (fun (W : World) (h : ListC W ac az aw ap cc cz cw cp m) (h2 : IntsC W aR t) => Due7_any ac az aw ap cc cz cw cp m aR t cR k W h hv'.out hsR h2 htl)
            simp only [htl] at D
            have hin : Hid (inB (dueOf m t k) lo hi2 = true) := Lib.hid (inB_iff.2 ⟨ho1, ho2⟩)
            clear ho1 ho2
            generalize dueOf m t k = n at hs hbd D hin
            generalize duesUpto m t m.sums.length k = s at hs hd hd3 ⊢
            replace ho := Lib.hid ho
            go_wp2_with (first
              | (go_at_call 41; (with_reducible refine (Inside_yes n lo hi2 _ hin.out).mono ?_); rintro e w6 ⟨rfl, hb⟩; replace hBq := hBq.trans (hb.mono hBq.size); dsimp only)
              | (go_at_call 40; (with_reducible refine (D.out _ (hm.mono (box_old (box_on hQ hBq))) (hiR.mono hBq)).mono ?_); rintro e w5 ⟨rfl, hb⟩; obtain ⟨p1, p2, p3⟩ := sp_on s1 hb; replace hBq := hBq.trans (hb.mono hBq.size); dsimp only)
              | (go_at_call 32; (with_reducible refine (A_Owed _ _ _ _ _ _ _ _ m k lo hi2 0 ho.out _ (hm.mono (box_old hQ3))).mono ?_); rintro e w4 ⟨rfl, hb⟩; have s1 := sp_new w4 lo hi2 44; replace hb := hb.trans ((al_on w4 (.cells #[.int .i64 lo, .int .i64 hi2] 44)).mono hb.size); replace hBq := hBq.trans (hb.mono hBq.size); replace hx4 := box_four (box_on hQ hBq); replace hz := box_size (box_on hQ hBq); dsimp only))
            go_roundw
            case rel => exact ⟨k + 1, by omega, by go_num, by rw [hs.out], hBq⟩
            case measure => simp [intOf]; omega
          · obtain rfl : k = m.claimants.length := by omega
            rw [DA.out]
            have HP := Lib.hid (fun (W : World) (h : ListC W ac az aw ap cc cz cw cp m) => Pence_any _ _ _ _ _ _ _ _ m W h hv'.out)
            generalize penceTo m m.sums.length = p at HP
            have hpp := eqi_t (rfl : p = p)
            go_wp2_with (first
              | (go_at_call 23; (with_reducible refine (Awake_any _).mono ?_); rintro e w6 ⟨rfl, hb⟩; replace hBq := hBq.trans (hb.mono hBq.size); dsimp only)
              | (go_at_call 42; (with_reducible refine (HP.out _ (hm.mono (box_old hQ3))).mono ?_); rintro e w5 ⟨rfl, hb⟩; replace hBq := hBq.trans (hb.mono hBq.size); dsimp only))
            go_ret
            exact ⟨rfl, box_old (box_on hQ hBq)⟩
  · obtain ⟨⟨n, e1⟩, h1⟩ : ∃ r, payOf m 0 = r := ⟨_, rfl⟩
    have he : e1 ≠ 0 := by have := pay_bad h0 0; rw [h1] at this; exact this
    have he' := nei_t he
    have HS := Lib.hid (fun (W : World) (h : ListC W ac az aw ap cc cz cw cp m) => SomeL_no _ _ _ _ _ _ _ _ m h0 W h)
    replace h1 := Lib.hid h1
    clear he h0
    go_enter Try.func8, Try.ntmps8
    go_wp2_with (first
      | (go_at_call 23; (with_reducible refine (Awake_any _).mono ?_); rintro e w4 ⟨rfl, hb⟩; replace hQ := box_on hQ hb; replace hx4 := box_four hQ; replace hz := box_size hQ; dsimp only)
      | (go_at_call 24; (with_reducible refine (A_Pay _ _ _ _ _ _ _ _ m 0 n e1 h1.out _ (hm.mono (box_old hQ))).mono ?_); rintro e w3 ⟨rfl, hb⟩; replace hQ := box_on hQ hb; replace hx4 := box_four hQ; replace hz := box_size hQ; dsimp only)
      | (go_at_call 38; (with_reducible refine (HS.out _ (hm.mono (box_old hQ))).mono ?_); rintro e w2 ⟨rfl, hb⟩; replace hQ := box_on hQ hb; replace hx4 := box_four hQ; replace hz := box_size hQ; dsimp only))
    go_ret
    exact ⟨rfl, box_old hQ⟩
end Go.Proofs.Ytnlolliankhfmaa
