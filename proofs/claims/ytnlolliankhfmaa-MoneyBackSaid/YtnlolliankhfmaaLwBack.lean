/- What is proved here: the walk of MoneyBack: it returns true, and turns nothing that was there. Conditions: the list lies in memory. -/
import Derived.Test.YtnlolliankhfmaaLwBackw
set_option linter.unusedVariables false
set_option linter.unusedSimpArgs false
namespace Go.Proofs.Ytnlolliankhfmaa
open Go Go.RowKit
set_option maxRecDepth 100000 in
set_option maxHeartbeats 4000000 in
theorem MoneyBack_walk (ac az aw ap : Option Addr) (cc cz cw cp : Nat) (m : MoList) (x : Nat) (hx : x ≤ 255) (w : World) (hm : ListC w ac az aw ap cc cz cw cp m) : Calls Try.prog 13 #[(.agg #[.slice ac m.claimants.length cc, .slice az m.sums.length cz, .slice aw m.words.length cw, .slice ap m.paid.length cp]), .int .u8 (x : Int)] w fun e w' => e = .returned (.bool true) ∧ Below w.heap.size w w' := by
  have hQ := Below.refl (w.heap.size + 1) (w.alloc (.cells #[.slice ac m.claimants.length cc, .slice az m.sums.length cz, .slice aw m.words.length cw, .slice ap m.paid.length cp] 27))
  have hx4 := box_four hQ
  have hz := box_size hQ
  have l3 := hm.okw.len
  by_cases h0 : errOf m = 0
  · have hv := valid_of h0
    have n6 := hv.nw
    have HV := Lib.hid (fun (W : World) (h : ListC W ac az aw ap cc cz cw cp m) => Valid_yes _ _ _ _ _ _ _ _ m h0 W h)
    have HB := Lib.hid (fun (W : World) (h : ListC W ac az aw ap cc cz cw cp m) => Backwards_any _ _ _ _ _ _ _ _ m W h hv)
    obtain ⟨⟨l1, n1, e1⟩, hF⟩ : ∃ r, firstOf m = r := ⟨_, rfl⟩
    have hFB := (backW_first h0).trans hF
    have BL := Lib.hid (fun (n : Nat) (hn : n < m.words.length) (hb : m.words[n].back = -1) (hc : counts m n = false) => (back_less h0 hn hb hc).trans hF)
    generalize backW m = K at HB hFB
    replace hF := Lib.hid hF
    replace hFB := Lib.hid hFB
    have b1 := nei_f (rfl : n1 = n1)
    have b2 := nei_f (rfl : e1 = e1)
    have b3 := eqi_t (rfl : n1 = n1)
    have b4 := eqi_t (rfl : e1 = e1)
    clear h0 hv
    go_enter Try.func13, Try.ntmps13
    go_upto_region 7 with (first
      | (go_at_call 20; (with_reducible refine (Ints_same o1 i1 i2).mono ?_); rintro e wc ⟨rfl, hb⟩; replace i1 := i1.mono hb; replace hQ := box_on hQ hb; replace hx4 := box_four hQ; replace hz := box_size hQ; dsimp only)
      | (go_at_call 18; (with_reducible refine (A_First _ _ _ _ _ _ _ _ K l1 n1 e1 hFB.out _ hK).mono ?_); rintro e w5 ⟨a2, c2, rfl, o2, i2, hb⟩; replace i1 := i1.mono hb; replace hQ := box_on hQ hb; replace hx4 := box_four hQ; replace hz := box_size hQ; dsimp only)
      | (go_at_call 54; (with_reducible refine (HB.out _ (hm.mono (box_old hQ))).mono ?_); rintro e w4 ⟨aw', cw', rfl, hK, hb⟩; replace i1 := i1.mono hb; replace hQ := box_on hQ hb; replace hx4 := box_four hQ; replace hz := box_size hQ; dsimp only)
      | (go_at_call 18; (with_reducible refine (A_First _ _ _ _ _ _ _ _ m l1 n1 e1 hF.out _ (hm.mono (box_old hQ))).mono ?_); rintro e w3 ⟨a1, c1, rfl, o1, i1, hb⟩; replace hQ := box_on hQ hb; replace hx4 := box_four hQ; replace hz := box_size hQ; dsimp only)
      | (go_at_call 50; (with_reducible refine (HV.out _ (hm.mono (box_old hQ))).mono ?_); rintro e w2 ⟨rfl, hb⟩; replace hQ := box_on hQ hb; replace hx4 := box_four hQ; replace hz := box_size hQ; dsimp only))
    by_cases hw0 : m.words.length = 0
    · have hw1 : ((m.words.length : Int) == 0) = true := eqi_t (by omega)
      replace hw0 := Lib.hid hw0
      go_wp2_with ((go_at_call 23; (with_reducible refine (Awake_any _).mono ?_); rintro e w6 ⟨rfl, hb⟩; replace hQ := box_on hQ hb; replace hx4 := box_four hQ; replace hz := box_size hQ; dsimp only))
      go_ret
      exact ⟨rfl, box_old hQ⟩
    · have hk : x % m.words.length < m.words.length := Nat.mod_lt _ (by omega)
      have hw1 : ((m.words.length : Int) == 0) = false := eqi_f (by omega)
      have CT := Lib.hid (fun (W : World) (h : ListC W ac az aw ap cc cz cw cp m) => Counts7_any _ _ _ _ _ _ _ _ m (x % m.words.length) W h hk)
      simp only [Int.natCast_emod] at CT
      obtain ⟨y, hy⟩ : ∃ y, m.words[x % m.words.length] = y := ⟨_, rfl⟩
      obtain ⟨bw, ow, rfl, hbw, g0, g1, g2, g3, g4⟩ := hm.words _ hk
      have BLk := BL.out _ hk
      rw [hy] at g0 g1 g2 g3 g4 BLk
      obtain ⟨says, sum, of, back, came⟩ := y
      simp only at g0 g1 g2 g3 g4 BLk
      have hyh := Lib.hid hy
      clear hy
      replace g0 := cell_below (box_old hQ) g0
      replace g1 := cell_below (box_old hQ) g1
      replace g2 := cell_below (box_old hQ) g2
      replace g3 := cell_below (box_old hQ) g3
      replace g4 := cell_below (box_old hQ) g4
      replace hbw := lt_of_cell g0
      have hA := al_on wc (.cells #[.int .i64 says, .int .i64 sum, .int .i64 of, .int .i64 back, .bool came] 70)
      by_cases hb1 : back = -1
      · subst hb1
        cases hcm : came
        · subst hcm
          clear BLk
          go_wp2_with (go_at_call 23; (with_reducible refine (Awake_any _).mono ?_); rintro e w6 ⟨rfl, hb⟩; replace hQ := box_on (box_on hQ hA) hb; dsimp only)
          go_ret
          exact ⟨rfl, box_old hQ⟩
        · have hQA := box_on hQ hA
          have hx5 := box_four hQA
          have hz5 := box_size hQA
          cases hct : counts m (x % m.words.length)
          · rw [hct] at CT
            have FL := BLk rfl hct
            clear BLk hct
            subst hcm
            have NC := Lib.hid (fun (W : World) (a9 : Option Addr) (c9 : Nat) (h : ListC W ac az a9 ap cc cz c9 cp (withCame m (x % m.words.length) false)) => A_First ac az a9 ap cc cz c9 cp (withCame m (x % m.words.length) false) _ _ _ FL W h)
            simp only [withCame_len, withCame_cl, withCame_su, withCame_pa] at NC
            clear FL
            go_upto_region 13 with (go_at_call 55; (with_reducible refine (CT.out _ (hm.mono (box_old hQA))).mono ?_); rintro e w7 ⟨rfl, hb⟩; have hw7 := blk_below hb (by simp) (alloc_at wc (.cells #[.int .i64 says, .int .i64 sum, .int .i64 of, .int .i64 (-1), .bool true] 70) rfl); have hB7 := hA.trans (hb.mono (by simp)); clear hx4 hx5 hz hz5; have q4 : w7.cell? ⟨wc.heap.size, 4, none⟩ = some (.bool true) := blk_cell 4 hw7 rfl; have q5 := blk_free 4 hw7; have q6 := lt_of_block hw7; dsimp only)
            go_upto_region 14 with (fail)
            obtain ⟨V, hV⟩ : ∃ V : World, V = w7.setCell ⟨wc.heap.size, 4, none⟩ (.bool false) := ⟨_, rfl⟩
            rw [← hV]
            have HbV : Below wc.heap.size wc V := by rw [hV]; exact hB7.setCell (Nat.le_refl _) _
            have hVw : V.heap[wc.heap.size]? = some (.cells #[.int .i64 says, .int .i64 sum, .int .i64 of, .int .i64 (-1), .bool false] 70 (0, 0)) := by rw [hV]; exact blk_set 4 _ hw7
            clear hV q4 q5 q6 hw7 hb
            have hQV := box_on hQ HbV
            have hx4 := box_four hQV
            have hz := box_size hQV
            have zV := lt_of_block hVw
            go_upto_region 15 with (fail)
            obtain ⟨X, hX⟩ : ∃ X : World, X = V.alloc (.cells #[.slice ac m.claimants.length cc, .slice az m.sums.length cz, .slice (some ⟨bw, ow, none⟩) m.words.length cw, .slice ap m.paid.length cp] 27) := ⟨_, rfl⟩
            rw [← hX]
            have HbX : Below wc.heap.size wc X := by rw [hX]; exact HbV.alloc HbV.size _
            have hXw : X.heap[wc.heap.size]? = some (.cells #[.int .i64 says, .int .i64 sum, .int .i64 of, .int .i64 (-1), .bool false] 70 (0, 0)) := by rw [hX]; exact (heap_alloc_old _ _ zV).trans hVw
            have hXl : X.heap[V.heap.size]? = some (.cells #[.slice ac m.claimants.length cc, .slice az m.sums.length cz, .slice (some ⟨bw, ow, none⟩) m.words.length cw, .slice ap m.paid.length cp] 27 (0, 0)) := by rw [hX]; exact alloc_at _ _ rfl
            clear hX
            have hQX := box_on hQ HbX
            have hlb : wc.heap.size ≤ V.heap.size := by omega
            have hbl : wc.heap.size ≠ V.heap.size := by omega
            replace hx4 := box_four hQX
            replace hz := box_size hQX
            go_upto_region 16 with ((at_builtin; go_must (refine wpList_app (.tmp 77) (.tmp 79) E_word rfl rfl rfl rfl X.heap.size 0 m.words.length [] (wordsFlat m.words) (made_words X) ?g1 (by omega) (by decide) (by simp) ?_); (case g1 => exact SrcAt.words hm.okw.2.2 ((hm.words.mono (box_old hQX)).mono (al_on _ _))); (intro v1 w14 ho1 hg1 _); (simp only [Nat.zero_add, List.nil_append] at ho1); (have hb13 := app_fresh (n := 0) (c := 0) hg1); clear hg1; (obtain ⟨-, a9, c9, rfl, hs9, -⟩ := words_own ho1); (have hl14 := blk_below hb13 (lt_of_block hXl) hXl); (have hw14 := blk_below hb13 (lt_of_block hXw) hXw); (have el14 : w14.cell? ⟨V.heap.size, 2, none⟩ = some (.slice (some ⟨bw, ow, none⟩) m.words.length cw) := blk_cell 2 hl14 rfl); (have fl14 := blk_free 2 hl14); (have zl14 := lt_of_block hl14); simp only [Act.put, List.setIfInBounds_toArray, List.set_cons_succ, List.set_cons_zero]))
            obtain ⟨Y, hY⟩ : ∃ Y : World, Y = w14.setCell ⟨V.heap.size, 2, none⟩ (.slice a9 m.words.length c9) := ⟨_, rfl⟩; rw [← hY]; have HbY : Below wc.heap.size wc Y := (by rw [hY]; exact (HbX.trans (hb13.mono HbX.size)).setCell hlb _); have hYl : Y.heap[V.heap.size]? = some (.cells #[.slice ac m.claimants.length cc, .slice az m.sums.length cz, .slice a9 m.words.length c9, .slice ap m.paid.length cp] 27 (0, 0)) := (by rw [hY]; exact blk_set 2 _ hl14); have hYw : Y.heap[wc.heap.size]? = some (.cells #[.int .i64 says, .int .i64 sum, .int .i64 of, .int .i64 (-1), .bool false] 70 (0, 0)) := (by rw [hY]; exact (Below.heap_setCell _ _ _ _ hbl).trans hw14); have hoY : Y.ownsRow X.heap.size 70 5 (.slice a9 m.words.length c9) m.words.length (wordsFlat m.words) := (by rw [hY]; exact ownsRow_setCell_other ho1 (fun e => by have h1 := (ho1.lt _ e).1; have h2 := lt_of_block hXl; simp only at h1; omega) _); clear hY hl14 hw14 el14 fl14 zl14 ho1 hb13; rcases hoY.2 with ⟨_, hn0⟩ | ⟨g, cap, cur, hv, hbg, hgg, _⟩; (exact absurd hn0 hw0); obtain ⟨rfl, rfl⟩ : a9 = some ⟨g, 0, none⟩ ∧ c9 = cap := (by cases hv; exact ⟨rfl, rfl⟩); have hgl := lt_of_block hgg; have n0 : V.heap.size ≠ g := (by have h2 := lt_of_block hXl; omega); have n1 : wc.heap.size ≠ g := (by have h2 := lt_of_block hXl; omega); clear hv hgg; have hg := wordsFlat_get m.words _ hk; rw [hyh.out] at hg; have p0 : Y.cell? ⟨g, (x % m.words.length) * 5, none⟩ = some (.int .i64 says) := (hoY.cellAt _ (by omega)).trans (hg 0 (by omega)); have p1 : Y.cell? ⟨g, (x % m.words.length) * 5 + 1, none⟩ = some (.int .i64 sum) := (hoY.cellAt _ (by omega)).trans (hg 1 (by omega)); have p2 : Y.cell? ⟨g, (x % m.words.length) * 5 + 2, none⟩ = some (.int .i64 of) := (hoY.cellAt _ (by omega)).trans (hg 2 (by omega)); have p3 : Y.cell? ⟨g, (x % m.words.length) * 5 + 3, none⟩ = some (.int .i64 (-1)) := (hoY.cellAt _ (by omega)).trans (hg 3 (by omega)); have p4 : Y.cell? ⟨g, (x % m.words.length) * 5 + 4, none⟩ = some (.bool _) := (hoY.cellAt _ (by omega)).trans (hg 4 (by omega)); clear hg; have f0 := hoY.frozenAt ((x % m.words.length) * 5); have f1 := hoY.frozenAt ((x % m.words.length) * 5 + 1); have f2 := hoY.frozenAt ((x % m.words.length) * 5 + 2); have f3 := hoY.frozenAt ((x % m.words.length) * 5 + 3); have f4 := hoY.frozenAt ((x % m.words.length) * 5 + 4); have s0 : Y.cell? ⟨wc.heap.size, 0, none⟩ = some (.int .i64 says) := blk_cell 0 hYw rfl; have s1 : Y.cell? ⟨wc.heap.size, 1, none⟩ = some (.int .i64 sum) := blk_cell 1 hYw rfl; have s2 : Y.cell? ⟨wc.heap.size, 2, none⟩ = some (.int .i64 of) := blk_cell 2 hYw rfl; have s3 : Y.cell? ⟨wc.heap.size, 3, none⟩ = some (.int .i64 (-1)) := blk_cell 3 hYw rfl; have s4 : Y.cell? ⟨wc.heap.size, 4, none⟩ = some (.bool false) := blk_cell 4 hYw rfl; have e2 : Y.cell? ⟨V.heap.size, 2, none⟩ = some (.slice (some ⟨g, 0, none⟩) m.words.length c9) := blk_cell 2 hYl rfl; have zl := lt_of_block hYl; have zw := lt_of_block hYw
            go_upto_region 17 with (fail)
            obtain ⟨Z, hZ⟩ : ∃ Z : World, Z = ((((Y.setCell ⟨g, (x % m.words.length) * 5, none⟩ (.int .i64 says)).setCell ⟨g, (x % m.words.length) * 5 + 1, none⟩ (.int .i64 sum)).setCell ⟨g, (x % m.words.length) * 5 + 2, none⟩ (.int .i64 of)).setCell ⟨g, (x % m.words.length) * 5 + 3, none⟩ (.int .i64 (-1))).setCell ⟨g, (x % m.words.length) * 5 + 4, none⟩ (.bool false) := ⟨_, rfl⟩; rw [← hZ]; have hgw : wc.heap.size ≤ g := (by have h2 := HbX.size; omega); have HbZ : Below wc.heap.size wc Z := (by rw [hZ]; exact ((((HbY.setCell hgw _).setCell hgw _).setCell hgw _).setCell hgw _).setCell hgw _); have hZl : Z.heap[V.heap.size]? = some (.cells #[.slice ac m.claimants.length cc, .slice az m.sums.length cz, .slice (some ⟨g, 0, none⟩) m.words.length c9, .slice ap m.paid.length cp] 27 (0, 0)) := (by rw [hZ]; exact (set5_heap' n0).trans hYl); have hoZ : Z.ownsRow X.heap.size 70 5 (.slice (some ⟨g, 0, none⟩) m.words.length c9) m.words.length (wordsFlat (turnCame m.words (x % m.words.length) false)) := (by rw [hZ]; exact own_turn hk hyh.out hoY); have hKZ := withCame_list (x % m.words.length) false (hm.mono (box_old hQ)) HbZ hs9 hoZ; clear hZ s0 s1 s2 s3 s4 e2 f0 f1 f2 f3 f4 p0 p1 p2 p3 p4 hYl hYw hoY hoZ HbY zl zw; have t0 : Z.cell? ⟨V.heap.size, 0, none⟩ = some (.slice ac m.claimants.length cc) := blk_cell 0 hZl rfl; have t1 : Z.cell? ⟨V.heap.size, 1, none⟩ = some (.slice az m.sums.length cz) := blk_cell 1 hZl rfl; have t2 : Z.cell? ⟨V.heap.size, 2, none⟩ = some (.slice (some ⟨g, 0, none⟩) m.words.length c9) := blk_cell 2 hZl rfl; have t3 : Z.cell? ⟨V.heap.size, 3, none⟩ = some (.slice ap m.paid.length cp) := blk_cell 3 hZl rfl; have zl := lt_of_block hZl
            replace i1 := i1.mono HbZ
            go_wp2_with (first
              | (go_at_call 23; (with_reducible refine (Awake_any _).mono ?_); rintro e w22 ⟨rfl, hb⟩; replace HbZ := HbZ.trans (hb.mono HbZ.size); dsimp only)
              | (go_at_call 20; (with_reducible refine (Ints_same o1 i1 i3).mono ?_); rintro e w21 ⟨rfl, hb⟩; replace HbZ := HbZ.trans (hb.mono HbZ.size); dsimp only)
              | (go_at_call 18; (with_reducible refine (NC.out _ _ _ hKZ).mono ?_); rintro e w20 ⟨a3, c3, rfl, o3, i3, hb⟩; replace i1 := i1.mono hb; replace HbZ := HbZ.trans (hb.mono HbZ.size); dsimp only))
            go_ret
            exact ⟨rfl, box_old (box_on hQ HbZ)⟩
          · rw [hct] at CT
            clear BLk
            subst hcm
            go_wp2_with (first
              | (go_at_call 23; (with_reducible refine (Awake_any _).mono ?_); rintro e w7 ⟨rfl, hb⟩; replace hQA := box_on hQA hb; dsimp only)
              | (go_at_call 55; (with_reducible refine (CT.out _ (hm.mono (box_old hQA))).mono ?_); rintro e w6 ⟨rfl, hb⟩; replace hQA := box_on hQA hb; dsimp only))
            go_ret
            exact ⟨rfl, box_old hQA⟩
      · have hb2 := nei_t hb1
        clear hb1 BLk
        go_wp2_with (go_at_call 23; (with_reducible refine (Awake_any _).mono ?_); rintro e w6 ⟨rfl, hb⟩; replace hQ := box_on (box_on hQ hA) hb; dsimp only)
        go_ret
        exact ⟨rfl, box_old hQ⟩
  · have HV := Lib.hid (fun (W : World) (h : ListC W ac az aw ap cc cz cw cp m) => Valid_no _ _ _ _ _ _ _ _ m h0 W h)
    go_enter Try.func13, Try.ntmps13
    go_wp2_with (first
      | (go_at_call 23; (with_reducible refine (Awake_any _).mono ?_); rintro e w3 ⟨rfl, hb⟩; replace hQ := box_on hQ hb; replace hx4 := box_four hQ; replace hz := box_size hQ; dsimp only)
      | (go_at_call 50; (with_reducible refine (HV.out _ (hm.mono (box_old hQ))).mono ?_); rintro e w2 ⟨rfl, hb⟩; replace hQ := box_on hQ hb; replace hx4 := box_four hQ; replace hz := box_size hQ; dsimp only))
    go_ret
    exact ⟨rfl, box_old hQ⟩
end Go.Proofs.Ytnlolliankhfmaa
