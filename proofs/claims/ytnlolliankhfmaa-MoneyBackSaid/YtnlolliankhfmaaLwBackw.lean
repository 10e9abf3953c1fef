/- What is proved here: the contract of the laws' backwards. Conditions: the list lies in memory and is valid. -/
import Derived.Test.YtnlolliankhfmaaLwL
set_option linter.unusedVariables false
set_option linter.unusedSimpArgs false
namespace Go.Proofs.Ytnlolliankhfmaa
open Go Go.RowKit
theorem backW_succ (m : MoList) (j : Nat) (h : j < m.words.length) : (backW m).words.take (m.words.length - j) = (backW m).words.take (m.words.length - (j + 1)) ++ [flipBack m.words.length m.words[j]] := by
  have hl := backW_len m
  have h1 : m.words.length - (j + 1) < (backW m).words.length := by omega
  have e : m.words.length - j = m.words.length - (j + 1) + 1 := by omega
  rw [e, List.take_succ_eq_append_getElem h1, backW_at m (m.words.length - (j + 1)) (by omega)]
  have e2 : m.words.length - 1 - (m.words.length - (j + 1)) = j := by omega
  simp only [e2]
set_option maxRecDepth 100000 in
set_option maxHeartbeats 4000000 in
theorem Backwards_any (ac az aw ap : Option Addr) (cc cz cw cp : Nat) (m : MoList) (w : World) (hm : ListC w ac az aw ap cc cz cw cp m) (hv : Valid m) : Calls Try.prog 54 #[(.agg #[.slice ac m.claimants.length cc, .slice az m.sums.length cz, .slice aw m.words.length cw, .slice ap m.paid.length cp])] w fun e w' => ∃ aw' cw', e = .returned (listV ac az aw' ap cc cz cw' cp (backW m)) ∧ ListC w' ac az aw' ap cc cz cw' cp (backW m) ∧ Below w.heap.size w w' := by
  have l3 := hm.okw.len
  have n6 := hv.nw
  obtain ⟨W1, hW1⟩ : ∃ W1 : World, W1 = ((w.alloc (.cells #[.slice ac m.claimants.length cc, .slice az m.sums.length cz, .slice aw m.words.length cw, .slice ap m.paid.length cp] 27))).alloc (.cells #[.slice none 0 0, .slice none 0 0, .slice none 0 0, .slice none 0 0] 27) := ⟨_, rfl⟩
  have hz1 : W1.heap.size = w.heap.size + 2 := by rw [hW1]; simp
  have hA1 : Below (w.heap.size + 1) (w.alloc (.cells #[.slice ac m.claimants.length cc, .slice az m.sums.length cz, .slice aw m.words.length cw, .slice ap m.paid.length cp] 27)) W1 := by rw [hW1]; exact (Below.refl _ _).alloc (by simp) _
  have hS1 : W1.heap[w.heap.size + 1]? = some (.cells #[.slice none 0 0, .slice none 0 0, .slice none 0 0, .slice none 0 0] 27 (0, 0)) := by
    have := blk_new (w.alloc (.cells #[.slice ac m.claimants.length cc, .slice az m.sums.length cz, .slice aw m.words.length cw, .slice ap m.paid.length cp] 27)) (.cells #[.slice none 0 0, .slice none 0 0, .slice none 0 0, .slice none 0 0] 27 (0, 0))
    rw [hW1]; simpa using this
  have hS0 : W1.heap[w.heap.size]? = some (.cells #[.slice ac m.claimants.length cc, .slice az m.sums.length cz, .slice aw m.words.length cw, .slice ap m.paid.length cp] 27 (0, 0)) := blk_below hA1 (by omega) (blk_new w (.cells #[.slice ac m.claimants.length cc, .slice az m.sums.length cz, .slice aw m.words.length cw, .slice ap m.paid.length cp] 27 (0, 0)))
  obtain ⟨c0, c1, c2, c3⟩ := box_four hA1
  have hbz1 : w.heap.size < W1.heap.size := by omega
  have HW1 := Lib.hid hW1
  clear hW1
  go_enter Try.func54, Try.ntmps54
  go_upto_region 3 with (fail)
  rw [← HW1.out]
  go_wp2
  go_loopw [4, 5] (fun o i wr => ∃ j : Nat, j ≤ m.words.length ∧ i = .int .i64 ((j : Int) - 1) ∧ wr.ownsRow (w.heap.size + 2) 70 5 o (m.words.length - j) (wordsFlat ((backW m).words.take (m.words.length - j))) ∧ Below (w.heap.size + 2) W1 wr) (fun _ i _ => (intOf i + 1).toNat)
  case atStart => exact ⟨m.words.length, Nat.le_refl _, rfl, by rw [Nat.sub_self]; exact World.ownsRow_nil _ _ _ _, Below.refl _ _⟩
  case round =>
    obtain ⟨j, hj, rfl, ho, hB⟩ := hrel
    have hBz := hB.size
    have hBz' : w.heap.size + 2 ≤ wr.heap.size := by omega
    have hS0' := blk_below hB (by omega) hS0
    have hS1' := blk_below hB (by omega) hS1
    have b2 : wr.cell? ⟨w.heap.size, 2, none⟩ = some (.slice aw m.words.length cw) := blk_cell 2 hS0' rfl
    have hbz := lt_of_block hS0'
    have hBw : Below w.heap.size w wr := (box_old hA1).trans (hB.mono (by omega))
    rcases j with _ | j
    · rw [show (((0 : Nat) : Int) - 1) = -1 from rfl]
      have hl := backW_len m
      rw [Nat.sub_zero, ← hl, List.take_length] at ho
      obtain ⟨hl2, a9, c9, rfl, hs9, -⟩ := words_own ho
      clear hl hl2
      have fz := blk_free 2 hS0'
      go_upto_region 11 with (fail)
      obtain ⟨Y, hY⟩ : ∃ Y : World, Y = wr.setCell ⟨w.heap.size, 2, none⟩ (.slice a9 (backW m).words.length c9) := ⟨_, rfl⟩
      rw [← hY]
      have y0 : Y.heap[w.heap.size]? = some (.cells #[.slice ac m.claimants.length cc, .slice az m.sums.length cz, .slice a9 (backW m).words.length c9, .slice ap m.paid.length cp] 27 (0, 0)) := by rw [hY]; exact blk_set 2 _ hS0'
      have y1 : Y.heap[w.heap.size + 1]? = some (.cells #[.slice none 0 0, .slice none 0 0, .slice none 0 0, .slice none 0 0] 27 (0, 0)) := by rw [hY]; exact (Below.heap_setCell _ _ _ _ (by simp)).trans hS1'
      have hoY : Y.ownsRow (w.heap.size + 2) 70 5 (.slice a9 (backW m).words.length c9) (backW m).words.length (wordsFlat (backW m).words) := by rw [hY]; exact ownsRow_setCell_other ho (fun e => by have h1 := (ho.lt _ e).1; simp only at h1; omega) _
      have B3 : Below w.heap.size w Y := by rw [hY]; exact hBw.setCell (Nat.le_refl _) _
      clear hY
      have e0 : Y.cell? ⟨w.heap.size, 0, none⟩ = some (.slice ac m.claimants.length cc) := blk_cell 0 y0 rfl
      have e1 : Y.cell? ⟨w.heap.size, 1, none⟩ = some (.slice az m.sums.length cz) := blk_cell 1 y0 rfl
      have e2 : Y.cell? ⟨w.heap.size, 2, none⟩ = some (.slice a9 (backW m).words.length c9) := blk_cell 2 y0 rfl
      have e3 : Y.cell? ⟨w.heap.size, 3, none⟩ = some (.slice ap m.paid.length cp) := blk_cell 3 y0 rfl
      have d0 : Y.cell? ⟨w.heap.size + 1, 0, none⟩ = some (.slice none 0 0) := blk_cell 0 y1 rfl
      have d1 : Y.cell? ⟨w.heap.size + 1, 1, none⟩ = some (.slice none 0 0) := blk_cell 1 y1 rfl
      have d2 : Y.cell? ⟨w.heap.size + 1, 2, none⟩ = some (.slice none 0 0) := blk_cell 2 y1 rfl
      have d3 : Y.cell? ⟨w.heap.size + 1, 3, none⟩ = some (.slice none 0 0) := blk_cell 3 y1 rfl
      have f0 := blk_free 0 y1
      have f1 := blk_free 1 y1
      have f2 := blk_free 2 y1
      have f3 := blk_free 3 y1
      have hbz3 := lt_of_block y0
      have hbz4 := lt_of_block y1
      have HWO := Lib.hid (words_own hoY)
      go_wp2
      (try simp only [Exit.inBlock, Exit.then])
      refine bodyPost_ret (v := .agg #[.slice ac m.claimants.length cc, .slice az m.sums.length cz, .slice a9 (backW m).words.length c9, .slice ap m.paid.length cp]) ?_ rfl ⟨a9, c9, rfl, ?_, ?_⟩
      · rw [results_cell_one rfl]
        go_simp
      · obtain ⟨_, a8, c8, e8, hs8, hw8⟩ := HWO.out
        cases e8
        have hBY : Below w.heap.size w ((((Y.setCell ⟨w.heap.size + 1, 0, none⟩ (.slice ac m.claimants.length cc)).setCell ⟨w.heap.size + 1, 1, none⟩ (.slice az m.sums.length cz)).setCell ⟨w.heap.size + 1, 2, none⟩ (.slice a9 (backW m).words.length c9)).setCell ⟨w.heap.size + 1, 3, none⟩ (.slice ap m.paid.length cp)) := (((B3.setCell (by simp) _).setCell (by simp) _).setCell (by simp) _).setCell (by simp) _
        have hmW := hm.mono hBY
        have hw9 := hw8.far (W := ((((Y.setCell ⟨w.heap.size + 1, 0, none⟩ (.slice ac m.claimants.length cc)).setCell ⟨w.heap.size + 1, 1, none⟩ (.slice az m.sums.length cz)).setCell ⟨w.heap.size + 1, 2, none⟩ (.slice a9 (backW m).words.length c9)).setCell ⟨w.heap.size + 1, 3, none⟩ (.slice ap m.paid.length cp))) (fun b off e => set4_far (by rcases hoY.2 with ⟨hv, _⟩ | ⟨g, cap, cur, hv, hbg, _⟩ <;> (subst e; cases hv); omega)) (by simp)
        exact ⟨hmW.okc, hmW.okz, hs8, hmW.okp, hmW.claimants, hmW.sums, hw9, hmW.paid, hmW.csize, hmW.zsize⟩
      · exact (((B3.setCell (by simp) _).setCell (by simp) _).setCell (by simp) _).setCell (by simp) _
    · rw [show (((j + 1 : Nat) : Int) - 1) = (j : Int) from by omega]
      have hst := Lib.hid (backW_succ m j (by omega))
      have hlen : (wordsFlat ((backW m).words.take (m.words.length - (j + 1)))).length ≤ 100 := by rw [wordsFlat_len]; have := List.length_take_le (m.words.length - (j + 1)) (backW m).words; omega
      obtain ⟨bw, ow, haw, hbw, g0, g1, g2, g3, g4⟩ := (hm.mono hBw).words j (by omega)
      have hvw := hv.words j (by omega)
      have hfb : Hid (flipBack m.words.length m.words[j] = if m.words[j].back = -1 then m.words[j] else { m.words[j] with back := (m.words.length : Int) - 1 - m.words[j].back }) := rfl
      have hbb := hvw.back
      generalize flipBack m.words.length m.words[j] = fw at hst hfb
      generalize m.words[j] = y at g0 g1 g2 g3 g4 hfb hbb hvw
      clear hvw
      obtain ⟨says, sum, of, back, came⟩ := y
      simp only at g0 g1 g2 g3 g4 hbb
      subst haw
      by_cases hb1 : back = -1
      · subst hb1
        replace hfb : Hid (fw = ⟨says, sum, of, -1, came⟩) := Lib.hid (hfb.out.trans (if_pos rfl))
        go_upto_region 9 with (fail)
        obtain ⟨X, hX⟩ : ∃ X : World, X = wr.alloc (.cells #[.int .i64 says, .int .i64 sum, .int .i64 of, .int .i64 (-1), .bool came] 70) := ⟨_, rfl⟩
        rw [← hX]
        have HbX : Below wr.heap.size wr X := by rw [hX]; exact (Below.refl _ _).alloc (Nat.le_refl _) _
        have hXw : X.heap[wr.heap.size]? = some (.cells #[.int .i64 says, .int .i64 sum, .int .i64 of, .int .i64 (-1), .bool came] 70 (0, 0)) := by rw [hX]; exact alloc_at _ _ rfl
        clear hX
        have hoX := own_below ho HbX
        have s0 : X.cell? ⟨wr.heap.size, 0, none⟩ = some (.int .i64 says) := blk_cell 0 hXw rfl
        have s1 : X.cell? ⟨wr.heap.size, 1, none⟩ = some (.int .i64 sum) := blk_cell 1 hXw rfl
        have s2 : X.cell? ⟨wr.heap.size, 2, none⟩ = some (.int .i64 of) := blk_cell 2 hXw rfl
        have s3 : X.cell? ⟨wr.heap.size, 3, none⟩ = some (.int .i64 (-1)) := blk_cell 3 hXw rfl
        have s4 : X.cell? ⟨wr.heap.size, 4, none⟩ = some (.bool came) := blk_cell 4 hXw rfl
        have zx := lt_of_block hXw
        have hBX := hB.trans (HbX.mono hBz')
        have hzX := HbX.size
        generalize (backW m).words.take (m.words.length - (j + 1)) = L at hoX hst hlen
        go_wp2_with (at_builtin; go_must (refine wpList_app (.tmp 29) (.tmp 31) E_word rfl rfl rfl rfl (w.heap.size + 2) (m.words.length - (j + 1)) 1 (wordsFlat L) [.int .i64 says, .int .i64 sum, .int .i64 of, .int .i64 (-1), .bool came] (hoX.alloc _) (SrcAt.word X _ _ _ _ _ _) (by omega) (by decide) (by simp; omega) ?_; intro v2 w3 ho2 hg2 _; (have hb2 := app_next hBX (by omega) (Nat.le_refl _) hoX hg2); clear hg2; simp only [Act.put, List.setIfInBounds_toArray, List.set_cons_succ, List.set_cons_zero]))
        go_roundw
        case rel =>
          refine ⟨j, by omega, rfl, ?_, hb2⟩
          rw [words_snoc, ← hfb.out, ← hst.out, show m.words.length - (j + 1) + 1 = m.words.length - j from by omega] at ho2
          exact ho2
        case measure => simp [intOf] <;> omega
      · replace hfb : Hid (fw = ⟨says, sum, of, (m.words.length : Int) - 1 - back, came⟩) := Lib.hid (hfb.out.trans (if_neg hb1))
        have hb3 := nei_t hb1
        go_upto_region 9 with (fail)
        obtain ⟨X, hX⟩ : ∃ X : World, X = wr.alloc (.cells #[.int .i64 says, .int .i64 sum, .int .i64 of, .int .i64 ((m.words.length : Int) - 1 - back), .bool came] 70) := ⟨_, rfl⟩
        rw [← hX]
        have HbX : Below wr.heap.size wr X := by rw [hX]; exact (Below.refl _ _).alloc (Nat.le_refl _) _
        have hXw : X.heap[wr.heap.size]? = some (.cells #[.int .i64 says, .int .i64 sum, .int .i64 of, .int .i64 ((m.words.length : Int) - 1 - back), .bool came] 70 (0, 0)) := by rw [hX]; exact alloc_at _ _ rfl
        clear hX
        have hoX := own_below ho HbX
        have s0 : X.cell? ⟨wr.heap.size, 0, none⟩ = some (.int .i64 says) := blk_cell 0 hXw rfl
        have s1 : X.cell? ⟨wr.heap.size, 1, none⟩ = some (.int .i64 sum) := blk_cell 1 hXw rfl
        have s2 : X.cell? ⟨wr.heap.size, 2, none⟩ = some (.int .i64 of) := blk_cell 2 hXw rfl
        have s3 : X.cell? ⟨wr.heap.size, 3, none⟩ = some (.int .i64 ((m.words.length : Int) - 1 - back)) := blk_cell 3 hXw rfl
        have s4 : X.cell? ⟨wr.heap.size, 4, none⟩ = some (.bool came) := blk_cell 4 hXw rfl
        have zx := lt_of_block hXw
        have hBX := hB.trans (HbX.mono hBz')
        have hzX := HbX.size
        generalize (backW m).words.take (m.words.length - (j + 1)) = L at hoX hst hlen
        go_wp2_with (at_builtin; go_must (refine wpList_app (.tmp 29) (.tmp 31) E_word rfl rfl rfl rfl (w.heap.size + 2) (m.words.length - (j + 1)) 1 (wordsFlat L) [.int .i64 says, .int .i64 sum, .int .i64 of, .int .i64 ((m.words.length : Int) - 1 - back), .bool came] (hoX.alloc _) (SrcAt.word X _ _ _ _ _ _) (by omega) (by decide) (by simp; omega) ?_; intro v2 w3 ho2 hg2 _; (have hb2 := app_next hBX (by omega) (Nat.le_refl _) hoX hg2); clear hg2; simp only [Act.put, List.setIfInBounds_toArray, List.set_cons_succ, List.set_cons_zero]))
        go_roundw
        case rel =>
          refine ⟨j, by omega, rfl, ?_, hb2⟩
          rw [words_snoc, ← hfb.out, ← hst.out, show m.words.length - (j + 1) + 1 = m.words.length - j from by omega] at ho2
          exact ho2
        case measure => simp [intOf] <;> omega
end Go.Proofs.Ytnlolliankhfmaa
