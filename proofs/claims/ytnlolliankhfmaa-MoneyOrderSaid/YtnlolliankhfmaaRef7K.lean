/- What is proved here: the contract of the reference of layer 7: Owed. No condition. -/
import Derived.Test.YtnlolliankhfmaaRef7J
import Derived.Test.YtnlolliankhfmaaGround
set_option linter.unusedVariables false
set_option linter.unusedSimpArgs false
namespace Go.Proofs.Ytnlolliankhfmaa
open Go Go.RowKit

theorem span_step {m : MoList} {all : List (List Int)} {s : Int} {K : Nat} (h : 1 ≤ K) (hlt : K < all.length) :
    spanTo m all s (K + 1 - 1) = (min (spanTo m all s (K - 1)).1 (dueOf m all[K] s), max (spanTo m all s (K - 1)).2 (dueOf m all[K] s)) := by
  obtain ⟨k, rfl⟩ : ∃ k, K = k + 1 := ⟨K - 1, by omega⟩
  simp only [Nat.add_sub_cancel]
  rw [spanTo, List.getElem?_eq_getElem hlt]
  rfl

set_option maxRecDepth 100000 in
set_option maxHeartbeats 4000000 in
theorem Owed7_any (ac az aw ap : Option Addr) (cc cz cw cp : Nat) (m : MoList) (s : Int) (w : World) (hm : ListC w ac az aw ap cc cz cw cp m) :
    Calls Try.prog 33 #[(.agg #[.slice ac m.claimants.length cc, .slice az m.sums.length cz, .slice aw m.words.length cw, .slice ap m.paid.length cp]), .int .i64 s] w fun e w' => e = .returned (.tuple #[.agg #[.int .i64 (owedOf m s).1.1, .int .i64 (owedOf m s).1.2], .int .i64 (owedOf m s).2]) ∧ Below w.heap.size w w' := by
  have HF : Hid (owedOf m s = if owedErr m s = 0 then (spanTo m (truths m) s ((truths m).length - 1), 0) else ((0, 0), owedErr m s)) := rfl
  have HE : Hid (owedErr m s = someErr m (askedErr m s m.claimants.length)) := rfl
  have HV : Hid (owedErr m s = 0 → Valid m ∧ 0 < (truths m).length ∧ 0 ≤ s ∧ s < m.claimants.length) := owed_valid
  have HC : Hid (askedErr m s m.claimants.length = 0 → Valid m) := fun h => valid_of (askedErr_zero h).1
  have l1 := hm.okc.len
  generalize owedOf m s = r at HF ⊢
  generalize owedErr m s = we at HF HE HV
  obtain ⟨W1, hW1⟩ : ∃ W1 : World, W1 = ((w.alloc (.cells #[.slice ac m.claimants.length cc, .slice az m.sums.length cz, .slice aw m.words.length cw, .slice ap m.paid.length cp] 27))).alloc (.cells #[.int .i64 0, .int .i64 0] 44) := ⟨_, rfl⟩
  have hz1 : W1.heap.size = w.heap.size + 2 := by rw [hW1]; simp
  have hA1 : Below (w.heap.size + 1) (w.alloc (.cells #[.slice ac m.claimants.length cc, .slice az m.sums.length cz, .slice aw m.words.length cw, .slice ap m.paid.length cp] 27)) W1 := by rw [hW1]; exact (Below.refl _ _).alloc (by simp) _
  have hS1 : W1.heap[w.heap.size + 1]? = some (.cells #[.int .i64 0, .int .i64 0] 44 (0, 0)) := by
    have := blk_new (w.alloc (.cells #[.slice ac m.claimants.length cc, .slice az m.sums.length cz, .slice aw m.words.length cw, .slice ap m.paid.length cp] 27)) (.cells #[.int .i64 0, .int .i64 0] 44 (0, 0))
    rw [hW1]; simpa using this
  have C := Lib.hid (fun (W : World) (h : Below w.heap.size w W) => Asked7_any ac az aw ap cc cz cw cp m s m.claimants.length W (hm.mono h) (by omega) (by omega))
  generalize askedErr m s m.claimants.length = x at C HE HC
  have S := Lib.hid (fun (W : World) (h : Below w.heap.size w W) => Some7_any ac az aw ap cc cz cw cp m x W (hm.mono h) HC.out)
  have hE := HE.out
  rw [← hE] at S
  clear hE HE
  have hBo : ∀ {W : World}, Below W1.heap.size W1 W → Below (w.heap.size + 1) (w.alloc (.cells #[.slice ac m.claimants.length cc, .slice az m.sums.length cz, .slice aw m.words.length cw, .slice ap m.paid.length cp] 27)) W := fun h => hA1.trans (h.mono (by omega))
  obtain ⟨c0, c1, c2, c3⟩ := box_four hA1
  have c4 : W1.cell? ⟨w.heap.size + 1, 0, none⟩ = some (.int .i64 0) := blk_cell 0 hS1 rfl
  have HW1 := Lib.hid hW1
  clear hW1
  have hbz1 : w.heap.size < W1.heap.size := by omega
  by_cases h0 : we = 0
  · obtain ⟨hva, hpos, hs0, hs1⟩ := HV.out h0
    replace HF := Lib.hid (HF.out.trans (if_pos h0))
    subst h0
    go_enter Try.func33, Try.ntmps33
    go_wp2
    rw [← HW1.out]
    have hBd := below_drew' (Below.refl W1.heap.size W1)
    go_region_held3 (fun W => Below W1.heap.size W1 W ∧ W.cell? ⟨w.heap.size, 0, none⟩ = some (.slice ac m.claimants.length cc) ∧ W.cell? ⟨w.heap.size, 1, none⟩ = some (.slice az m.sums.length cz) ∧ W.cell? ⟨w.heap.size, 2, none⟩ = some (.slice aw m.words.length cw) ∧ W.cell? ⟨w.heap.size, 3, none⟩ = some (.slice ap m.paid.length cp) ∧ W.cell? ⟨w.heap.size + 1, 0, none⟩ = some (.int .i64 0) ∧ w.heap.size < W.heap.size ∧ w.heap.size + 1 < W.heap.size) (exact held_keep (by assumption) c0 c1 c2 c3 c4) (first
      | (go_at_call 78; refine (C.out _ (box_old (hBo (And.left (by assumption))))).mono ?_; rintro e w2 ⟨rfl, hb⟩; have hB2 := held_next (by assumption) hb; dsimp only)
      | (go_at_call 76; refine (S.out _ (box_old (hBo (And.left (by assumption))))).mono ?_; rintro e w3 ⟨v, rfl, hsv, hb3⟩; have hB3 := held_next (by assumption) hb3; obtain ⟨a, c, rfl, hso, hrc⟩ := hsv.1 rfl; dsimp only))
    obtain ⟨b, off, a', c', rfl, hb6, hcell, hsl, hints⟩ := hrc 0 hpos
    simp only [Nat.add_zero] at hcell
    obtain ⟨d0, d1, d2, d3⟩ := box_four (hBo hB3)
    have hbz3 := box_size (hBo hB3)
    have T0 := Lib.hid (fun (W : World) (h : Below w3.heap.size w3 W) => Due7_any ac az aw ap cc cz cw cp m a' (truths m)[0] c' s W (hm.mono ((box_old (hBo hB3)).trans (h.mono (box_old (hBo hB3)).size))) hva hsl (hints.mono h) (truths_len m _ (List.getElem_mem hpos)))
    have hG0 := dueTo_bd m hva (truths m)[0] s (truths m)[0].length
    have hl0 := truths_len m _ (List.getElem_mem hpos)
    have hz5 := hva.nz
    have hsp0 : Hid (spanTo m (truths m) s 0 = (dueOf m (truths m)[0] s, dueOf m (truths m)[0] s)) := by show _ = _; rw [spanTo, headD_get (d := []) _ hpos]
    replace hG0 : 0 ≤ dueOf m (truths m)[0] s ∧ dueOf m (truths m)[0] s ≤ 495 := by unfold dueOf; omega
    generalize dueOf m (truths m)[0] s = D0 at T0 hsp0 hG0
    generalize (truths m)[0].length = tl0 at hcell hsl T0 hl0
    have hcw := hcell
    clear hcell hints hl0
    have hBd3 := below_drew' (Below.refl w3.heap.size w3)
    go_wp2
    go_region_held3 (fun W => Below w3.heap.size w3 W ∧ W.cell? ⟨w.heap.size, 0, none⟩ = some (.slice ac m.claimants.length cc) ∧ W.cell? ⟨w.heap.size, 1, none⟩ = some (.slice az m.sums.length cz) ∧ W.cell? ⟨w.heap.size, 2, none⟩ = some (.slice aw m.words.length cw) ∧ W.cell? ⟨w.heap.size, 3, none⟩ = some (.slice ap m.paid.length cp) ∧ W.cell? ⟨b, off, none⟩ = some (.slice a' tl0 c') ∧ w.heap.size < W.heap.size ∧ b < W.heap.size) (exact held_keep (by assumption) d0 d1 d2 d3 hcw) (first
      | (go_at_call 40; refine (T0.out _ (And.left (by assumption))).mono ?_; rintro e w4 ⟨rfl, hb4⟩; have hB4 := held_next (by assumption) hb4; dsimp only))
    clear d0 d1 d2 d3
    go_wp2
    have hnl := hso.len
    have hz4 := hbz3
    go_loopw [10] (fun i wr => ∃ (K : Nat) (lo hi : Int), 1 ≤ K ∧ K ≤ (truths m).length ∧ i = .int .i64 K ∧ Hid (spanTo m (truths m) s (K - 1) = (lo, hi)) ∧ (0 ≤ lo ∧ lo ≤ 495) ∧ (0 ≤ hi ∧ hi ≤ 495) ∧ wr.heap[w4.heap.size]? = some (.cells #[.int .i64 lo, .int .i64 hi] 44 (0, 0)) ∧ Below w4.heap.size w4 wr) (fun i _ => (truths m).length - (intOf i).toNat)
    case atStart => exact ⟨1, D0, D0, Nat.le_refl _, hpos, rfl, hsp0, hG0, hG0, blk_new _ _, (Below.refl _ _).alloc (Nat.le_refl _) _⟩
    case round =>
      obtain ⟨K, lo, hi, hK1, hK, rfl, hsp, hlo, hhi, hblk, hbw⟩ := hrel
      have hbw3 := hB4.trans (hbw.mono hB4.size)
      have hB5 := hB3.trans (hbw3.mono hB3.size)
      obtain ⟨c0', c1', c2', c3'⟩ := box_four (hBo hB5)
      have hbz5 := box_size (hBo hB5)
      by_cases hlt : K < (truths m).length
      · obtain ⟨b5, off5, a5, c5, e5, hb05, hcell5, hsl5, hints5⟩ := hrc K hlt
        cases e5
        have hst := Lib.hid (span_step (m := m) (s := s) hK1 hlt)
        rw [hsp.out] at hst
        have T5 := Lib.hid (fun (W : World) (h : Below wr.heap.size wr W) => Due7_any ac az aw ap cc cz cw cp m a5 (truths m)[K] c5 s W (hm.mono ((box_old (hBo hB5)).trans (h.mono (box_old (hBo hB5)).size))) hva hsl5 (hints5.mono (hbw3.trans (h.mono hbw3.size))) (truths_len m _ (List.getElem_mem hlt)))
        have hG5 := dueTo_bd m hva (truths m)[K] s (truths m)[K].length
        have hl5 := truths_len m _ (List.getElem_mem hlt)
        replace hG5 : 0 ≤ dueOf m (truths m)[K] s ∧ dueOf m (truths m)[K] s ≤ 495 := by unfold dueOf; omega
        generalize dueOf m (truths m)[K] s = D at T5 hst hG5
        have hcw5 := cell_below hbw3 hcell5
        generalize (truths m)[K].length = tl5 at hcell5 hcw5 hsl5 T5 hl5
        clear hcell5 hints5 hl5 hsp
        have hBd5 := below_drew' (Below.refl wr.heap.size wr)
        have hgw := lt_of_block hblk
        go_wp2
        go_region_held3 (fun W => Below wr.heap.size wr W ∧ W.cell? ⟨w.heap.size, 0, none⟩ = some (.slice ac m.claimants.length cc) ∧ W.cell? ⟨w.heap.size, 1, none⟩ = some (.slice az m.sums.length cz) ∧ W.cell? ⟨w.heap.size, 2, none⟩ = some (.slice aw m.words.length cw) ∧ W.cell? ⟨w.heap.size, 3, none⟩ = some (.slice ap m.paid.length cp) ∧ W.cell? ⟨b, off + K, none⟩ = some (.slice a5 tl5 c5) ∧ w.heap.size < W.heap.size ∧ b < W.heap.size) (exact held_keep (by assumption) c0' c1' c2' c3' hcw5) (first
          | (go_at_call 40; refine (T5.out _ (And.left (by assumption))).mono ?_; rintro e w6 ⟨rfl, hb6⟩; have hB6 := held_next (by assumption) hb6; dsimp only))
        have hblk6 := blk_below hB6 hgw hblk
        have q0 : w6.cell? ⟨w4.heap.size, 0, none⟩ = some (.int .i64 lo) := blk_cell 0 hblk6 rfl
        have q1 : w6.cell? ⟨w4.heap.size, 1, none⟩ = some (.int .i64 hi) := blk_cell 1 hblk6 rfl
        have f0 := blk_free 0 hblk6
        have f1 := blk_free 1 hblk6
        have hg6 := lt_of_block hblk6
        clear c0' c1' c2' c3'
        go_wp2
        go_roundw
        case rel =>
          refine ⟨K + 1, if D < lo then D else lo, if hi < D then D else hi, by omega, by omega, by go_num, Lib.hid (hst.out.trans ?_), by split <;> omega, by split <;> omega, ?_, ((hbw.trans (hB6.mono hbw.size)).setCell (Nat.le_refl _) _).setCell (Nat.le_refl _) _⟩
          · congr 1 <;> (split <;> omega)
          · exact blk_set 1 _ (blk_set 0 _ hblk6)
        case measure => simp [intOf]; omega
      · obtain rfl : K = (truths m).length := by omega
        have q0 : wr.cell? ⟨w4.heap.size, 0, none⟩ = some (.int .i64 lo) := blk_cell 0 hblk rfl
        have q1 : wr.cell? ⟨w4.heap.size, 1, none⟩ = some (.int .i64 hi) := blk_cell 1 hblk rfl
        have hgw := lt_of_block hblk
        have hT := blk_below hB5 (show w.heap.size + 1 < W1.heap.size by omega) hS1
        have t0 : wr.cell? ⟨w.heap.size + 1, 0, none⟩ = some (.int .i64 0) := blk_cell 0 hT rfl
        have t1 : wr.cell? ⟨w.heap.size + 1, 1, none⟩ = some (.int .i64 0) := blk_cell 1 hT rfl
        have f0 := blk_free 0 hT
        have f1 := blk_free 1 hT
        have hbz6 := lt_of_cell t0
        go_wp2
        (try simp only [Exit.inBlock, Exit.then])
        refine bodyPost_ret (v := .tuple #[.agg #[.int .i64 lo, .int .i64 hi], .int .i64 0]) ?_ rfl ⟨?_, ?_⟩
        · rw [results_cell_tmp rfl]
          go_simp
        · rw [HF.out, hsp.out]
        · exact ((box_old (hBo hB5)).setCell (by simp) _).setCell (by simp) _
  · have h1 := nei_t h0
    replace HF := Lib.hid (HF.out.trans (if_neg h0))
    go_enter Try.func33, Try.ntmps33
    go_wp2
    rw [← HW1.out]
    have hBd := below_drew' (Below.refl W1.heap.size W1)
    go_region_held3 (fun W => Below W1.heap.size W1 W ∧ W.cell? ⟨w.heap.size, 0, none⟩ = some (.slice ac m.claimants.length cc) ∧ W.cell? ⟨w.heap.size, 1, none⟩ = some (.slice az m.sums.length cz) ∧ W.cell? ⟨w.heap.size, 2, none⟩ = some (.slice aw m.words.length cw) ∧ W.cell? ⟨w.heap.size, 3, none⟩ = some (.slice ap m.paid.length cp) ∧ W.cell? ⟨w.heap.size + 1, 0, none⟩ = some (.int .i64 0) ∧ w.heap.size < W.heap.size ∧ w.heap.size + 1 < W.heap.size) (exact held_keep (by assumption) c0 c1 c2 c3 c4) (first
      | (go_at_call 78; refine (C.out _ (box_old (hBo (And.left (by assumption))))).mono ?_; rintro e w2 ⟨rfl, hb⟩; have hB2 := held_next (by assumption) hb; dsimp only)
      | (go_at_call 76; refine (S.out _ (box_old (hBo (And.left (by assumption))))).mono ?_; rintro e w3 ⟨v, rfl, hsv, hb3⟩; have hB3 := held_next (by assumption) hb3; dsimp only))
    have hT := blk_below hB3 (show w.heap.size + 1 < W1.heap.size by omega) hS1
    have t0 : w3.cell? ⟨w.heap.size + 1, 0, none⟩ = some (.int .i64 0) := blk_cell 0 hT rfl
    have t1 : w3.cell? ⟨w.heap.size + 1, 1, none⟩ = some (.int .i64 0) := blk_cell 1 hT rfl
    have f0 := blk_free 0 hT
    have f1 := blk_free 1 hT
    have hbz3 := lt_of_cell t0
    go_wp2
    (try simp only [Exit.inBlock, Exit.then])
    refine bodyPost_ret (v := .tuple #[.agg #[.int .i64 0, .int .i64 0], .int .i64 we]) ?_ rfl ⟨?_, ?_⟩
    · rw [results_cell_tmp rfl]
      go_simp
    · rw [HF.out]
    · exact ((box_old (hBo hB3)).setCell (by simp) _).setCell (by simp) _
end Go.Proofs.Ytnlolliankhfmaa
