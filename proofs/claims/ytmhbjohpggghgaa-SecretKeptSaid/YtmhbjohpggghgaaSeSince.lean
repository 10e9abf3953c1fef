/- What is proved here: the contract of Since. Conditions: the room lies in memory. -/
import Derived.Test.YtmhbjohpggghgaaSeKnow
set_option linter.unusedVariables false
set_option linter.unusedSimpArgs false
namespace Go.Proofs.Ytmhbjohpggghgaa
open Go Go.RowKit Go.Shelf

theorem results_cell_tmp2 {fn : Func} {p u v : Tmp} {ty : TypeId} (h : fn.results = #[.cell p ty, .tmp u, .tmp v]) (tmps : Array Value) (P : Program) (w : World) :
    (results fn tmps).run P w =
      ((asAddr (tmps.getD p undef)).run P w).andThen fun a w₁ => ((loadVar ty a).run P w₁).andThen fun x w₂ => .ok (.tuple #[x, tmps.getD u undef, tmps.getD v undef]) w₂ := by
  simp only [results, h]
  simp [Sem.run_bind, Result.andThen]
theorem dayN_days {W : World} {pf pd n : Nat} {lo hi : Int} {f : Nat → Int} {pre : List Nat} {x : Nat} (h : DaysL f pre n lo hi) (k : DayN W pf pd n lo hi (f x)) : ∃ n' lo' hi', DaysL f (pre ++ [x]) n' lo' hi' ∧ DayC W pf pd n' lo' hi' := by
  unfold DayN at k
  by_cases h9 : 9 < f x
  · rw [if_pos h9] at k
    exact ⟨_, _, _, days_skip h x h9, k⟩
  · rw [if_neg h9] at k
    by_cases hn : n = 0
    · subst hn
      rw [if_pos rfl] at k
      exact ⟨_, _, _, days_first h x (by omega), k⟩
    · rw [if_neg hn] at k
      exact ⟨_, _, _, days_more h hn x (by omega), k⟩
theorem since_no {r : SeRoom} {who s : Int} (h : sinceErr r who s ≠ 0) : sinceOf r who s = ((0, 0), 0, sinceErr r who s) := by unfold sinceOf; rw [if_neg h]
theorem since_yes {r : SeRoom} {who s : Int} (h : sinceErr r who s = 0) (hv : SeValid r) {n : Nat} {lo hi : Int} (hd : DaysL (fun x => sinceP r x s.toNat who.toNat) (truthsP r 0) n lo hi) : sinceOf r who s = ((lo, hi), settled n (truthsP r 0).length, 0) := by
  unfold sinceOf
  rw [if_pos h]
  have h2 := daysTo_spec (fun t => dayOf r t who.toNat s.toNat) (seTruths r []).reverse
  have hp : (seTruths r []).reverse.Perm ((truthsP r 0).map fun x => bitsList x r.leaks.length) := (List.reverse_perm _).trans (truths_perm0 r)
  obtain ⟨e1, e2, e3⟩ := DaysL.perm (fun x => bitsList x r.leaks.length) hp (fun t _ => dayOf_bits hv t _ _) h2 hd
  rw [e1, truths_len0, ← e2, ← e3]
theorem since_count {f : Nat → Int} {l : List Nat} {n : Nat} {lo hi : Int} (h : DaysL f l n lo hi) : l.countP (fun x => leI (f x) 9) = n := h.1.symm

set_option maxRecDepth 100000 in
set_option maxHeartbeats 2000000 in
theorem SSinceF_any (a1 a2 a3 a4 a5 : Option Addr) (k1 k2 k3 k4 k5 : Nat) (r : SeRoom) (who s : Int) (w : World) (hm : RoomC w a1 a2 a3 a4 a5 k1 k2 k3 k4 k5 r) :
    Calls Try.prog 18 #[(.agg #[.slice a1 r.writers.length k1, .slice a2 r.kept.length k2, .slice a3 r.leaks.length k3, .slice a4 r.letters.length k4, .slice a5 r.heard.length k5]), .int .i64 who, .int .i64 s] w fun e w' => e = .returned (.tuple #[.agg #[.int .i64 (sinceOf r who s).1.1, .int .i64 (sinceOf r who s).1.2], .int .i64 (sinceOf r who s).2.1, .int .i64 (sinceOf r who s).2.2]) ∧ Below w.heap.size w w' := by
  have HTN := Lib.hid (fun h => since_no (r := r) (who := who) (s := s) h)
  have HTY := Lib.hid (fun (h : sinceErr r who s = 0) (hv : SeValid r) (n : Nat) (lo hi : Int) hd => since_yes h hv (n := n) (lo := lo) (hi := hi) hd)
  have l1 := hm.ok1.len
  have l2 := hm.ok2.len
  have hQ := Below.refl (w.heap.size + 1) (w.alloc (.cells #[.slice a1 r.writers.length k1, .slice a2 r.kept.length k2, .slice a3 r.leaks.length k3, .slice a4 r.letters.length k4, .slice a5 r.heard.length k5] 28))
  obtain ⟨Y, hY⟩ : ∃ Y : World, Y = (((w.alloc (.cells #[.slice a1 r.writers.length k1, .slice a2 r.kept.length k2, .slice a3 r.leaks.length k3, .slice a4 r.letters.length k4, .slice a5 r.heard.length k5] 28)).alloc (.cells #[.int .i64 who] 3)).alloc (.cells #[.int .i64 s] 3)).alloc (.cells #[.int .i64 0, .int .i64 0] 34) := ⟨_, rfl⟩
  have hYs : Y.heap.size = w.heap.size + 1 + 1 + 1 + 1 := by rw [hY]; simp
  have hQ2 : Below (w.heap.size + 1) (w.alloc (.cells #[.slice a1 r.writers.length k1, .slice a2 r.kept.length k2, .slice a3 r.leaks.length k3, .slice a4 r.letters.length k4, .slice a5 r.heard.length k5] 28)) Y := by rw [hY]; exact ((hQ.alloc (by simp) _).alloc (by first | omega | (simp <;> omega)) _).alloc (by first | omega | (simp <;> omega)) _
  have hA1 : Y.heap[w.heap.size + 1]? = some (.cells #[.int .i64 who] 3 (0, 0)) := by rw [hY]; exact (heap_alloc_old _ _ (by first | omega | (simp <;> omega))).trans ((heap_alloc_old _ _ (by first | omega | (simp <;> omega))).trans (alloc_at _ _ (by simp)))
  have hA2 : Y.heap[w.heap.size + 1 + 1]? = some (.cells #[.int .i64 s] 3 (0, 0)) := by rw [hY]; exact (heap_alloc_old _ _ (by first | omega | (simp <;> omega))).trans (alloc_at _ _ (by simp))
  have hA3 : Y.heap[w.heap.size + 1 + 1 + 1]? = some (.cells #[.int .i64 0, .int .i64 0] 34 (0, 0)) := by rw [hY]; exact alloc_at _ _ (by simp)
  have EN2 := SEnter4_any a1 a2 a3 a4 a5 k1 k2 k3 k4 k5 r 0 who s Y (hm.mono (box_old hQ2))
  have hse : knownErr r (if whoErr r who s = 0 then 0 else whoErr r who s) = sinceErr r who s := by
    unfold sinceErr
    congr 1
    split
    · rename_i h; exact h.symm
    · rfl
  have HV := Lib.hid (fun h : sinceErr r who s = 0 => who_valid (hse.trans h))
  rw [hse] at EN2
  clear hse
  generalize sinceErr r who s = er at HTN HTY HV EN2
  generalize sinceOf r who s = res at HTN HTY ⊢
  have EN2 := Lib.hid EN2
  have x0 := box_cell hQ2 0 _ rfl
  have x1 := box_cell hQ2 1 _ rfl
  have x2 := box_cell hQ2 2 _ rfl
  have x3 := box_cell hQ2 3 _ rfl
  have x4 := box_cell hQ2 4 _ rfl
  have xz := box_size hQ2
  have y1 := blk_cell 0 hA1 rfl
  have y2 := blk_cell 0 hA2 rfl
  simp only [List.getElem_toArray, List.getElem_cons_zero] at y1 y2
  have z1 := lt_of_block hA1
  have z2 := lt_of_block hA2
  have hw2 := (box_old hQ2).size
  go_enter Try.func18, Try.ntmps18
  go_upto_region 1 with (fail)
  rw [← hY]
  clear hY
  replace hYs := Lib.hid hYs
  by_cases her : er = 0
  · obtain ⟨hv, hn0, hn1, hs0, hs1⟩ := HV.out her
    replace HTY := Lib.hid (HTY.out her hv)
    obtain ⟨u, rfl⟩ : ∃ u : Nat, who = u := ⟨who.toNat, by omega⟩
    obtain ⟨sc, rfl⟩ : ∃ sc : Nat, s = sc := ⟨s.toNat, by omega⟩
    simp only [Int.toNat_natCast] at HTY
    have HER := Lib.hid her
    have g1 := nei_f her
    have vw := hv.nw
    have vk := hv.nk
    have v3 := hv.nl
    clear her HV HTN
    go_upto_region 5 with (go_at_call 77; go_must (refine EN2.out.mono ?_; rintro e w3 ⟨v3, rfl, h3, hb3⟩; obtain ⟨bm, bo, rfl, hR, hbo⟩ := h3.1 HER.out; dsimp only))
    obtain ⟨Z, hZ⟩ : ∃ Z : World, Z = (w3.alloc (.cells #[.pointer (some ⟨bm, 0, none⟩)] 105)).alloc (.cells #[.bool true] 4) := ⟨_, rfl⟩
    rw [← hZ]
    have hB3 : Below Y.heap.size Y Z := by rw [hZ]; exact (hb3.alloc hb3.size _).alloc (by have := hb3.size; simp; omega) _
    have hKN : KeepN w Z bm bo a1 a2 a3 a4 a5 k1 k2 k3 k4 k5 r := ⟨by rw [hZ]; exact hR.below (((Below.refl _ _).alloc (Nat.le_refl _) _).alloc (by simp) _), (box_old hQ2).trans (hB3.mono hw2)⟩
    have hA0 : Z.heap[w3.heap.size]? = some (.cells #[.pointer (some ⟨bm, 0, none⟩)] 105 (0, 0)) := by rw [hZ]; exact (heap_alloc_old _ _ (by simp)).trans (alloc_at _ _ rfl)
    have hAf : Z.heap[w3.heap.size + 1]? = some (.cells #[.bool true] 4 (0, 0)) := by rw [hZ]; exact alloc_at _ _ (by simp)
    have hw33 := hb3.size
    clear hZ
    replace hA1 := (hB3.block _ (lt_of_block hA1)).trans hA1
    replace hA2 := (hB3.block _ (lt_of_block hA2)).trans hA2
    replace hA3 := (hB3.block _ (lt_of_block hA3)).trans hA3
    have hl0 := lt_of_block hA0
    have hl1 := lt_of_block hA1
    have hl2 := lt_of_block hA2
    have hl3 := lt_of_block hA3
    have hlf := lt_of_block hAf
    have hbml := hKN.1.bm_lt
    have hbol := hKN.1.bo_lt
    have hw3 := hKN.2.size
    have hYY := hYs.out
    have hbmf := hKN.1.blk
    have hm1 : bm ≠ w3.heap.size + 1 := fun e => by unfold RBlk at hbmf; rw [e, hAf] at hbmf; cases hbmf
    have hm2 : bm ≠ w.heap.size + 1 + 1 + 1 := fun e => by unfold RBlk at hbmf; rw [e, hA3] at hbmf; cases hbmf
    have hm3 : bo ≠ w3.heap.size + 1 := Ne.symm (hKN.1.other hAf)
    have hm4 : bo ≠ w.heap.size + 1 + 1 + 1 := Ne.symm (hKN.1.other hA3)
    clear hbmf
    have AK := SAsk_any a1 a2 a3 a4 a5 k1 k2 k3 k4 k5 r bm bo 79 #[.pointer (some ⟨w3.heap.size, 0, none⟩), .pointer (some ⟨w.heap.size + 1 + 1, 0, none⟩), .pointer (some ⟨w.heap.size + 1, 0, none⟩), .pointer (some ⟨w3.heap.size + 1, 0, none⟩), .pointer (some ⟨w.heap.size + 1 + 1 + 1, 0, none⟩)] (fun x => leI (sinceP r x sc u) 9) Z hv hbol (enters_of Try.func79 (by kernel_rfl) rfl)
      (fun pre W => KeepN w W bm bo a1 a2 a3 a4 a5 k1 k2 k3 k4 k5 r ∧ W.heap[w3.heap.size]? = some (.cells #[.pointer (some ⟨bm, 0, none⟩)] 105 (0, 0)) ∧ W.heap[w.heap.size + 1]? = some (.cells #[.int .i64 (u : Int)] 3 (0, 0)) ∧ W.heap[w.heap.size + 1 + 1]? = some (.cells #[.int .i64 (sc : Int)] 3 (0, 0)) ∧ ∃ n lo hi, DaysL (fun x => sinceP r x sc u) pre n lo hi ∧ DayC W (w3.heap.size + 1) (w.heap.size + 1 + 1 + 1) n lo hi)
      (fun s A A' h hb => ⟨h.1.belowB hm hb (by omega) hbml hbol, (hb.block _ hl0).trans h.2.1, (hb.block _ hl1).trans h.2.2.1, (hb.block _ hl2).trans h.2.2.2.1, by obtain ⟨n, lo, hi, g1, g2⟩ := h.2.2.2.2; exact ⟨n, lo, hi, g1, g2.same (hb.block _ hlf) (hb.block _ hl3)⟩⟩)
      (fun s A A' h hg hR' => ⟨h.1.step hg hR' (by omega), grown_keep hg h.2.1 (h.1.1.other h.2.1), grown_keep hg h.2.2.1 (h.1.1.other h.2.2.1), grown_keep hg h.2.2.2.1 (h.1.1.other h.2.2.2.1), by obtain ⟨n, lo, hi, g1, g2⟩ := h.2.2.2.2; exact ⟨n, lo, hi, g1, ⟨grown_keep hg g2.f (Ne.symm hm3), grown_keep hg g2.d (Ne.symm hm4)⟩⟩⟩)
      (fun s A h => h.1.1) ⟨hKN, hA0, hA1, hA2, 0, 0, 0, days_nil _, ⟨hAf, hA3⟩⟩
      (fun pre x W h hp hz => by
        obtain ⟨hk, q0, q1, q2, n, lo, hi, g1, g2⟩ := h
        refine (SSince1_any _ _ _ _ _ _ _ _ _ _ r bm bo 0 x sc u w3.heap.size (w.heap.size + 1 + 1) (w.heap.size + 1) (w3.heap.size + 1) (w.heap.size + 1 + 1 + 1) n lo hi W hk.1 hv (by have := truthsP_lt (r := r) (but := 0) (s := x) (hp.subset (by simp)); have := two_pow_le4 r.leaks.length v3; omega) (by omega) (by omega) (blk_cell 0 q0 rfl) (blk_cell 0 q2 rfl) (blk_cell 0 q1 rfl) g2).mono ?_
        rintro e W' ⟨rfl, V, hgV, hRV, hdw, hdn⟩
        obtain ⟨n', lo', hi', d1, d2⟩ := dayN_days (f := fun x => sinceP r x sc u) g1 hdn
        refine ⟨rfl, ⟨(hk.step hgV hRV (by omega)).dayw hm hdw (by omega) (by omega) hm1 hm2 hm3 hm4, ?_, ?_, ?_, n', lo', hi', d1, d2⟩, ?_⟩
        · exact (hdw.other _ (by omega) (by omega)).trans (grown_keep hgV q0 (hk.1.other q0))
        · exact (hdw.other _ (by omega) (by omega)).trans (grown_keep hgV q1 (hk.1.other q1))
        · exact (hdw.other _ (by omega) (by omega)).trans (grown_keep hgV q2 (hk.1.other q2))
        · have ha : Above Z.heap.size W V := Above.of_grown hgV (fun q e => by have := Option.some.inj e; omega)
          exact ha.trans ⟨hdw.os, hdw.tape, hdw.output, by rw [hdw.size]; exact Nat.le_refl _, fun b h1 h2 => hdw.other b (by omega) (by omega)⟩)
    obtain ⟨cnt, hcnt⟩ : ∃ cnt, cnt = settled ((truthsP r 0).countP fun x => leI (sinceP r x sc u) 9) (truthsP r 0).length := ⟨_, rfl⟩
    rw [← hcnt] at AK
    have HCN := Lib.hid hcnt
    clear hcnt
    have AK := Lib.hid AK
    have y0 := blk_cell 0 hA0 rfl
    simp only [List.getElem_toArray, List.getElem_cons_zero] at y0
    clear hm1 hm2 hm3 hm4 hYY
    go_upto_region 6 with (go_at_call 78; go_must (refine AK.out.mono ?_; rintro e w5 ⟨rfl, hK3, -, -, -, n, lo, hi, gd, gc⟩; dsimp only))
    have HR : Hid (res = ((lo, hi), cnt, 0)) := Lib.hid (by rw [HTY.out n lo hi gd, HCN.out, since_count gd])
    have c0 := blk_cell 0 gc.d rfl
    have c1 := blk_cell 1 gc.d rfl
    simp only [List.getElem_toArray, List.getElem_cons_zero, List.getElem_cons_succ] at c0 c1
    have f0 := blk_free 0 gc.d
    have f1 := blk_free 1 gc.d
    have z4 := lt_of_block gc.d
    clear gd gc HTY HCN
    go_wp2
    (try simp only [Exit.inBlock, Exit.then])
    refine bodyPost_ret (v := .tuple #[.agg #[.int .i64 lo, .int .i64 hi], .int .i64 cnt, .int .i64 0]) ?_ rfl ⟨?_, ?_⟩
    · rw [results_cell_tmp2 rfl]
      go_simp
    · rw [HR.out]
    · exact (hK3.2.setCell (by simp; omega) _).setCell (by simp; omega) _
  · replace HTN := Lib.hid (HTN.out her)
    have g1 := nei_t her
    have HER := Lib.hid her
    clear her HV HTY
    go_upto_region 2 with (go_at_call 77; go_must (refine EN2.out.mono ?_; rintro e w3 ⟨v3, rfl, h3, hb3⟩; obtain rfl := h3.2 HER.out; dsimp only))
    have hA4 := (heap_alloc_old w3 (.cells #[.pointer none] 105) (lt_of_block ((hb3.block _ (lt_of_block hA3)).trans hA3))).trans ((hb3.block _ (lt_of_block hA3)).trans hA3)
    have hb4 := (box_old hQ2).trans ((hb3.alloc hb3.size (.cells #[.pointer none] 105)).mono hw2)
    generalize (w3.alloc (.cells #[.pointer none] 105)) = Z at hA4 hb4 ⊢
    have c0 := blk_cell 0 hA4 rfl
    have c1 := blk_cell 1 hA4 rfl
    simp only [List.getElem_toArray, List.getElem_cons_zero, List.getElem_cons_succ] at c0 c1
    have f0 := blk_free 0 hA4
    have f1 := blk_free 1 hA4
    have z4 := lt_of_block hA4
    go_wp2
    (try simp only [Exit.inBlock, Exit.then])
    refine bodyPost_ret (v := .tuple #[.agg #[.int .i64 0, .int .i64 0], .int .i64 0, .int .i64 er]) ?_ rfl ⟨?_, ?_⟩
    · rw [results_cell_tmp2 rfl]
      go_simp
    · rw [HTN.out]
    · exact (hb4.setCell (by simp; omega) _).setCell (by simp; omega) _
end Go.Proofs.Ytmhbjohpggghgaa
