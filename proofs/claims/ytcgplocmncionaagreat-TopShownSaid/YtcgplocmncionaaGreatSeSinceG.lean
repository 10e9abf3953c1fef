/- What is proved here: the contract of Since. Conditions: the room lies in memory. -/
/- What is proved here: the contracts of keeps and of Wrong. Conditions: the room lies in memory. -/
/- What is proved here: the contract of Wrong. Conditions: the room lies in memory. -/
import Derived.Test.YtcgplocmncionaaGreatSeTellG
set_option linter.unusedVariables false
set_option linter.unusedSimpArgs false
namespace Go.Proofs.YtcgplocmncionaaGreat
open Go Go.RowKit Go.Shelf

theorem results_cell_tmp2 {fn : Func} {p u v : Tmp} {ty : TypeId} (h : fn.results = #[.cell p ty, .tmp u, .tmp v]) (tmps : Array Value) (P : Program) (w : World) :
    (results fn tmps).run P w =
      ((asAddr (tmps.getD p undef)).run P w).andThen fun a w₁ => ((loadVar ty a).run P w₁).andThen fun x w₂ => .ok (.tuple #[x, tmps.getD u undef, tmps.getD v undef]) w₂ := by
  simp only [results, h]
  simp [Sem.run_bind, Result.andThen]
theorem dayN_days {W : World} {pf pd n : Nat} {lo hi : Int} {f : Nat → Int} {pre : List Nat} {x : Nat} (h : DaysL f pre n lo hi) (k : DayN W pf pd n lo hi (f x)) : ∃ n' lo' hi', DaysL f (pre ++ [x]) n' lo' hi' ∧ DayC W pf pd n' lo' hi' := by
  unfold DayN at k
  by_cases h9 : 9 < f x
  · rw [if_pos h9] at k
    exact ⟨_, _, _, days_skip h x h9, k⟩
  · rw [if_neg h9] at k
    by_cases hn : n = 0
    · subst hn
      rw [if_pos rfl] at k
      exact ⟨_, _, _, days_first h x (by omega), k⟩
    · rw [if_neg hn] at k
      exact ⟨_, _, _, days_more h hn x (by omega), k⟩
theorem since_no {r : SeRoom} {who s : Int} (h : sinceErr r who s ≠ 0) : sinceOf r who s = ((0, 0), 0, sinceErr r who s) := by unfold sinceOf; rw [if_neg h]
theorem since_yes {r : SeRoom} {who s : Int} (h : sinceErr r who s = 0) (hv : SeValid r) {n : Nat} {lo hi : Int} (hd : DaysL (fun x => sinceP r x s.toNat who.toNat) (truthsP r 0) n lo hi) : sinceOf r who s = ((lo, hi), settled n (truthsP r 0).length, 0) := by
  unfold sinceOf
  rw [if_pos h]
  have h2 := daysTo_spec (fun t => dayOf r t who.toNat s.toNat) (seTruths r []).reverse
  have hp : (seTruths r []).reverse.Perm ((truthsP r 0).map fun x => bitsList x r.leaks.length) := (List.reverse_perm _).trans (truths_perm0 r)
  obtain ⟨e1, e2, e3⟩ := DaysL.perm (fun x => bitsList x r.leaks.length) hp (fun t _ => dayOf_bits hv t _ _) h2 hd
  rw [e1, truths_len0, ← e2, ← e3]
theorem since_count {f : Nat → Int} {l : List Nat} {n : Nat} {lo hi : Int} (h : DaysL f l n lo hi) : l.countP (fun x => leI (f x) 9) = n := h.1.symm

set_option maxRecDepth 100000 in
set_option maxHeartbeats 2000000 in
theorem SSinceF_any (a1 a2 a3 a4 a5 : Option Addr) (k1 k2 k3 k4 k5 : Nat) (r : SeRoom) (who s : Int) (w : World) (hm : RoomC w a1 a2 a3 a4 a5 k1 k2 k3 k4 k5 r) :
    Calls Tryz.prog 34 #[(.agg #[.slice a1 r.writers.length k1, .slice a2 r.kept.length k2, .slice a3 r.leaks.length k3, .slice a4 r.letters.length k4, .slice a5 r.heard.length k5]), .int .i64 who, .int .i64 s] w fun e w' => e = .returned (.tuple #[.agg #[.int .i64 (sinceOf r who s).1.1, .int .i64 (sinceOf r who s).1.2], .int .i64 (sinceOf r who s).2.1, .int .i64 (sinceOf r who s).2.2]) ∧ Below w.heap.size w w' := by
  have HTN := Lib.hid (fun h => since_no (r := r) (who := who) (s := s) h)
  have HTY := Lib.hid (fun (h : sinceErr r who s = 0) (hv : SeValid r) (n : Nat) (lo hi : Int) hd => since_yes h hv (n := n) (lo := lo) (hi := hi) hd)
  have l1 := hm.ok1.len
  have l2 := hm.ok2.len
  have hQ := Below.refl (w.heap.size + 1) (w.alloc (.cells #[.slice a1 r.writers.length k1, .slice a2 r.kept.length k2, .slice a3 r.leaks.length k3, .slice a4 r.letters.length k4, .slice a5 r.heard.length k5] 28))
  obtain ⟨Y, hY⟩ : ∃ Y : World, Y = (((w.alloc (.cells #[.slice a1 r.writers.length k1, .slice a2 r.kept.length k2, .slice a3 r.leaks.length k3, .slice a4 r.letters.length k4, .slice a5 r.heard.length k5] 28)).alloc (.cells #[.int .i64 who] 3)).alloc (.cells #[.int .i64 s] 3)).alloc (.cells #[.int .i64 0, .int .i64 0] 81) := ⟨_, rfl⟩
  have hYs : Y.heap.size = w.heap.size + 1 + 1 + 1 + 1 := by rw [hY]; simp
  have hQ2 : Below (w.heap.size + 1) (w.alloc (.cells #[.slice a1 r.writers.length k1, .slice a2 r.kept.length k2, .slice a3 r.leaks.length k3, .slice a4 r.letters.length k4, .slice a5 r.heard.length k5] 28)) Y := by rw [hY]; exact ((hQ.alloc (by simp) _).alloc (by first | omega | (simp <;> omega)) _).alloc (by first | omega | (simp <;> omega)) _
  have hA1 : Y.heap[w.heap.size + 1]? = some (.cells #[.int .i64 who] 3 (0, 0)) := by rw [hY]; exact (heap_alloc_old _ _ (by first | omega | (simp <;> omega))).trans ((heap_alloc_old _ _ (by first | omega | (simp <;> omega))).trans (alloc_at _ _ (by simp)))
  have hA2 : Y.heap[w.heap.size + 1 + 1]? = some (.cells #[.int .i64 s] 3 (0, 0)) := by rw [hY]; exact (heap_alloc_old _ _ (by first | omega | (simp <;> omega))).trans (alloc_at _ _ (by simp))
  have hA3 : Y.heap[w.heap.size + 1 + 1 + 1]? = some (.cells #[.int .i64 0, .int .i64 0] 81 (0, 0)) := by rw [hY]; exact alloc_at _ _ (by simp)
  have EN2 := SEnter4_any a1 a2 a3 a4 a5 k1 k2 k3 k4 k5 r 0 who s Y (hm.mono (box_old hQ2))
  have hse : knownErr r (if whoErr r who s = 0 then 0 else whoErr r who s) = sinceErr r who s := by
    unfold sinceErr
    congr 1
    split
    · rename_i h; exact h.symm
    · rfl
  have HV := Lib.hid (fun h : sinceErr r who s = 0 => who_valid (hse.trans h))
  rw [hse] at EN2
  clear hse
  generalize sinceErr r who s = er at HTN HTY HV EN2
  generalize sinceOf r who s = res at HTN HTY ⊢
  have EN2 := Lib.hid EN2
  have x0 := box_cell hQ2 0 _ rfl
  have x1 := box_cell hQ2 1 _ rfl
  have x2 := box_cell hQ2 2 _ rfl
  have x3 := box_cell hQ2 3 _ rfl
  have x4 := box_cell hQ2 4 _ rfl
  have xz := box_size hQ2
  have y1 := blk_cell 0 hA1 rfl
  have y2 := blk_cell 0 hA2 rfl
  simp only [List.getElem_toArray, List.getElem_cons_zero] at y1 y2
  have z1 := lt_of_block hA1
  have z2 := lt_of_block hA2
  have hw2 := (box_old hQ2).size
  go_enter Tryz.func34, Tryz.ntmps34
  go_upto_region 1 with (fail)
  rw [← hY]
  clear hY
  replace hYs := Lib.hid hYs
  by_cases her : er = 0
  · obtain ⟨hv, hn0, hn1, hs0, hs1⟩ := HV.out her
    replace HTY := Lib.hid (HTY.out her hv)
    obtain ⟨u, rfl⟩ : ∃ u : Nat, who = u := ⟨who.toNat, by omega⟩
    obtain ⟨sc, rfl⟩ : ∃ sc : Nat, s = sc := ⟨s.toNat, by omega⟩
    simp only [Int.toNat_natCast] at HTY
    have HER := Lib.hid her
    have g1 := nei_f her
    have vw := hv.nw
    have vk := hv.nk
    have v3 := hv.nl
    clear her HV HTN
    go_upto_region 5 with (go_at_call 23; go_must (refine EN2.out.mono ?_; rintro e w3 ⟨v3, rfl, h3, hb3⟩; obtain ⟨bm, bo, rfl, hR, hbo⟩ := h3.1 HER.out; dsimp only))
    obtain ⟨Z, hZ⟩ : ∃ Z : World, Z = (w3.alloc (.cells #[.pointer (some ⟨bm, 0, none⟩)] 62)).alloc (.cells #[.bool true] 4) := ⟨_, rfl⟩
    rw [← hZ]
    have hB3 : Below Y.heap.size Y Z := by rw [hZ]; exact (hb3.alloc hb3.size _).alloc (by have := hb3.size; simp; omega) _
    have hKN : KeepN w Z bm bo a1 a2 a3 a4 a5 k1 k2 k3 k4 k5 r := ⟨by rw [hZ]; exact hR.below (((Below.refl _ _).alloc (Nat.le_refl _) _).alloc (by simp) _), (box_old hQ2).trans (hB3.mono hw2)⟩
    have hA0 : Z.heap[w3.heap.size]? = some (.cells #[.pointer (some ⟨bm, 0, none⟩)] 62 (0, 0)) := by rw [hZ]; exact (heap_alloc_old _ _ (by simp)).trans (alloc_at _ _ rfl)
    have hAf : Z.heap[w3.heap.size + 1]? = some (.cells #[.bool true] 4 (0, 0)) := by rw [hZ]; exact alloc_at _ _ (by simp)
    have hw33 := hb3.size
    clear hZ
    replace hA1 := (hB3.block _ (lt_of_block hA1)).trans hA1
    replace hA2 := (hB3.block _ (lt_of_block hA2)).trans hA2
    replace hA3 := (hB3.block _ (lt_of_block hA3)).trans hA3
    have hl0 := lt_of_block hA0
    have hl1 := lt_of_block hA1
    have hl2 := lt_of_block hA2
    have hl3 := lt_of_block hA3
    have hlf := lt_of_block hAf
    have hbml := hKN.1.bm_lt
    have hbol := hKN.1.bo_lt
    have hw3 := hKN.2.size
    have hYY := hYs.out
    have hbmf := hKN.1.blk
    have hm1 : bm ≠ w3.heap.size + 1 := fun e => by unfold RBlk at hbmf; rw [e, hAf] at hbmf; cases hbmf
    have hm2 : bm ≠ w.heap.size + 1 + 1 + 1 := fun e => by unfold RBlk at hbmf; rw [e, hA3] at hbmf; cases hbmf
    have hm3 : bo ≠ w3.heap.size + 1 := Ne.symm (hKN.1.other hAf)
    have hm4 : bo ≠ w.heap.size + 1 + 1 + 1 := Ne.symm (hKN.1.other hA3)
    clear hbmf
    have AK := SAsk_any a1 a2 a3 a4 a5 k1 k2 k3 k4 k5 r bm bo 65 #[.pointer (some ⟨w3.heap.size, 0, none⟩), .pointer (some ⟨w.heap.size + 1 + 1, 0, none⟩), .pointer (some ⟨w.heap.size + 1, 0, none⟩), .pointer (some ⟨w3.heap.size + 1, 0, none⟩), .pointer (some ⟨w.heap.size + 1 + 1 + 1, 0, none⟩)] (fun x => leI (sinceP r x sc u) 9) Z hv hbol (enters_of Tryz.func65 (by kernel_rfl) rfl)
      (fun pre W => KeepN w W bm bo a1 a2 a3 a4 a5 k1 k2 k3 k4 k5 r ∧ W.heap[w3.heap.size]? = some (.cells #[.pointer (some ⟨bm, 0, none⟩)] 62 (0, 0)) ∧ W.heap[w.heap.size + 1]? = some (.cells #[.int .i64 (u : Int)] 3 (0, 0)) ∧ W.heap[w.heap.size + 1 + 1]? = some (.cells #[.int .i64 (sc : Int)] 3 (0, 0)) ∧ ∃ n lo hi, DaysL (fun x => sinceP r x sc u) pre n lo hi ∧ DayC W (w3.heap.size + 1) (w.heap.size + 1 + 1 + 1) n lo hi)
      (fun s A A' h hb => ⟨h.1.belowB hm hb (by omega) hbml hbol, (hb.block _ hl0).trans h.2.1, (hb.block _ hl1).trans h.2.2.1, (hb.block _ hl2).trans h.2.2.2.1, by obtain ⟨n, lo, hi, g1, g2⟩ := h.2.2.2.2; exact ⟨n, lo, hi, g1, g2.same (hb.block _ hlf) (hb.block _ hl3)⟩⟩)
      (fun s A A' h hg hR' => ⟨h.1.step hg hR' (by omega), grown_keep hg h.2.1 (h.1.1.other h.2.1), grown_keep hg h.2.2.1 (h.1.1.other h.2.2.1), grown_keep hg h.2.2.2.1 (h.1.1.other h.2.2.2.1), by obtain ⟨n, lo, hi, g1, g2⟩ := h.2.2.2.2; exact ⟨n, lo, hi, g1, ⟨grown_keep hg g2.f (Ne.symm hm3), grown_keep hg g2.d (Ne.symm hm4)⟩⟩⟩)
      (fun s A h => h.1.1) ⟨hKN, hA0, hA1, hA2, 0, 0, 0, days_nil _, ⟨hAf, hA3⟩⟩
      (fun pre x W h hp hz => by
        obtain ⟨hk, q0, q1, q2, n, lo, hi, g1, g2⟩ := h
        refine (SSince1_any _ _ _ _ _ _ _ _ _ _ r bm bo 0 x sc u w3.heap.size (w.heap.size + 1 + 1) (w.heap.size + 1) (w3.heap.size + 1) (w.heap.size + 1 + 1 + 1) n lo hi W hk.1 hv (by have := truthsP_lt (r := r) (but := 0) (s := x) (hp.subset (by simp)); have := two_pow_le4 r.leaks.length v3; omega) (by omega) (by omega) (blk_cell 0 q0 rfl) (blk_cell 0 q2 rfl) (blk_cell 0 q1 rfl) g2).mono ?_
        rintro e W' ⟨rfl, V, hgV, hRV, hdw, hdn⟩
        obtain ⟨n', lo', hi', d1, d2⟩ := dayN_days (f := fun x => sinceP r x sc u) g1 hdn
        refine ⟨rfl, ⟨(hk.step hgV hRV (by omega)).dayw hm hdw (by omega) (by omega) hm1 hm2 hm3 hm4, ?_, ?_, ?_, n', lo', hi', d1, d2⟩, ?_⟩
        · exact (hdw.other _ (by omega) (by omega)).trans (grown_keep hgV q0 (hk.1.other q0))
        · exact (hdw.other _ (by omega) (by omega)).trans (grown_keep hgV q1 (hk.1.other q1))
        · exact (hdw.other _ (by omega) (by omega)).trans (grown_keep hgV q2 (hk.1.other q2))
        · have ha : Above Z.heap.size W V := Above.of_grown hgV (fun q e => by have := Option.some.inj e; omega)
          exact ha.trans ⟨hdw.os, hdw.tape, hdw.output, by rw [hdw.size]; exact Nat.le_refl _, fun b h1 h2 => hdw.other b (by omega) (by omega)⟩)
    obtain ⟨cnt, hcnt⟩ : ∃ cnt, cnt = settled ((truthsP r 0).countP fun x => leI (sinceP r x sc u) 9) (truthsP r 0).length := ⟨_, rfl⟩
    rw [← hcnt] at AK
    have HCN := Lib.hid hcnt
    clear hcnt
    have AK := Lib.hid AK
    have y0 := blk_cell 0 hA0 rfl
    simp only [List.getElem_toArray, List.getElem_cons_zero] at y0
    clear hm1 hm2 hm3 hm4 hYY
    go_upto_region 6 with (go_at_call 24; go_must (refine AK.out.mono ?_; rintro e w5 ⟨rfl, hK3, -, -, -, n, lo, hi, gd, gc⟩; dsimp only))
    have HR : Hid (res = ((lo, hi), cnt, 0)) := Lib.hid (by rw [HTY.out n lo hi gd, HCN.out, since_count gd])
    have c0 := blk_cell 0 gc.d rfl
    have c1 := blk_cell 1 gc.d rfl
    simp only [List.getElem_toArray, List.getElem_cons_zero, List.getElem_cons_succ] at c0 c1
    have f0 := blk_free 0 gc.d
    have f1 := blk_free 1 gc.d
    have z4 := lt_of_block gc.d
    clear gd gc HTY HCN
    go_wp2
    (try simp only [Exit.inBlock, Exit.then])
    refine bodyPost_ret (v := .tuple #[.agg #[.int .i64 lo, .int .i64 hi], .int .i64 cnt, .int .i64 0]) ?_ rfl ⟨?_, ?_⟩
    · rw [results_cell_tmp2 rfl]
      go_simp
    · rw [HR.out]
    · exact (hK3.2.setCell (by simp; omega) _).setCell (by simp; omega) _
  · replace HTN := Lib.hid (HTN.out her)
    have g1 := nei_t her
    have HER := Lib.hid her
    clear her HV HTY
    go_upto_region 2 with (go_at_call 23; go_must (refine EN2.out.mono ?_; rintro e w3 ⟨v3, rfl, h3, hb3⟩; obtain rfl := h3.2 HER.out; dsimp only))
    have hA4 := (heap_alloc_old w3 (.cells #[.pointer none] 62) (lt_of_block ((hb3.block _ (lt_of_block hA3)).trans hA3))).trans ((hb3.block _ (lt_of_block hA3)).trans hA3)
    have hb4 := (box_old hQ2).trans ((hb3.alloc hb3.size (.cells #[.pointer none] 62)).mono hw2)
    generalize (w3.alloc (.cells #[.pointer none] 62)) = Z at hA4 hb4 ⊢
    have c0 := blk_cell 0 hA4 rfl
    have c1 := blk_cell 1 hA4 rfl
    simp only [List.getElem_toArray, List.getElem_cons_zero, List.getElem_cons_succ] at c0 c1
    have f0 := blk_free 0 hA4
    have f1 := blk_free 1 hA4
    have z4 := lt_of_block hA4
    go_wp2
    (try simp only [Exit.inBlock, Exit.then])
    refine bodyPost_ret (v := .tuple #[.agg #[.int .i64 0, .int .i64 0], .int .i64 0, .int .i64 er]) ?_ rfl ⟨?_, ?_⟩
    · rw [results_cell_tmp2 rfl]
      go_simp
    · rw [HTN.out]
    · exact (hb4.setCell (by simp; omega) _).setCell (by simp; omega) _
end Go.Proofs.YtcgplocmncionaaGreat
namespace Go.Proofs.YtcgplocmncionaaGreat
open Go Go.RowKit Go.Shelf

def keepsD (r : SeRoom) (s : Nat) (d : Nat → Int) : Bool := (List.range r.writers.length).all fun w => !(bitB (keptAt r s) w && decide (d w ≤ 9))
def keepsDTo (r : SeRoom) (s : Nat) (d : Nat → Int) (k : Nat) : Bool := (List.range k).all fun w => !(bitB (keptAt r s) w && decide (d w ≤ 9))
theorem keepsD_no {r : SeRoom} {s k : Nat} {d : Nat → Int} (hk : k < r.writers.length) (h1 : bitB (keptAt r s) k = true) (h2 : d k ≤ 9) : keepsD r s d = false := by
  unfold keepsD
  rw [List.all_eq_false]
  exact ⟨k, List.mem_range.2 hk, by simp [h1, h2]⟩
theorem keepsDTo_succ (r : SeRoom) (s : Nat) (d : Nat → Int) (k : Nat) : keepsDTo r s d (k + 1) = (keepsDTo r s d k && !(bitB (keptAt r s) k && decide (d k ≤ 9))) := by
  unfold keepsDTo; rw [List.range_succ, List.all_append]; simp
theorem keepsIn_D (r : SeRoom) (letters : List SeLetter) (s : Nat) (t : List Int) : keepsIn r letters s t = keepsD r s (fromD r letters t s) := rfl

set_option maxRecDepth 100000 in
set_option maxHeartbeats 1000000 in
theorem SKeeps_any (a1 a2 a3 a4 a5 : Option Addr) (k1 k2 k3 k4 k5 : Nat) (r : SeRoom) (bm bo but s : Nat) (d : Nat → Int) (w : World) (hm : RoomW w bm bo a1 a2 a3 a4 a5 k1 k2 k3 k4 k5 r but) (hv : SeValid r) (hs : s < r.kept.length) :
    Calls Tryz.prog 74 #[.pointer (some ⟨bm, 0, none⟩), .int .i64 (s : Int), arr4 d] w fun e w' => e = .returned (.bool (keepsD r s d)) ∧ Below w.heap.size w w' := by
  have l1 := hm.room.ok1.len
  have l2 := hm.room.ok2.len
  have l2c := hm.room.ok2.1
  have vw := hv.nw
  have vk := hv.nk
  have HKA : Hid (keptAt r s = r.kept[s]) := Lib.hid (by unfold keptAt; rw [List.getElem?_eq_getElem hs]; rfl)
  have hkb := hv.kept s hs
  have HNO := Lib.hid (fun (k : Nat) hk h1 h2 => keepsD_no (r := r) (s := s) (k := k) (d := d) hk h1 h2)
  have HTO := Lib.hid (fun k => keepsDTo_succ r s d k)
  have HTE : Hid (keepsD r s d = keepsDTo r s d r.writers.length) := Lib.hid rfl
  generalize keepsD r s d = res at HNO HTE ⊢
  obtain ⟨b, off, rfl, hbb, h1⟩ := hm.room.kept s hs
  have HKC := Lib.hid (fun W (h : Below w.heap.size w W) => cell_below h h1)
  clear h1
  have hp16 : (2 : Int) ^ r.writers.length ≤ 16 := by
    have : r.writers.length = 0 ∨ r.writers.length = 1 ∨ r.writers.length = 2 ∨ r.writers.length = 3 ∨ r.writers.length = 4 := by omega
    rcases this with e | e | e | e | e <;> rw [e] <;> decide
  obtain ⟨kb, hkb2⟩ : ∃ kb : Nat, r.kept[s] = kb := ⟨r.kept[s].toNat, by omega⟩
  rw [hkb2] at HKA HKC hkb
  clear hkb2
  have hkb64 : (kb : Int) < 64 := by omega
  have hs3 : (s : Int) < 64 := by omega
  have hsl : (s : Int) < r.kept.length := by omega
  clear hp16
  obtain ⟨d0, hd0⟩ : ∃ x, x = d 0 := ⟨_, rfl⟩
  obtain ⟨d1, hd1⟩ : ∃ x, x = d 1 := ⟨_, rfl⟩
  obtain ⟨d2, hd2⟩ : ∃ x, x = d 2 := ⟨_, rfl⟩
  obtain ⟨d3, hd3⟩ : ∃ x, x = d 3 := ⟨_, rfl⟩
  have hdl : dl d = [d0, d1, d2, d3] := by rw [hd0, hd1, hd2, hd3]; rfl
  simp only [arr4, ← hd0, ← hd1, ← hd2, ← hd3]
  have HDL := Lib.hid hdl
  clear hdl hd0 hd1 hd2 hd3
  have hW0 := Below.refl (w.heap.size + 1) (w.alloc (.cells #[.int .i64 d0, .int .i64 d1, .int .i64 d2, .int .i64 d3] 67))
  obtain ⟨y0, y1, y2, y3, y4, y5, y6, y7, y8⟩ := (hm.below (box_old hW0)).blk.cells
  have hD0 : BlkI (w.alloc (.cells #[.int .i64 d0, .int .i64 d1, .int .i64 d2, .int .i64 d3] 67)) w.heap.size 67 (dl d) := by rw [HDL.out]; exact alloc_at _ _ rfl
  have hkc := HKC.out _ (box_old hW0)
  have hbz := lt_of_cell hkc
  have hzw := hD0.lt
  obtain ⟨Y, hY⟩ : ∃ Y : World, Y = w.alloc (.cells #[.int .i64 d0, .int .i64 d1, .int .i64 d2, .int .i64 d3] 67) := ⟨_, rfl⟩
  have hbY := box_old hW0
  go_enter Tryz.func74, Tryz.ntmps74
  go_upto_region 1 with (fail)
  rw [← hY]
  rw [← hY] at y0 y1 y2 y3 y4 y5 y6 y7 y8 hD0 hkc hbz hzw hbY
  clear hY hW0
  go_wp2
  go_loop [14] (fun i => ∃ k : Nat, k ≤ r.writers.length ∧ i = .int .i64 k ∧ Hid (keepsDTo r s d k = true)) (fun i => r.writers.length - (intOf i).toNat)
  case atStart => exact ⟨0, Nat.zero_le _, rfl, Lib.hid rfl⟩
  case round =>
    obtain ⟨k, hk, rfl, HK⟩ := hrel
    by_cases hlt : k < r.writers.length
    · have hb := bit_and kb (by omega) k (by omega)
      have HB : Hid (bitB (keptAt r s) k = kb.testBit k) := Lib.hid (by rw [HKA.out]; unfold bitB; simp)
      have dk := dl_cell hD0 k (by omega)
      have hk4 : (k : Int) < 4 := by omega
      have HN := Lib.hid (fun h1 h2 => HNO.out k hlt h1 h2)
      have HS := Lib.hid (HTO.out k)
      generalize d k = x at dk HN HS
      cases hbt : kb.testBit k
      · rw [hbt] at hb HB
        replace HS := Lib.hid (show keepsDTo r s d (k + 1) = true by rw [HS.out, HK.out, HB.out]; rfl)
        clear hbt
        go_wp2
        go_round
        case rel => exact ⟨k + 1, by omega, by go_num, HS⟩
        case measure => simp [intOf]; omega
      · rw [hbt] at hb HB
        clear hbt
        by_cases hx : x < 10
        · replace HN := Lib.hid (HN.out HB.out (by omega))
          go_wp2
          go_ret
          exact ⟨ret_bool HN.out.symm, hbY⟩
        · replace HS := Lib.hid (show keepsDTo r s d (k + 1) = true by rw [HS.out, HK.out, HB.out]; simp; omega)
          go_wp2
          go_round
          case rel => exact ⟨k + 1, by omega, by go_num, HS⟩
          case measure => simp [intOf]; omega
    · obtain rfl : k = r.writers.length := by omega
      go_wp2
      go_ret
      exact ⟨ret_bool (by rw [HTE.out, HK.out]), hbY⟩
end Go.Proofs.YtcgplocmncionaaGreat
namespace Go.Proofs.YtcgplocmncionaaGreat
open Go Go.RowKit Go.Shelf

set_option maxRecDepth 100000 in
set_option maxHeartbeats 1000000 in
theorem SWrong1_any (a1 a2 a3 a4 a5 : Option Addr) (k1 k2 k3 k4 k5 : Nat) (r : SeRoom) (set b : Nat) (w : World) (hm : RoomC w a1 a2 a3 a4 a5 k1 k2 k3 k4 k5 r) (hv : SeValid r) (hs : set < 64)
    (x0 : w.cell? ⟨b, 0, none⟩ = some (.slice a1 r.writers.length k1)) (x1 : w.cell? ⟨b, 1, none⟩ = some (.slice a2 r.kept.length k2)) (x2 : w.cell? ⟨b, 2, none⟩ = some (.slice a3 r.leaks.length k3)) (x3 : w.cell? ⟨b, 3, none⟩ = some (.slice a4 r.letters.length k4)) (x4 : w.cell? ⟨b, 4, none⟩ = some (.slice a5 r.heard.length k5)) :
    Calls Tryz.prog 68 #[.int .i64 (set : Int), .pointer (some ⟨b, 0, none⟩)] w fun e w' => e = .returned (.bool (decide (0 < (truthsP r set).length))) ∧ Below w.heap.size w w' := by
  have LK := Lib.hid (SLook_any _ _ _ _ _ _ _ _ _ _ r set w hm hv)
  have xz := lt_of_cell x0
  have SM := Lib.hid (fun (bm bo : Nat) (W : World) (h : RoomW W bm bo a1 a2 a3 a4 a5 k1 k2 k3 k4 k5 r set) => SSome_any _ _ _ _ _ _ _ _ _ _ r bm bo set W h hv hs)
  obtain ⟨res, hr⟩ : ∃ res, res = decide (0 < (truthsP r set).length) := ⟨_, rfl⟩
  rw [← hr] at SM ⊢
  clear hr
  go_enter Tryz.func68, Tryz.ntmps68
  go_wp2_with (first
    | (go_at_call 54; go_must (refine (SM.out _ _ _ hR2).mono ?_; rintro e w3 ⟨rfl, hg3, hR3⟩; dsimp only))
    | (go_at_call 53; go_must (refine LK.out.mono ?_; rintro e w2 ⟨bm, bo, rfl, hR2, hb2, hbo⟩; dsimp only)))
  go_ret
  exact ⟨rfl, hb2.grown hg3 hb2.size (fun k e => by have := Option.some.inj e; omega)⟩

set_option maxRecDepth 100000 in
set_option maxHeartbeats 1000000 in
theorem SWrong_any (a1 a2 a3 a4 a5 : Option Addr) (k1 k2 k3 k4 k5 : Nat) (r : SeRoom) (w : World) (hm : RoomC w a1 a2 a3 a4 a5 k1 k2 k3 k4 k5 r) :
    Calls Tryz.prog 36 #[(.agg #[.slice a1 r.writers.length k1, .slice a2 r.kept.length k2, .slice a3 r.leaks.length k3, .slice a4 r.letters.length k4, .slice a5 r.heard.length k5])] w fun e w' => ∃ v, e = .returned (.tuple #[v, .int .i64 (seWrongOf r).2]) ∧ IntsV w' v (seWrongOf r).1 ∧ Below w.heap.size w w' := by
  have hQ := Below.refl (w.heap.size + 1) (w.alloc (.cells #[.slice a1 r.writers.length k1, .slice a2 r.kept.length k2, .slice a3 r.leaks.length k3, .slice a4 r.letters.length k4, .slice a5 r.heard.length k5] 28))
  have HC : Hid (seErr r = (seCheck r).2.2) := rfl
  have C := fun (W : World) (h : Below w.heap.size w W) => SCheck_any _ _ _ _ _ _ _ _ _ _ r W (hm.mono h)
  generalize seCheck r = ck at C HC
  obtain ⟨p1, p2, ce⟩ := ck
  simp only at C HC
  have C := Lib.hid C
  have x0 := box_cell hQ 0 _ rfl
  have x1 := box_cell hQ 1 _ rfl
  have x2 := box_cell hQ 2 _ rfl
  have x3 := box_cell hQ 3 _ rfl
  have x4 := box_cell hQ 4 _ rfl
  have xz := box_size hQ
  by_cases hce : ce = 0
  · have g1 := nei_f hce
    have h0 := HC.out.trans hce
    have hv := seValid_of h0
    have vh := hv.nh
    have HF := Lib.hid (fun (best : List Int) (found : Bool) hf => seWrong_found h0 (best := best) (found := found) hf)
    generalize seWrongOf r = res at HF ⊢
    clear hce HC h0
    go_enter Tryz.func36, Tryz.ntmps36
    go_upto_region 4 with (go_at_call 52; go_must (refine (C.out _ (box_old hQ)).mono ?_; rintro e w2 ⟨rfl, hb2⟩; have hQ2 := hQ.trans (hb2.mono (by simp)); dsimp only))
    have FW := MFewest_any r.heard.length 68 (by omega) #[.pointer (some ⟨w.heap.size, 0, none⟩)] (fun s => decide (0 < (truthsP r s).length)) w2 (enters_of Tryz.func68 (by kernel_rfl) rfl) (fun s W hs hW => by
      have hQW := box_on hQ2 hW
      refine SWrong1_any a1 a2 a3 a4 a5 k1 k2 k3 k4 k5 r s w.heap.size W (hm.mono (box_old hQW)) hv ?_ (box_cell hQW 0 _ rfl) (box_cell hQW 1 _ rfl) (box_cell hQW 2 _ rfl) (box_cell hQW 3 _ rfl) (box_cell hQW 4 _ rfl)
      have := two_pow_le r.heard.length (by omega)
      omega)
    have FW := Lib.hid FW
    clear x0 x1 x2 x3 x4 xz
    have x0 := box_cell hQ2 0 _ rfl
    have x1 := box_cell hQ2 1 _ rfl
    have x2 := box_cell hQ2 2 _ rfl
    have x3 := box_cell hQ2 3 _ rfl
    have x4 := box_cell hQ2 4 _ rfl
    have xz := box_size hQ2
    go_wp2_with (go_at_call 67; go_must (refine FW.out.mono ?_; rintro e w3 ⟨v, best, found, rfl, hv3, hf3, hb3⟩; dsimp only))
    go_ret2
    have hr := HF.out best found hf3.out
    subst hr
    exact ⟨v, rfl, hv3, (box_old hQ2).trans (hb3.mono (box_old hQ2).size)⟩
  · have g1 := nei_t hce
    have HR := Lib.hid (seWrong_no (r := r) (by rw [HC.out]; exact hce))
    rw [HC.out] at HR
    generalize seWrongOf r = res at HR ⊢
    clear hce HC
    go_enter Tryz.func36, Tryz.ntmps36
    go_wp2_with (go_at_call 52; go_must (refine (C.out _ (box_old hQ)).mono ?_; rintro e w2 ⟨rfl, hb2⟩; dsimp only))
    go_ret2
    have hr := HR.out
    subst hr
    exact ⟨_, rfl, ⟨none, 0, rfl, ⟨by simp, by omega, fun _ => rfl⟩, IntsC.nil _ _⟩, box_old (hQ.trans (hb2.mono (by simp)))⟩
end Go.Proofs.YtcgplocmncionaaGreat
