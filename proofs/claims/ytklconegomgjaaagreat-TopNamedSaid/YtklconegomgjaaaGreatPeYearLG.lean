/- What is proved here: spans of persons in memory; the contract of fewer of layer 3. Conditions: six spans, of small numbers. -/
/- What is proved here: plain facts on the years of persons: they become fewer, and so come to an end. No program. No condition. -/
import Derived.Test.YtklconegomgjaaaGreatPeFathG
set_option linter.unusedVariables false
set_option linter.unusedSimpArgs false
namespace Go.Proofs.YtklconegomgjaaaGreat
open Go Go.RowKit Go.Shelf
theorem fold_max (x y : Int) [Decidable (x < y)] : (if x < y then y else x) = max x y := by split <;> omega
theorem fold_min (x y : Int) [Decidable (y < x)] : (if y < x then y else x) = min x y := by split <;> omega
attribute [local go_sem] fold_max fold_min
theorem bn_cell {W : World} {b : Nat} {ty : TypeId} {L : List (Int × Int)} (h : W.heap[b]? = some (.cells (bnCells L) ty (0, 0))) (n : Nat) (hn : n < 6) : W.cell? ⟨b, n * 2, none⟩ = some (.int .i64 (bAt L n).1) ∧ W.cell? ⟨b, n * 2 + 1, none⟩ = some (.int .i64 (bAt L n).2) := by
  obtain rfl | rfl | rfl | rfl | rfl | rfl : n = 0 ∨ n = 1 ∨ n = 2 ∨ n = 3 ∨ n = 4 ∨ n = 5 := by omega
  · exact ⟨blk_cell 0 h rfl, blk_cell 1 h rfl⟩
  · exact ⟨blk_cell 2 h rfl, blk_cell 3 h rfl⟩
  · exact ⟨blk_cell 4 h rfl, blk_cell 5 h rfl⟩
  · exact ⟨blk_cell 6 h rfl, blk_cell 7 h rfl⟩
  · exact ⟨blk_cell 8 h rfl, blk_cell 9 h rfl⟩
  · exact ⟨blk_cell 10 h rfl, blk_cell 11 h rfl⟩
theorem bn_set {W : World} {b : Nat} {ty : TypeId} {L : List (Int × Int)} (hL : L.length = 6) (h : W.heap[b]? = some (.cells (bnCells L) ty (0, 0))) (n : Nat) (hn : n < 6) (v : Int × Int) : ((W.setCell ⟨b, n * 2, none⟩ (.int .i64 v.1)).setCell ⟨b, n * 2 + 1, none⟩ (.int .i64 v.2)).heap[b]? = some (.cells (bnCells (L.set n v)) ty (0, 0)) := by
  rw [blk_set (n * 2 + 1) (.int .i64 v.2) (blk_set (n * 2) (.int .i64 v.1) h)]
  match L, hL with
  | [a0, a1, a2, a3, a4, a5], _ =>
    obtain rfl | rfl | rfl | rfl | rfl | rfl : n = 0 ∨ n = 1 ∨ n = 2 ∨ n = 3 ∨ n = 4 ∨ n = 5 := by omega
    all_goals rfl
theorem setP_other {W : World} {b k j : Nat} {v : Value} (h : k ≠ b) : (W.setCell ⟨b, j, none⟩ v).heap[k]? = W.heap[k]? := Below.heap_setCell _ _ _ _ h
theorem grown_setP {w W : World} {b j : Nat} {v : Value} (h : w.grownBy W (some b)) : w.grownBy (W.setCell ⟨b, j, none⟩ v) (some b) :=
  ⟨h.os, h.tape, h.output, by simpa using h.size, fun i hi hr => (setP_other (fun e => hr (by rw [e]))).trans (h.block i hi hr)⟩
theorem grown_drew {w W : World} {row : Option Nat} (h : w.grownBy W row) : w.grownBy W.drew row := ⟨h.os, h.tape, h.output, h.size, h.block⟩
/-- All numbers are so small. -/
def Bnd (m : Int) (L : List (Int × Int)) : Prop := ∀ i, i < 6 → -m ≤ (bAt L i).1 ∧ (bAt L i).1 ≤ 199 + m ∧ -m ≤ (bAt L i).2 ∧ (bAt L i).2 ≤ 199 + m
theorem bAt_set {L : List (Int × Int)} {n i : Nat} (v : Int × Int) (hn : n < L.length) : bAt (L.set n v) i = if i = n then v else bAt L i := by
  unfold bAt
  rw [List.getElem?_set]
  by_cases e : n = i
  · subst e; simp [hn]
  · rw [if_neg e, if_neg (fun h => e h.symm)]
theorem fewB_len {L : List (Int × Int)} (hL : L.length = 6) (p c : Nat) : (fewB L p c).1.length = 6 := by simp [fewB, hL]
theorem fewB_bnd {L : List (Int × Int)} {m : Int} (hL : L.length = 6) (h : Bnd m L) (hm : 0 ≤ m) {p c : Nat} (hp : p < 6) (hc : c < 6) : Bnd (m + 15) (fewB L p c).1 := by
  intro i hi
  have h1 := h p hp
  have h2 := h c hc
  have h3 := h i hi
  unfold fewB
  simp only
  rw [bAt_set _ (by rw [List.length_set]; omega), bAt_set _ (by omega)]
  unfold older younger
  by_cases e1 : i = c
  · rw [if_pos e1]; simp only; omega
  · rw [if_neg e1]
    by_cases e2 : i = p
    · rw [if_pos e2]; simp only; omega
    · rw [if_neg e2]; omega
set_option maxRecDepth 100000 in
set_option maxHeartbeats 2000000 in
theorem PFewer_any (pb p c : Nat) (L : List (Int × Int)) (w : World) (hb : w.heap[pb]? = some (.cells (bnCells L) 154 (0, 0))) (hL : L.length = 6) (hB : Bnd 285 L) (hp : p < 6) (hc : c < 6) :
    Calls Tryz.prog 125 #[.pointer (some ⟨pb, 0, none⟩), .int .i64 (p : Int), .int .i64 (c : Int)] w fun e w' => e = .returned (.bool (fewB L p c).2) ∧ w'.heap[pb]? = some (.cells (bnCells (fewB L p c).1) 154 (0, 0)) ∧ w.grownBy w' (some pb) := by
  obtain ⟨x0, x1⟩ := bn_cell hb p hp
  obtain ⟨y0, y1⟩ := bn_cell hb c hc
  have bz := lt_of_block hb
  have h1 := hB p hp
  have h2 := hB c hc
  have hpI : (p : Int) < 6 := by omega
  have hcI : (c : Int) < 6 := by omega
  generalize hx : bAt L p = x at x0 x1 h1
  generalize hy : bAt L c = y at y0 y1 h2
  obtain ⟨xl, xh⟩ := x
  obtain ⟨yl, yh⟩ := y
  simp only at x0 x1 y0 y1 h1 h2
  have HXY := Lib.hid (⟨hx, hy⟩ : bAt L p = (xl, xh) ∧ bAt L c = (yl, yh))
  have HB := Lib.hid hb
  clear hx hy hb hB
  go_enter Tryz.func125, Tryz.ntmps125
  go_upto_region 1 with (fail)
  go_cut [7, 8] from 7 to 20 (fun u v W => ∃ p7 p8 : Nat, u = .pointer (some ⟨p7, 0, none⟩) ∧ v = .pointer (some ⟨p8, 0, none⟩) ∧ p7 ≠ p8 ∧ w.heap.size ≤ p7 ∧ w.heap.size ≤ p8 ∧ Below w.heap.size w W ∧ W.heap[p7]? = some (.cells #[.int .i64 xl, .int .i64 xh] 36 (0, 0)) ∧ W.heap[p8]? = some (.cells #[.int .i64 yl, .int .i64 yh] 36 (0, 0)))
  case first =>
    (focus go_region)
    all_goals
      go_wp2
      go_meet
      case rel =>
        first
        | exact ⟨_, _, rfl, rfl, by omega, by omega, by omega, below_drew' (((Below.refl _ _).alloc (Nat.le_refl _) _).alloc (by simp) _), (heap_alloc_old _ _ (by simp)).trans (alloc_atE _ _ rfl), alloc_atE _ _ (by simp)⟩
        | exact ⟨_, _, rfl, rfl, by omega, by omega, by omega, below_drew' (((Below.refl _ _).alloc (Nat.le_refl _) _).alloc (by simp) _), alloc_atE _ _ (by simp), (heap_alloc_old _ _ (by simp)).trans (alloc_atE _ _ rfl)⟩
  case rest =>
    obtain ⟨p7, p8, rfl, rfl, hne, hz7, hz8, hb1, h7, h8⟩ := hcut
    rename World => V
    have a0 := blk_cell 0 h7 rfl
    have a1 := blk_cell 1 h7 rfl
    have b0 := blk_cell 0 h8 rfl
    have b1 := blk_cell 1 h8 rfl
    have az := lt_of_block h7
    have b8z := lt_of_block h8
    simp only [List.getElem_toArray, List.getElem_cons_zero, List.getElem_cons_succ] at a0 a1 b0 b1
    have hbV := (hb1.block _ bz).trans HB.out
    clear x0 x1 y0 y1
    go_upto_region 4 with (fail)
    have HF : Hid (fewB L p c = ((L.set p (max xl (yl - 60), min xh (yh - 15))).set c (max yl (xl + 15), min yh (xh + 60)), decide (((max xl (yl - 60), min xh (yh - 15)) : Int × Int) ≠ (xl, xh)) || decide (((max yl (xl + 15), min yh (xh + 60)) : Int × Int) ≠ (yl, yh)))) := Lib.hid (by
      unfold fewB older younger
      rw [HXY.out.1, HXY.out.2])
    have o1 : -300 ≤ max xl (yl - 60) ∧ max xl (yl - 60) ≤ 500 := by omega
    have o2 : -300 ≤ min xh (yh - 15) ∧ min xh (yh - 15) ≤ 500 := by omega
    have o3 : -300 ≤ max yl (xl + 15) ∧ max yl (xl + 15) ≤ 500 := by omega
    have o4 : -300 ≤ min yh (xh + 60) ∧ min yh (xh + 60) ≤ 500 := by omega
    generalize max xl (yl - 60) = ol at *
    generalize min xh (yh - 15) = oh at *
    generalize max yl (xl + 15) = ul at *
    generalize min yh (xh + 60) = uh at *
    obtain ⟨Z, hZ⟩ : ∃ Z : World, Z = (V.alloc (.cells #[.int .i64 ol, .int .i64 oh] 36)).alloc (.cells #[.int .i64 ul, .int .i64 uh] 36) := ⟨_, rfl⟩
    rw [← hZ]
    have hbZ : Below V.heap.size V Z := by rw [hZ]; exact ((Below.refl _ _).alloc (Nat.le_refl _) _).alloc (by simp) _
    have hO : Z.heap[V.heap.size]? = some (.cells #[.int .i64 ol, .int .i64 oh] 36 (0, 0)) := by rw [hZ]; exact (heap_alloc_old _ _ (by simp)).trans (alloc_atE _ _ rfl)
    have hU : Z.heap[V.heap.size + 1]? = some (.cells #[.int .i64 ul, .int .i64 uh] 36 (0, 0)) := by rw [hZ]; exact alloc_atE _ _ (by simp)
    have h7Z := (hbZ.block _ (lt_of_block h7)).trans h7
    have h8Z := (hbZ.block _ (lt_of_block h8)).trans h8
    have hbb := (hbZ.block _ (lt_of_block hbV)).trans hbV
    have hGZ : w.grownBy Z (some pb) := ⟨(hb1.trans (hbZ.mono hb1.size)).os, (hb1.trans (hbZ.mono hb1.size)).tape, (hb1.trans (hbZ.mono hb1.size)).output, (hb1.trans (hbZ.mono hb1.size)).size, fun i hi _ => (hb1.trans (hbZ.mono hb1.size)).block i hi⟩
    have hVz := hb1.size
    have HGZ := Lib.hid hGZ
    have HBB := Lib.hid hbb
    have HO := Lib.hid hO
    have HU := Lib.hid hU
    have H7 := Lib.hid h7Z
    have H8 := Lib.hid h8Z
    have H1 := Lib.hid h1
    have H2 := Lib.hid h2
    clear hZ hbZ h7 h8 hbV hb1 a0 a1 b0 b1 az b8z h1 h2
    have q0 := blk_cell 0 hO rfl
    have q1 := blk_cell 1 hO rfl
    have qz := lt_of_block hO
    have bz2 := lt_of_block hbb
    have e0 := (bn_cell hbb p hp).1
    have e1 := (bn_cell hbb p hp).2
    have f0 := blk_free (p * 2) hbb
    have f1 := blk_free (p * 2 + 1) hbb
    simp only [List.getElem_toArray, List.getElem_cons_zero, List.getElem_cons_succ] at q0 q1
    clear hO hU h7Z h8Z hbb hGZ
    (focus go_region)
    obtain ⟨Y, hY⟩ : ∃ Y : World, Y = ((Z.setCell ⟨pb, p * 2, none⟩ (.int .i64 ol)).setCell ⟨pb, p * 2 + 1, none⟩ (.int .i64 oh)).drew := ⟨_, rfl⟩
    rw [← hY]
    have hbY : Y.heap[pb]? = some (.cells (bnCells (L.set p (ol, oh))) 154 (0, 0)) := by rw [hY]; exact bn_set hL HBB.out p hp (ol, oh)
    have hoY : ∀ k, k ≠ pb → Y.heap[k]? = Z.heap[k]? := fun k hk => by rw [hY]; exact (setP_other hk).trans (setP_other hk)
    have HGY := Lib.hid (show w.grownBy Y (some pb) from by rw [hY]; exact grown_drew (grown_setP (grown_setP HGZ.out)))
    have HOY := Lib.hid ((hoY V.heap.size (by omega)).trans HO.out)
    have HUY := Lib.hid ((hoY (V.heap.size + 1) (by omega)).trans HU.out)
    have H7Y := Lib.hid ((hoY p7 (by omega)).trans H7.out)
    have H8Y := Lib.hid ((hoY p8 (by omega)).trans H8.out)
    have HBY := Lib.hid hbY
    clear hY hoY q0 q1 qz bz2 e0 e1 f0 f1 HO HU H7 H8 HGZ HBB
    have hL2 : (L.set p (ol, oh)).length = 6 := by rw [List.length_set]; exact hL
    have q0 := blk_cell 0 HUY.out rfl
    have q1 := blk_cell 1 HUY.out rfl
    have qz := lt_of_block HUY.out
    have bz2 := lt_of_block hbY
    have e0 := (bn_cell hbY c hc).1
    have e1 := (bn_cell hbY c hc).2
    have f0 := blk_free (c * 2) hbY
    have f1 := blk_free (c * 2 + 1) hbY
    simp only [List.getElem_toArray, List.getElem_cons_zero, List.getElem_cons_succ] at q0 q1
    clear hbY
    go_upto_region 5 with (fail)
    (focus go_region)
    obtain ⟨U, hU2⟩ : ∃ U : World, U = ((Y.setCell ⟨pb, c * 2, none⟩ (.int .i64 ul)).setCell ⟨pb, c * 2 + 1, none⟩ (.int .i64 uh)).drew := ⟨_, rfl⟩
    rw [← hU2]
    have hbU : U.heap[pb]? = some (.cells (bnCells ((L.set p (ol, oh)).set c (ul, uh))) 154 (0, 0)) := by rw [hU2]; exact bn_set hL2 HBY.out c hc (ul, uh)
    have hoU : ∀ k, k ≠ pb → U.heap[k]? = Y.heap[k]? := fun k hk => by rw [hU2]; exact (setP_other hk).trans (setP_other hk)
    have HGU := Lib.hid (show w.grownBy U (some pb) from by rw [hU2]; exact grown_drew (grown_setP (grown_setP HGY.out)))
    have hOU := (hoU V.heap.size (by omega)).trans HOY.out
    have hUU := (hoU (V.heap.size + 1) (by omega)).trans HUY.out
    have h7U := (hoU p7 (by omega)).trans H7Y.out
    have h8U := (hoU p8 (by omega)).trans H8Y.out
    clear hU2 hoU q0 q1 qz bz2 e0 e1 f0 f1 HOY HUY H7Y H8Y HGY HBY
    have r0 := blk_cell 0 hOU rfl
    have r1 := blk_cell 1 hOU rfl
    have rz := lt_of_block hOU
    have s0 := blk_cell 0 hUU rfl
    have s1 := blk_cell 1 hUU rfl
    have sz := lt_of_block hUU
    have t0 := blk_cell 0 h7U rfl
    have t1 := blk_cell 1 h7U rfl
    have tz := lt_of_block h7U
    have v0 := blk_cell 0 h8U rfl
    have v1 := blk_cell 1 h8U rfl
    have vz := lt_of_block h8U
    simp only [List.getElem_toArray, List.getElem_cons_zero, List.getElem_cons_succ] at r0 r1 s0 s1 t0 t1 v0 v1
    have HBU := Lib.hid hbU
    have h1 := H1.out
    have h2 := H2.out
    have E1 := Lib.hid (fun W => span_eqE (a := ol) (b := oh) (c := xl) (d := xh) ⟨by omega, by omega⟩ ⟨by omega, by omega⟩ ⟨by omega, by omega⟩ ⟨by omega, by omega⟩ W)
    have E2 := Lib.hid (fun W => span_eqE (a := ul) (b := uh) (c := yl) (d := yh) ⟨by omega, by omega⟩ ⟨by omega, by omega⟩ ⟨by omega, by omega⟩ ⟨by omega, by omega⟩ W)
    clear hbU hOU hUU h7U h8U h1 h2
    by_cases c1 : ol = xl ∧ oh = xh
    · have hq1 := E1.out
      rw [decide_eq_true c1] at hq1
      have hq2 := E2.out
      have HB2 : Hid ((fewB L p c).2 = !decide (ul = yl ∧ uh = yh)) := Lib.hid (by
        rw [HF.out]
        simp only [c1.1, c1.2]
        simp [Prod.ext_iff])
      generalize decide (ul = yl ∧ uh = yh) = dd at hq2 HB2
      clear c1 E1 E2
      go_wp2
      go_ret
      exact ⟨ret_bool (by rw [HB2.out]), by rw [HF.out]; exact HBU.out, HGU.out⟩
    · have hq1 := E1.out
      rw [decide_eq_false c1] at hq1
      have HB2 : Hid ((fewB L p c).2 = true) := Lib.hid (by
        rw [HF.out]
        simp only [Bool.or_eq_true, decide_eq_true_eq]
        exact .inl (fun e => c1 ⟨congrArg Prod.fst e, congrArg Prod.snd e⟩))
      clear c1 E1 E2
      go_wp2
      go_ret
      exact ⟨ret_bool (by rw [HB2.out]), by rw [HF.out]; exact HBU.out, HGU.out⟩
end Go.Proofs.YtklconegomgjaaaGreat
namespace Go.Proofs.YtklconegomgjaaaGreat
def wid (L : List (Int × Int)) : Int := ((bAt L 0).2 - (bAt L 0).1) + ((bAt L 1).2 - (bAt L 1).1) + ((bAt L 2).2 - (bAt L 2).1) + ((bAt L 3).2 - (bAt L 3).1) + ((bAt L 4).2 - (bAt L 4).1) + ((bAt L 5).2 - (bAt L 5).1)
/-- No span is wider. -/
def Nar (L L' : List (Int × Int)) : Prop := ∀ i, i < 6 → (bAt L i).1 ≤ (bAt L' i).1 ∧ (bAt L' i).2 ≤ (bAt L i).2
theorem nar_refl (L : List (Int × Int)) : Nar L L := fun i _ => ⟨Int.le_refl _, Int.le_refl _⟩
theorem nar_trans {A B C : List (Int × Int)} (h : Nar A B) (k : Nar B C) : Nar A C := fun i hi => ⟨Int.le_trans (h i hi).1 (k i hi).1, Int.le_trans (k i hi).2 (h i hi).2⟩
theorem nar_wid {L L' : List (Int × Int)} (h : Nar L L') : wid L' ≤ wid L := by
  have h0 := h 0 (by omega)
  have h1 := h 1 (by omega)
  have h2 := h 2 (by omega)
  have h3 := h 3 (by omega)
  have h4 := h 4 (by omega)
  have h5 := h 5 (by omega)
  unfold wid
  omega
theorem nar_lt {L L' : List (Int × Int)} (h : Nar L L') {i : Nat} (hi : i < 6) (hs : (bAt L i).1 < (bAt L' i).1 ∨ (bAt L' i).2 < (bAt L i).2) : wid L' < wid L := by
  have h0 := h 0 (by omega)
  have h1 := h 1 (by omega)
  have h2 := h 2 (by omega)
  have h3 := h 3 (by omega)
  have h4 := h 4 (by omega)
  have h5 := h 5 (by omega)
  unfold wid
  obtain rfl | rfl | rfl | rfl | rfl | rfl : i = 0 ∨ i = 1 ∨ i = 2 ∨ i = 3 ∨ i = 4 ∨ i = 5 := by omega
  all_goals omega
theorem fewB_at {L : List (Int × Int)} (hL : L.length = 6) {p c : Nat} (hp : p < 6) (hc : c < 6) (i : Nat) : bAt (fewB L p c).1 i = if i = c then younger (bAt L p) (bAt L c) else if i = p then older (bAt L p) (bAt L c) else bAt L i := by
  unfold fewB
  simp only
  rw [bAt_set _ (by rw [List.length_set]; omega), bAt_set _ (by omega)]
theorem fewB_nar {L : List (Int × Int)} (hL : L.length = 6) {p c : Nat} (hp : p < 6) (hc : c < 6) : Nar L (fewB L p c).1 := by
  intro i hi
  rw [fewB_at hL hp hc]
  unfold older younger
  by_cases e1 : i = c
  · subst e1; rw [if_pos rfl]; simp only; omega
  · rw [if_neg e1]
    by_cases e2 : i = p
    · subst e2; rw [if_pos rfl]; simp only; omega
    · rw [if_neg e2]; omega
theorem fewB_lt {L : List (Int × Int)} (hL : L.length = 6) {p c : Nat} (hp : p < 6) (hc : c < 6) (h : (fewB L p c).2 = true) : wid (fewB L p c).1 < wid L := by
  have hn := fewB_nar hL hp hc
  by_cases e : p = c
  · subst e
    refine nar_lt hn hp (.inl ?_)
    rw [fewB_at hL hp hc, if_pos rfl]
    unfold younger
    simp only
    omega
  · unfold fewB at h
    simp only [Bool.or_eq_true, decide_eq_true_eq] at h
    rcases h with h | h
    · refine nar_lt hn hp ?_
      rw [fewB_at hL hp hc, if_neg e, if_pos rfl]
      have h1 := (fewB_nar hL hp hc) p hp
      rw [fewB_at hL hp hc, if_neg e, if_pos rfl] at h1
      apply Classical.byContradiction
      intro h2
      exact h (Prod.ext (by omega) (by omega))
    · refine nar_lt hn hc ?_
      rw [fewB_at hL hp hc, if_pos rfl]
      have h1 := (fewB_nar hL hp hc) c hc
      rw [fewB_at hL hp hc, if_pos rfl] at h1
      apply Classical.byContradiction
      intro h2
      exact h (Prod.ext (by omega) (by omega))
/-- What a round over some mentions does. -/
structure YearI (t : PeW) (q : List Int) (L : List (Int × Int)) (k : Nat) : Prop where
  len : (yearTo t q L k).1.length = 6
  nar : Nar L (yearTo t q L k).1
  less : (yearTo t q L k).2 = true → wid (yearTo t q L k).1 < wid L
  bnd : Bnd (15 * k) (yearTo t q L k).1
theorem year_zero {t : PeW} {q : List Int} {L : List (Int × Int)} (hL : L.length = 6) (hb : Bnd 0 L) : YearI t q L 0 := ⟨hL, nar_refl L, fun h => absurd h (by simp [yearTo]), by intro i hi; have := hb i hi; simp only [yearTo]; omega⟩
theorem yearTo_skip {t : PeW} {q : List Int} {L : List (Int × Int)} {k : Nat} (h : (mentAt t k).par = -1) : yearTo t q L (k + 1) = yearTo t q L k := by rw [yearTo, if_pos h]
theorem yearTo_own {t : PeW} {q : List Int} {L : List (Int × Int)} {k np n0 pp : Nat} (h : (mentAt t k).par = (np : Int)) (hq : pAt q k = (n0 : Int)) (hr : pAt q np = (pp : Int)) :
    yearTo t q L (k + 1) = ((fewB (yearTo t q L k).1 pp n0).1, (yearTo t q L k).2 || (fewB (yearTo t q L k).1 pp n0).2) := by
  rw [yearTo, if_neg (by omega), h, Int.toNat_natCast, hr, hq, Int.toNat_natCast, Int.toNat_natCast]
theorem YearI.skip {t : PeW} {q : List Int} {L : List (Int × Int)} {k : Nat} (y : YearI t q L k) (h : (mentAt t k).par = -1) : YearI t q L (k + 1) := by
  obtain ⟨h1, h2, h3, h4⟩ := y
  refine ⟨by rw [yearTo_skip h]; exact h1, by rw [yearTo_skip h]; exact h2, by rw [yearTo_skip h]; exact h3, ?_⟩
  rw [yearTo_skip h]
  intro i hi
  have := h4 i hi
  omega
theorem YearI.own {t : PeW} {q : List Int} {L : List (Int × Int)} {k np n0 pp : Nat} (y : YearI t q L k) (h : (mentAt t k).par = (np : Int)) (hq : pAt q k = (n0 : Int)) (hr : pAt q np = (pp : Int)) (hn : n0 < 6) (hp : pp < 6) : YearI t q L (k + 1) := by
  obtain ⟨h1, h2, h3, h4⟩ := y
  have e := yearTo_own (L := L) h hq hr
  have hnar := fewB_nar h1 hp hn
  refine ⟨by rw [e]; exact fewB_len h1 _ _, by rw [e]; exact nar_trans h2 hnar, fun hh => ?_, ?_⟩
  · rw [e] at hh ⊢
    simp only [Bool.or_eq_true] at hh ⊢
    rcases hh with hh | hh
    · have := h3 hh
      have := nar_wid hnar
      omega
    · have := fewB_lt h1 hp hn hh
      have := nar_wid h2
      omega
  · rw [e]
    have := fewB_bnd h1 h4 (by omega) hp hn
    simp only
    intro i hi
    have := this i hi
    omega
theorem empty_false {L : List (Int × Int)} (hL : L.length = 6) : emptyB L = false ↔ ∀ i, i < 6 → (bAt L i).1 ≤ (bAt L i).2 := by
  unfold emptyB
  rw [List.any_eq_false]
  constructor
  · intro h i hi
    have := h L[i] (List.getElem_mem (by omega))
    unfold bAt
    rw [List.getElem?_eq_getElem (by omega), Option.getD_some]
    simpa using this
  · intro h s hs
    obtain ⟨i, hi, rfl⟩ := List.getElem_of_mem hs
    have := h i (by omega)
    unfold bAt at this
    rw [List.getElem?_eq_getElem hi, Option.getD_some] at this
    simpa using this
/-- Behind a round in which no span became empty. -/
theorem YearI.bnd0 {t : PeW} {q : List Int} {L : List (Int × Int)} {k : Nat} (y : YearI t q L k) (hb : Bnd 0 L) (he : emptyB (yearTo t q L k).1 = false) : Bnd 0 (yearTo t q L k).1 := by
  have h := (empty_false y.len).1 he
  intro i hi
  have h1 := h i hi
  have h2 := y.nar i hi
  have h3 := hb i hi
  omega
theorem YearI.wid0 {t : PeW} {q : List Int} {L : List (Int × Int)} {k : Nat} (y : YearI t q L k) (he : emptyB (yearTo t q L k).1 = false) : 0 ≤ wid (yearTo t q L k).1 := by
  have h := (empty_false y.len).1 he
  have h0 := h 0 (by omega)
  have h1 := h 1 (by omega)
  have h2 := h 2 (by omega)
  have h3 := h 3 (by omega)
  have h4 := h 4 (by omega)
  have h5 := h 5 (by omega)
  unfold wid
  omega
/-- The rounds to come. -/
structure YearR (t : PeW) (q : List Int) (L : List (Int × Int)) (more : Bool) : Prop where
  len : L.length = 6
  bnd : Bnd 0 L
  go : more = true → ∃ f : Nat, yearsN t q = yearsF t q f L ∧ wid L + 1 ≤ (f : Int) ∧ 1 ≤ f
  stop : more = false → yearsN t q = some L ∧ 0 ≤ wid L
theorem YearR.next {t : PeW} {q : List Int} {L : List (Int × Int)} (r : YearR t q L true) (y : YearI t q L t.ments.length) (he : emptyB (yearTo t q L t.ments.length).1 = false) :
    YearR t q (yearTo t q L t.ments.length).1 (yearTo t q L t.ments.length).2 ∧ wid (yearTo t q L t.ments.length).1 ≤ wid L ∧ 0 ≤ wid (yearTo t q L t.ments.length).1 ∧ ((yearTo t q L t.ments.length).2 = true → wid (yearTo t q L t.ments.length).1 < wid L) := by
  obtain ⟨f, h1, h2, h3⟩ := r.go rfl
  have h0 := y.wid0 he
  obtain ⟨g, rfl⟩ : ∃ g, f = g + 1 := ⟨f - 1, by omega⟩
  rw [yearsF, if_neg (by rw [he]; simp)] at h1
  refine ⟨⟨y.len, y.bnd0 r.bnd he, fun hm => ?_, fun hm => ?_⟩, nar_wid y.nar, h0, y.less⟩
  · rw [if_pos hm] at h1
    have := y.less hm
    exact ⟨g, h1, by omega, by omega⟩
  · rw [if_neg (by rw [hm]; simp)] at h1
    exact ⟨h1, h0⟩
theorem YearR.none {t : PeW} {q : List Int} {L : List (Int × Int)} (r : YearR t q L true) (he : emptyB (yearTo t q L t.ments.length).1 = true) : yearsN t q = none := by
  obtain ⟨f, h1, h2, h3⟩ := r.go rfl
  obtain ⟨g, rfl⟩ : ∃ g, f = g + 1 := ⟨f - 1, by omega⟩
  rw [yearsF, if_pos he] at h1
  exact h1
theorem all_bnd : Bnd 0 allYears := by
  intro i hi
  obtain rfl | rfl | rfl | rfl | rfl | rfl : i = 0 ∨ i = 1 ∨ i = 2 ∨ i = 3 ∨ i = 4 ∨ i = 5 := by omega
  all_goals decide
theorem all_wid : wid allYears ≤ 1194 := by decide
theorem born_nar {t : PeW} {q : List Int} : ∀ k, (bornTo t q k).length = 6 ∧ ((∀ i, i < 6 → pAt q i < 6 ∧ 0 ≤ pAt q i) → k ≤ t.ments.length → PeOk t → Bnd 0 (bornTo t q k) ∧ wid (bornTo t q k) ≤ 1194)
  | 0 => ⟨rfl, fun _ _ _ => ⟨all_bnd, all_wid⟩⟩
  | k + 1 => by
    obtain ⟨h1, h2⟩ := born_nar (t := t) (q := q) k
    refine ⟨by rw [bornTo, List.length_set]; exact h1, fun hq hk hv => ?_⟩
    obtain ⟨h3, h4⟩ := h2 hq (by omega) hv
    have hm := hv.ment k (by omega)
    have hnm := hv.nm
    have hqk := hq k (by omega)
    rw [bornTo, mentAt_is (by omega)]
    obtain ⟨n, hn⟩ : ∃ n : Nat, pAt q k = (n : Int) := ⟨(pAt q k).toNat, by omega⟩
    rw [hn, Int.toNat_natCast]
    have hn6 : n < 6 := by omega
    have hnr : Nar (bornTo t q k) ((bornTo t q k).set n (max (bAt (bornTo t q k) n).1 t.ments[k].lo, min (bAt (bornTo t q k) n).2 t.ments[k].hi)) := by
      intro i hi
      rw [bAt_set _ (by omega)]
      by_cases e : i = n
      · subst e; rw [if_pos rfl]; simp only; omega
      · rw [if_neg e]; omega
    refine ⟨?_, by have := nar_wid hnr; omega⟩
    intro i hi
    have h5 := h3 i hi
    have h6 := h3 n hn6
    rw [bAt_set _ (by omega)]
    by_cases e : i = n
    · subst e; rw [if_pos rfl]; simp only; omega
    · rw [if_neg e]; omega
theorem year_start {t : PeW} {q : List Int} (hv : PeOk t) (hq : PsOk q) : YearR t q (bornTo t q t.ments.length) true := by
  obtain ⟨h1, h2⟩ := born_nar (t := t) (q := q) t.ments.length
  obtain ⟨h3, h4⟩ := h2 (fun i _ => ⟨(hq.at i).2, (hq.at i).1⟩) (Nat.le_refl _) hv
  exact ⟨h1, h3, fun _ => ⟨1300, rfl, by omega, by omega⟩, fun h => by cases h⟩
end Go.Proofs.YtklconegomgjaaaGreat
