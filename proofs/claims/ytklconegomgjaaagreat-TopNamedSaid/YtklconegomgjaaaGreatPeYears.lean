/- What is proved here: the contract of years of layer 3, which remembers. Conditions: the town is looked at; persons of all mentions. -/
import Derived.Test.YtklconegomgjaaaGreatPeYearLG
import Derived.Laws.ResultCell
import Derived.Deep.DeepCutAuto
set_option linter.unusedVariables false
set_option linter.unusedSimpArgs false
namespace Go.Proofs.YtklconegomgjaaaGreat
open Go Go.RowKit Go.Shelf

/-- All twelve cells are written. -/
def setBn (W : World) (b : Nat) (L : List (Int × Int)) : World := (((((((((((W.setCell ⟨b, 0, none⟩ (.int .i64 (bAt L 0).1)).setCell ⟨b, 1, none⟩ (.int .i64 (bAt L 0).2)).setCell ⟨b, 2, none⟩ (.int .i64 (bAt L 1).1)).setCell ⟨b, 3, none⟩ (.int .i64 (bAt L 1).2)).setCell ⟨b, 4, none⟩ (.int .i64 (bAt L 2).1)).setCell ⟨b, 5, none⟩ (.int .i64 (bAt L 2).2)).setCell ⟨b, 6, none⟩ (.int .i64 (bAt L 3).1)).setCell ⟨b, 7, none⟩ (.int .i64 (bAt L 3).2)).setCell ⟨b, 8, none⟩ (.int .i64 (bAt L 4).1)).setCell ⟨b, 9, none⟩ (.int .i64 (bAt L 4).2)).setCell ⟨b, 10, none⟩ (.int .i64 (bAt L 5).1)).setCell ⟨b, 11, none⟩ (.int .i64 (bAt L 5).2)
theorem setBn_blk {W : World} {b : Nat} {L L2 : List (Int × Int)} {t : TypeId} (h : W.heap[b]? = some (.cells (bnCells L2) t (0, 0))) : (setBn W b L).heap[b]? = some (.cells (bnCells L) t (0, 0)) := by
  have h12 := blk_set 11 (.int .i64 (bAt L 5).2) (blk_set 10 (.int .i64 (bAt L 5).1) (blk_set 9 (.int .i64 (bAt L 4).2) (blk_set 8 (.int .i64 (bAt L 4).1) (blk_set 7 (.int .i64 (bAt L 3).2) (blk_set 6 (.int .i64 (bAt L 3).1) (blk_set 5 (.int .i64 (bAt L 2).2) (blk_set 4 (.int .i64 (bAt L 2).1) (blk_set 3 (.int .i64 (bAt L 1).2) (blk_set 2 (.int .i64 (bAt L 1).1) (blk_set 1 (.int .i64 (bAt L 0).2) (blk_set 0 (.int .i64 (bAt L 0).1) h)))))))))))
  unfold setBn
  rw [h12]
  simp only [bnCells, List.setIfInBounds_toArray, List.set_cons_zero, List.set_cons_succ]
theorem setBn_below {B b : Nat} {w W : World} {L : List (Int × Int)} (h : Below B w W) (hb : B ≤ b) : Below B w (setBn W b L) :=
  (((((((((((h.setCell hb _).setCell hb _).setCell hb _).setCell hb _).setCell hb _).setCell hb _).setCell hb _).setCell hb _).setCell hb _).setCell hb _).setCell hb _).setCell hb _
theorem setBn_other {W : World} {b k : Nat} {L : List (Int × Int)} (h : k ≠ b) : (setBn W b L).heap[k]? = W.heap[k]? := by
  unfold setBn
  rw [setP_other h, setP_other h, setP_other h, setP_other h, setP_other h, setP_other h, setP_other h, setP_other h, setP_other h, setP_other h, setP_other h, setP_other h]
theorem drewP_heap (W : World) (b : Nat) : W.drew.heap[b]? = W.heap[b]? := rfl
theorem grown_of_drew {W V : World} {row : Option Nat} (h : W.drew.grownBy V row) : W.grownBy V row := by
  have hd := below_drew' (Below.refl W.heap.size W)
  exact ⟨h.os.trans hd.os, h.tape.trans hd.tape, h.output.trans hd.output, Nat.le_trans hd.size h.size, fun i hi hr => (h.block i (Nat.lt_of_lt_of_le hi hd.size) hr).trans (hd.block i hi)⟩
attribute [irreducible] setBn
set_option maxRecDepth 100000 in
set_option maxHeartbeats 2000000 in
theorem PYears_old (a1 a2 a3 a4 : Option Addr) (k1 k2 k3 k4 : Nat) (t : PeW) (bt bc bk but : Nat) (q : List Int) (w : World) (hm : TownW w bt bc bk a1 a2 a3 a4 k1 k2 k3 k4 t but) (hq : PsOk q) {T : List (Value × Value)} (hT : MapV w Tryz.prog 109 bk T) (hK : KnoOk t T) (hin : ∃ p ∈ T, p.1 = psV q) :
    Calls Tryz.prog 82 #[.pointer (some ⟨bt, 0, none⟩), psV q] w fun e w' => e = .returned (.tuple #[bnV ((yearsN t q).getD []), .bool true]) ∧ (yearsN t q).isSome = true ∧ Below w.heap.size w w' := by
  obtain ⟨kl, hkey⟩ := key_ps hq
  obtain ⟨v, hv, hvv⟩ : ∃ v, (psV q, v) ∈ T ∧ True := by
    obtain ⟨p, hp, e⟩ := hin
    exact ⟨p.2, by rw [← e]; exact hp, trivial⟩
  have HSO := Lib.hid (hK.get hq.1 hv).1
  generalize hd : (yearsN t q).getD [] = d
  have HD := Lib.hid hd
  obtain ⟨Y, hY⟩ : ∃ Y : World, Y = (w.alloc (.cells (psCells q) 109)).alloc (.cells (bnCells []) 154) := ⟨_, rfl⟩
  have hps : Y.heap[w.heap.size]? = some (.cells (psCells q) 109 (0, 0)) := by rw [hY]; exact (heap_alloc_old _ _ (by simp)).trans (alloc_atE _ _ rfl)
  have hbn : Y.heap[w.heap.size + 1]? = some (.cells (bnCells []) 154 (0, 0)) := by rw [hY]; exact alloc_atE _ _ (by simp)
  have hb0 : Below w.heap.size w Y := by rw [hY]; exact ((Below.refl _ _).alloc (Nat.le_refl _) _).alloc (by simp) _
  have HY := Lib.hid hY
  clear hY
  have hmY := hm.below hb0
  have hTY := hT.below hb0 hT.lt
  have hl1 := (hTY.below (below_drew' (Below.refl Y.heap.size Y)) hTY.lt).lookup_yes key_persons map_known hkey (zero_born _) hin (v := bnV d) (fun v' h => by rw [HD.out.symm]; exact (hK.get hq.1 h).2)
  unfold psV bnV at hl1
  have y8 := hmY.cells.2.2.2.2.2.2.2.2.1
  have yz := hmY.bt_lt
  have x0 := blk_cell 0 hps rfl
  have x1 := blk_cell 1 hps rfl
  have x2 := blk_cell 2 hps rfl
  have x3 := blk_cell 3 hps rfl
  have x4 := blk_cell 4 hps rfl
  have x5 := blk_cell 5 hps rfl
  have xz := lt_of_block hps
  have n0 := blk_cell 0 hbn rfl
  have n1 := blk_cell 1 hbn rfl
  have n2 := blk_cell 2 hbn rfl
  have n3 := blk_cell 3 hbn rfl
  have n4 := blk_cell 4 hbn rfl
  have n5 := blk_cell 5 hbn rfl
  have n6 := blk_cell 6 hbn rfl
  have n7 := blk_cell 7 hbn rfl
  have n8 := blk_cell 8 hbn rfl
  have n9 := blk_cell 9 hbn rfl
  have n10 := blk_cell 10 hbn rfl
  have n11 := blk_cell 11 hbn rfl
  have f0 := blk_free 0 hbn
  have f1 := blk_free 1 hbn
  have f2 := blk_free 2 hbn
  have f3 := blk_free 3 hbn
  have f4 := blk_free 4 hbn
  have f5 := blk_free 5 hbn
  have f6 := blk_free 6 hbn
  have f7 := blk_free 7 hbn
  have f8 := blk_free 8 hbn
  have f9 := blk_free 9 hbn
  have f10 := blk_free 10 hbn
  have f11 := blk_free 11 hbn
  have nz := lt_of_block hbn
  have HBN := Lib.hid hbn
  have HB0 := Lib.hid hb0
  simp only [psCells, bnCells, List.getElem_toArray, List.getElem_cons_zero, List.getElem_cons_succ] at x0 x1 x2 x3 x4 x5 n0 n1 n2 n3 n4 n5 n6 n7 n8 n9 n10 n11
  clear hm hT hK hin hv hvv hd hps hbn hb0 hmY hTY hkey
  go_enter Tryz.func82, Tryz.ntmps82
  go_upto_region 1 with (fail)
  rw [show (w.alloc (.cells #[.int .i64 (pAt q 0), .int .i64 (pAt q 1), .int .i64 (pAt q 2), .int .i64 (pAt q 3), .int .i64 (pAt q 4), .int .i64 (pAt q 5)] 109)).alloc (.cells #[.int .i64 0, .int .i64 0, .int .i64 0, .int .i64 0, .int .i64 0, .int .i64 0, .int .i64 0, .int .i64 0, .int .i64 0, .int .i64 0, .int .i64 0, .int .i64 0] 154) = Y from HY.out.symm]
  (focus go_region)
  obtain ⟨Y1, hY1⟩ : ∃ Y1 : World, Y1 = (setBn Y (w.heap.size + 1) d).drew := ⟨_, rfl⟩
  have hb1 : Y1.heap[w.heap.size + 1]? = some (.cells (bnCells d) 154 (0, 0)) := by rw [hY1, drewP_heap]; exact setBn_blk HBN.out
  have HB1 := Lib.hid (show Below w.heap.size w Y1 from by rw [hY1]; exact below_drew' (setBn_below HB0.out (by omega)))
  unfold setBn at hY1
  rw [← hY1]
  clear hY1 n0 n1 n2 n3 n4 n5 n6 n7 n8 n9 n10 n11 f0 f1 f2 f3 f4 f5 f6 f7 f8 f9 f10 f11 x0 x1 x2 x3 x4 x5 xz nz hl1 y8 yz
  have n0 := blk_cell 0 hb1 rfl
  have n1 := blk_cell 1 hb1 rfl
  have n2 := blk_cell 2 hb1 rfl
  have n3 := blk_cell 3 hb1 rfl
  have n4 := blk_cell 4 hb1 rfl
  have n5 := blk_cell 5 hb1 rfl
  have n6 := blk_cell 6 hb1 rfl
  have n7 := blk_cell 7 hb1 rfl
  have n8 := blk_cell 8 hb1 rfl
  have n9 := blk_cell 9 hb1 rfl
  have n10 := blk_cell 10 hb1 rfl
  have n11 := blk_cell 11 hb1 rfl
  have f0 := blk_free 0 hb1
  have f1 := blk_free 1 hb1
  have f2 := blk_free 2 hb1
  have f3 := blk_free 3 hb1
  have f4 := blk_free 4 hb1
  have f5 := blk_free 5 hb1
  have f6 := blk_free 6 hb1
  have f7 := blk_free 7 hb1
  have f8 := blk_free 8 hb1
  have f9 := blk_free 9 hb1
  have f10 := blk_free 10 hb1
  have f11 := blk_free 11 hb1
  have nz := lt_of_block hb1
  simp only [bnCells, List.getElem_toArray, List.getElem_cons_zero, List.getElem_cons_succ] at n0 n1 n2 n3 n4 n5 n6 n7 n8 n9 n10 n11
  go_wp2
  obtain ⟨Y2, hY2⟩ : ∃ Y2 : World, Y2 = setBn Y1 (w.heap.size + 1) d := ⟨_, rfl⟩
  have hb2 : Y2.heap[w.heap.size + 1]? = some (.cells (bnCells d) 154 (0, 0)) := by rw [hY2]; exact setBn_blk hb1
  have HB2 := Lib.hid (show Below w.heap.size w Y2 from by rw [hY2]; exact setBn_below HB1.out (by omega))
  unfold setBn at hY2
  rw [← hY2]
  clear hY2 n0 n1 n2 n3 n4 n5 n6 n7 n8 n9 n10 n11 f0 f1 f2 f3 f4 f5 f6 f7 f8 f9 f10 f11 hb1
  have n0 := blk_cell 0 hb2 rfl
  have n1 := blk_cell 1 hb2 rfl
  have n2 := blk_cell 2 hb2 rfl
  have n3 := blk_cell 3 hb2 rfl
  have n4 := blk_cell 4 hb2 rfl
  have n5 := blk_cell 5 hb2 rfl
  have n6 := blk_cell 6 hb2 rfl
  have n7 := blk_cell 7 hb2 rfl
  have n8 := blk_cell 8 hb2 rfl
  have n9 := blk_cell 9 hb2 rfl
  have n10 := blk_cell 10 hb2 rfl
  have n11 := blk_cell 11 hb2 rfl
  simp only [bnCells, List.getElem_toArray, List.getElem_cons_zero, List.getElem_cons_succ] at n0 n1 n2 n3 n4 n5 n6 n7 n8 n9 n10 n11
  refine bodyPost_ret (v := .tuple #[bnV d, .bool true]) ?_ rfl ⟨rfl, HSO.out, HB2.out⟩
  rw [results_cell_tmp rfl]
  go_simp
attribute [local go_sem] fold_max fold_min
def startL (j : Nat) : List (Int × Int) := (List.range 6).map fun i => if i < j then ((0, 199) : Int × Int) else sp0
theorem startL_next {j : Nat} (hj : j < 6) : (startL j).set j (0, 199) = startL (j + 1) := by
  obtain rfl | rfl | rfl | rfl | rfl | rfl : j = 0 ∨ j = 1 ∨ j = 2 ∨ j = 3 ∨ j = 4 ∨ j = 5 := by omega
  all_goals rfl
theorem startL_len (j : Nat) : (startL j).length = 6 := by simp [startL]
theorem startL_all : startL 6 = allYears := rfl
theorem startL_zero : bnCells [] = bnCells (startL 0) := rfl
theorem bn_index (L : List (Int × Int)) {n : Nat} (hn : n < 6) (w : World) : (Instr.index 154 (bnV L) (.int .i64 (n : Int))).run Tryz.prog w = .ok (.agg #[.int .i64 (bAt L n).1, .int .i64 (bAt L n).2]) w := by
  obtain rfl | rfl | rfl | rfl | rfl | rfl : n = 0 ∨ n = 1 ∨ n = 2 ∨ n = 3 ∨ n = 4 ∨ n = 5 := by omega
  all_goals kernel_rfl
/-- The numbers of a span in memory, and how many years six spans are. -/
def cellI (W : World) (b j : Nat) : Int := match W.cell? ⟨b, j, none⟩ with | some (.int _ n) => n | _ => 0
def widW (W : World) (b : Nat) : Int := (cellI W b 1 - cellI W b 0) + (cellI W b 3 - cellI W b 2) + (cellI W b 5 - cellI W b 4) + (cellI W b 7 - cellI W b 6) + (cellI W b 9 - cellI W b 8) + (cellI W b 11 - cellI W b 10)
theorem cellI_is {W : World} {b j : Nat} {n : Int} (h : W.cell? ⟨b, j, none⟩ = some (.int .i64 n)) : cellI W b j = n := by unfold cellI; rw [h]
theorem widW_is {W : World} {b : Nat} {L : List (Int × Int)} {ty : TypeId} (h : W.heap[b]? = some (.cells (bnCells L) ty (0, 0))) : widW W b = wid L := by
  unfold widW wid
  rw [cellI_is (blk_cell 0 h rfl), cellI_is (blk_cell 1 h rfl), cellI_is (blk_cell 2 h rfl), cellI_is (blk_cell 3 h rfl), cellI_is (blk_cell 4 h rfl), cellI_is (blk_cell 5 h rfl), cellI_is (blk_cell 6 h rfl), cellI_is (blk_cell 7 h rfl), cellI_is (blk_cell 8 h rfl), cellI_is (blk_cell 9 h rfl), cellI_is (blk_cell 10 h rfl), cellI_is (blk_cell 11 h rfl)]
set_option maxRecDepth 100000 in
set_option maxHeartbeats 4000000 in
theorem PYears_new (a1 a2 a3 a4 : Option Addr) (k1 k2 k3 k4 : Nat) (t : PeW) (bt bc bk but : Nat) (q : List Int) (w : World) (hm : TownW w bt bc bk a1 a2 a3 a4 k1 k2 k3 k4 t but) (hv : PeOk t) (hq : PsOk q) {T : List (Value × Value)} (hT : MapV w Tryz.prog 109 bk T) (hK : KnoOk t T) (hnew : ∀ p ∈ T, p.1 ≠ psV q) :
    Calls Tryz.prog 82 #[.pointer (some ⟨bt, 0, none⟩), psV q] w fun e w' => ∃ L, e = .returned (.tuple #[bnV L, .bool (yearsN t q).isSome]) ∧ (∀ b, yearsN t q = some b → L = b) ∧ Lrn bc bk w w' ∧ TownW w' bt bc bk a1 a2 a3 a4 k1 k2 k3 k4 t but := by
  obtain ⟨kl, hkey⟩ := key_ps hq
  have hnm := hv.nm
  have hlm := hm.town.okm.len
  obtain ⟨Y, hY⟩ : ∃ Y : World, Y = (w.alloc (.cells (psCells q) 109)).alloc (.cells (bnCells []) 154) := ⟨_, rfl⟩
  have hps : Y.heap[w.heap.size]? = some (.cells (psCells q) 109 (0, 0)) := by rw [hY]; exact (heap_alloc_old _ _ (by simp)).trans (alloc_atE _ _ rfl)
  have hbn : Y.heap[w.heap.size + 1]? = some (.cells (bnCells []) 154 (0, 0)) := by rw [hY]; exact alloc_atE _ _ (by simp)
  have hb0 : Below w.heap.size w Y := by rw [hY]; exact ((Below.refl _ _).alloc (Nat.le_refl _) _).alloc (by simp) _
  have HY := Lib.hid hY
  clear hY
  have hmY := hm.below hb0
  have hTY := hT.below hb0 hT.lt
  have hl1 := (hTY.below (below_drew' (Below.refl Y.heap.size Y)) hTY.lt).lookup_no key_persons map_known hkey (zero_born _) hnew
  unfold psV bnV at hl1
  have y8 := hmY.cells.2.2.2.2.2.2.2.2.1
  have yz := hmY.bt_lt
  have x0 := blk_cell 0 hps rfl
  have x1 := blk_cell 1 hps rfl
  have x2 := blk_cell 2 hps rfl
  have x3 := blk_cell 3 hps rfl
  have x4 := blk_cell 4 hps rfl
  have x5 := blk_cell 5 hps rfl
  have xz := lt_of_block hps
  have n0 := blk_cell 0 hbn rfl
  have n1 := blk_cell 1 hbn rfl
  have n2 := blk_cell 2 hbn rfl
  have n3 := blk_cell 3 hbn rfl
  have n4 := blk_cell 4 hbn rfl
  have n5 := blk_cell 5 hbn rfl
  have n6 := blk_cell 6 hbn rfl
  have n7 := blk_cell 7 hbn rfl
  have n8 := blk_cell 8 hbn rfl
  have n9 := blk_cell 9 hbn rfl
  have n10 := blk_cell 10 hbn rfl
  have n11 := blk_cell 11 hbn rfl
  have f0 := blk_free 0 hbn
  have f1 := blk_free 1 hbn
  have f2 := blk_free 2 hbn
  have f3 := blk_free 3 hbn
  have f4 := blk_free 4 hbn
  have f5 := blk_free 5 hbn
  have f6 := blk_free 6 hbn
  have f7 := blk_free 7 hbn
  have f8 := blk_free 8 hbn
  have f9 := blk_free 9 hbn
  have f10 := blk_free 10 hbn
  have f11 := blk_free 11 hbn
  have nz := lt_of_block hbn
  have HBN := Lib.hid hbn
  have HB0 := Lib.hid hb0
  have HPS := Lib.hid hps
  have HW := Lib.hid (fun (V : World) (h : Below w.heap.size w V) => hm.below h)
  have HM := Lib.hid (fun k (hk : k < t.ments.length) => (show -1 ≤ (mentAt t k).par ∧ (mentAt t k).par < t.ments.length ∧ 0 ≤ (mentAt t k).lo ∧ (mentAt t k).lo ≤ (mentAt t k).hi ∧ (mentAt t k).hi ≤ 199 ∧ mentAt t k = t.ments[k] from by
    have := hv.ment k hk
    rw [mentAt_is hk]
    exact ⟨by omega, by omega, by omega, by omega, by omega, rfl⟩))
  have HPQ := Lib.hid (fun n => hq.at n)
  have HYS := Lib.hid (year_start hv hq)
  have HQ := Lib.hid hq
  have HMW := Lib.hid hm
  have HTK := Lib.hid (⟨hT, hK, hnew⟩ : MapV w Tryz.prog 109 bk T ∧ KnoOk t T ∧ ∀ p ∈ T, p.1 ≠ psV q)
  have HKEY := Lib.hid hkey
  simp only [psCells, bnCells, List.getElem_toArray, List.getElem_cons_zero, List.getElem_cons_succ] at x0 x1 x2 x3 x4 x5 n0 n1 n2 n3 n4 n5 n6 n7 n8 n9 n10 n11
  clear hm hT hK hnew hps hbn hb0 hmY hTY hkey hv hq
  go_enter Tryz.func82, Tryz.ntmps82
  go_upto_region 1 with (fail)
  rw [show (w.alloc (.cells #[.int .i64 (pAt q 0), .int .i64 (pAt q 1), .int .i64 (pAt q 2), .int .i64 (pAt q 3), .int .i64 (pAt q 4), .int .i64 (pAt q 5)] 109)).alloc (.cells #[.int .i64 0, .int .i64 0, .int .i64 0, .int .i64 0, .int .i64 0, .int .i64 0, .int .i64 0, .int .i64 0, .int .i64 0, .int .i64 0, .int .i64 0, .int .i64 0] 154) = Y from HY.out.symm]
  go_cut [5] from 16 to 24 (fun v Y1 => v = .bool false ∧ Y1.heap[w.heap.size + 1]? = some (.cells (bnCells (startL 0)) 154 (0, 0)) ∧ Y1.heap[w.heap.size]? = some (.cells (psCells q) 109 (0, 0)) ∧ Below w.heap.size w Y1)
  case first =>
    (focus go_region)
    obtain ⟨Y1, hY1⟩ : ∃ Y1 : World, Y1 = (setBn Y (w.heap.size + 1) []).drew := ⟨_, rfl⟩
    have hb1 : Y1.heap[w.heap.size + 1]? = some (.cells (bnCells (startL 0)) 154 (0, 0)) := by rw [hY1, drewP_heap, ← startL_zero]; exact setBn_blk HBN.out
    have hp1 : Y1.heap[w.heap.size]? = some (.cells (psCells q) 109 (0, 0)) := by rw [hY1, drewP_heap, setBn_other (by omega)]; exact HPS.out
    have hB1 : Below w.heap.size w Y1 := by rw [hY1]; exact below_drew' (setBn_below HB0.out (by omega))
    unfold setBn at hY1
    rw [← hY1]
    clear hY1 n0 n1 n2 n3 n4 n5 n6 n7 n8 n9 n10 n11 f0 f1 f2 f3 f4 f5 f6 f7 f8 f9 f10 f11 x0 x1 x2 x3 x4 x5 xz nz hl1 y8 yz
    go_wp2
    go_meet
    case rel => exact ⟨rfl, hb1, hp1, hB1⟩
  case rest =>
  obtain ⟨rfl, hb1, hp1, hB1⟩ := hcut
  rename World => Y1
  clear n0 n1 n2 n3 n4 n5 n6 n7 n8 n9 n10 n11 f0 f1 f2 f3 f4 f5 f6 f7 f8 f9 f10 f11 x0 x1 x2 x3 x4 x5 xz nz hl1 y8 yz
  go_wp2
  go_loopw [27] (fun i wr => ∃ j : Nat, j ≤ 6 ∧ i = .int .i64 (j : Int) ∧ wr.heap[w.heap.size + 1]? = some (.cells (bnCells (startL j)) 154 (0, 0)) ∧ wr.heap[w.heap.size]? = some (.cells (psCells q) 109 (0, 0)) ∧ Below w.heap.size w wr) (fun i _ => 6 - (intOf i).toNat)
  case atStart => exact ⟨0, by omega, rfl, hb1, hp1, hB1⟩
  case round =>
    clear hb1 hp1 hB1
    obtain ⟨j, hj, rfl, hb, hp, hB⟩ := hrel
    by_cases hj6 : j < 6
    · have HS := Lib.hid (bn_set (startL_len j) hb j hj6 (0, 199))
      have HP := Lib.hid hp
      have HBw := Lib.hid hB
      obtain ⟨e0, e1⟩ := bn_cell hb j hj6
      have f0 := blk_free (j * 2) hb
      have f1 := blk_free (j * 2 + 1) hb
      have bz := lt_of_block hb
      have hj6I : (j : Int) < 6 := by omega
      clear hb hp hB
      go_wp2
      go_roundw
      case rel =>
        refine ⟨j + 1, by omega, by go_num, ?_, (setP_other (by omega)).trans ((setP_other (by omega)).trans HP.out), (HBw.out.setCell (by simp) _).setCell (by simp) _⟩
        have := HS.out
        rw [startL_next hj6] at this
        exact this
      case measure => simp [intOf]; omega
    · obtain rfl : j = 6 := by omega
      rw [startL_all] at hb
      have hbz := hB
      have y4 := (HW.out _ hB).cells.2.2.2.2.1
      have yz := (HW.out _ hB).bt_lt
      go_wp2
      clear y4 yz
      go_loopw [40] (fun i wr => ∃ k : Nat, k ≤ t.ments.length ∧ i = .int .i64 (k : Int) ∧ wr.heap[w.heap.size + 1]? = some (.cells (bnCells (bornTo t q k)) 154 (0, 0)) ∧ wr.heap[w.heap.size]? = some (.cells (psCells q) 109 (0, 0)) ∧ Below w.heap.size w wr) (fun i _ => t.ments.length - (intOf i).toNat)
      case atStart => exact ⟨0, by omega, rfl, hb, hp, hB⟩
      case round =>
        rename World => wr2
        clear hb hp hB hbz
        obtain ⟨k, hk, rfl, hb, hp, hB⟩ := hrel
        by_cases hkt : k < t.ments.length
        · have hmr := HW.out _ hB
          obtain ⟨b', off, ea, hb', l0, l1, l2, l3, l4⟩ := hmr.town.ments k hkt
          obtain ⟨-, -, m1, m2, m3, m4⟩ := HM.out k hkt
          rw [← m4] at l0 l1 l2 l3 l4
          have HBT : Hid (bornTo t q (k + 1) = (bornTo t q k).set (pAt q k).toNat (max (bAt (bornTo t q k) (pAt q k).toNat).1 (mentAt t k).lo, min (bAt (bornTo t q k) (pAt q k).toNat).2 (mentAt t k).hi)) := Lib.hid rfl
          have hlen := (born_nar (t := t) (q := q) k).1
          generalize hL' : bornTo t q (k + 1) = L' at HBT
          have HLN := Lib.hid hL'
          clear hL'
          generalize bornTo t q k = L at HBT hb hlen
          generalize (mentAt t k).spell = xs at l0
          generalize (mentAt t k).vill = xv at l1
          generalize (mentAt t k).lo = xl at l2 HBT m1 m2
          generalize (mentAt t k).hi = xh at l3 HBT m2 m3
          generalize (mentAt t k).par = xp at l4
          obtain ⟨n0, hn0⟩ : ∃ n : Nat, pAt q k = (n : Int) := ⟨(pAt q k).toNat, by have := HPQ.out k; omega⟩
          have hn6 : n0 < 6 := by have := HPQ.out k; omega
          rw [hn0, Int.toNat_natCast] at HBT
          obtain ⟨V, hV⟩ : ∃ V : World, V = wr2.alloc (.cells #[.int .i64 xs, .int .i64 xv, .int .i64 xl, .int .i64 xh, .int .i64 xp] 38) := ⟨_, rfl⟩
          have hbV : Below wr2.heap.size wr2 V := by rw [hV]; exact (Below.refl _ _).alloc (Nat.le_refl _) _
          have hcV : V.heap[wr2.heap.size]? = some (.cells #[.int .i64 xs, .int .i64 xv, .int .i64 xl, .int .i64 xh, .int .i64 xp] 38 (0, 0)) := by rw [hV]; exact alloc_atE _ _ rfl
          have HV := Lib.hid hV
          have hpV := (hbV.block _ (lt_of_block hp)).trans hp
          have hlV := (hbV.block _ (lt_of_block hb)).trans hb
          have HBV := Lib.hid (hB.trans (hbV.mono hB.size))
          have hzw := hB.size
          have hzp := lt_of_block hb
          clear hV hbV hB hp hb
          go_upto_region 12 with (fail)
          rw [show wr2.alloc (.cells #[.int .i64 xs, .int .i64 xv, .int .i64 xl, .int .i64 xh, .int .i64 xp] 38) = V from HV.out.symm]
          clear l0 l1 l2 l3 l4 ea hb' hmr m4
          have p0 := ps_cell hpV k (by omega)
          have pz := lt_of_block hpV
          rw [hn0] at p0
          obtain ⟨s0, s1⟩ := bn_cell hlV n0 hn6
          have sz := lt_of_block hlV
          have hk6 : (k : Int) < 6 := by omega
          have hn6I : (n0 : Int) < 6 := by omega
          generalize hss : bAt L n0 = ss at s0 s1 HBT
          obtain ⟨sl, sh⟩ := ss
          simp only at s0 s1 HBT
          have HPV := Lib.hid hpV
          have HLV := Lib.hid hlV
          have HCV := Lib.hid hcV
          clear hpV hlV hcV hss
          go_upto_region 13 with (fail)
          obtain ⟨U, hU⟩ : ∃ U : World, U = V.alloc (.cells #[.int .i64 sl, .int .i64 sh] 36) := ⟨_, rfl⟩
          rw [← hU]
          have hbU : Below V.heap.size V U := by rw [hU]; exact (Below.refl _ _).alloc (Nat.le_refl _) _
          have hcU : U.heap[V.heap.size]? = some (.cells #[.int .i64 sl, .int .i64 sh] 36 (0, 0)) := by rw [hU]; exact alloc_atE _ _ rfl
          have hpU := (hbU.block _ (lt_of_block HPV.out)).trans HPV.out
          have hlU := (hbU.block _ (lt_of_block HLV.out)).trans HLV.out
          have hmU := (hbU.block _ (lt_of_block HCV.out)).trans HCV.out
          have HBU := Lib.hid (HBV.out.trans (hbU.mono HBV.out.size))
          clear hU hbU p0 pz s0 s1 sz
          have p0 := ps_cell hpU k (by omega)
          have pz := lt_of_block hpU
          rw [hn0] at p0
          have q0 := blk_cell 0 hcU rfl
          have q1 := blk_cell 1 hcU rfl
          have qz := lt_of_block hcU
          have m2' := blk_cell 2 hmU rfl
          have m3' := blk_cell 3 hmU rfl
          have mz := lt_of_block hmU
          obtain ⟨s0, s1⟩ := bn_cell hlU n0 hn6
          have f0 := blk_free (n0 * 2) hlU
          have f1 := blk_free (n0 * 2 + 1) hlU
          have sz := lt_of_block hlU
          simp only [List.getElem_toArray, List.getElem_cons_zero, List.getElem_cons_succ] at q0 q1 m2' m3'
          have HPU := Lib.hid hpU
          have HLU := Lib.hid hlU
          clear hpU hlU hcU hmU hn0
          (focus go_region)
          all_goals
            clear p0 pz q0 q1 qz m2' m3' mz s0 s1 f0 f1 sz
            go_wp2
            go_roundw
            case rel =>
              refine ⟨k + 1, by omega, by go_num, ?_, (setP_other (by omega)).trans ((setP_other (by omega)).trans HPU.out), below_drew' ((HBU.out.setCell (by simp) _).setCell (by simp) _)⟩
              have := bn_set hlen HLU.out n0 hn6 (max sl xl, min sh xh)
              rw [← HBT.out, ← HLN.out] at this
              exact this
            case measure => simp [intOf]; omega
        · obtain rfl : k = t.ments.length := by omega
          have HYR := HYS
          generalize bornTo t q t.ments.length = L0 at hb HYR
          have hx : (2 * (widW wr2 (w.heap.size + 1) + 1).toNat + 1) = (2 * (widW wr2 (w.heap.size + 1) + 1).toNat + 1) := rfl
          go_wp2
          go_loopw [11] (fun m wr => ∃ (mb : Bool) (L : List (Int × Int)), m = .bool mb ∧ Hid (YearR t q L mb) ∧ wr.heap[w.heap.size + 1]? = some (.cells (bnCells L) 154 (0, 0)) ∧ wr.heap[w.heap.size]? = some (.cells (psCells q) 109 (0, 0)) ∧ Below w.heap.size w wr) (fun m wr => 2 * (widW wr (w.heap.size + 1) + 1).toNat + (match m with | .bool true => 1 | _ => 0))
          case atStart => exact ⟨true, L0, rfl, HYR, hb, hp, hB⟩
          case round =>
            rename World => wr3
            clear hb hp hB hx
            obtain ⟨mb, L, rfl, HR, hb, hp, hB⟩ := hrel
            cases mb
            · obtain ⟨hys, -⟩ := HR.out.stop rfl
              have HYS2 := Lib.hid hys
              have hT3 := HTK.out.1.below hB HTK.out.1.lt
              have hm3 := HW.out _ hB
              have HM3 := Lib.hid hm3
              have HB3 := Lib.hid hB
              obtain ⟨V2, hrun, hMV2, hg2, hs2⟩ := (hT3.same (w' := wr3.drew) rfl).update key_persons map_known (by have hmx : maxLen = 9223372036854775807 := rfl; have := HTK.out.2.1.len; omega) HKEY.out HTK.out.2.2 (val := bnV L)
              have HKO := HTK.out.2.1.more HQ.out (by rw [hys]; rfl) HTK.out.2.2
              rw [hys, Option.getD_some] at HKO
              replace HKO := Lib.hid HKO
              have HMV2 := Lib.hid hMV2
              have HG2 := Lib.hid (grown_of_drew hg2)
              have HBN3 := Lib.hid hb
              have y8 := hm3.cells.2.2.2.2.2.2.2.2.1
              have yz := hm3.bt_lt
              have x0 := blk_cell 0 hp rfl
              have x1 := blk_cell 1 hp rfl
              have x2 := blk_cell 2 hp rfl
              have x3 := blk_cell 3 hp rfl
              have x4 := blk_cell 4 hp rfl
              have x5 := blk_cell 5 hp rfl
              have xz := lt_of_block hp
              have n0 := blk_cell 0 hb rfl
              have n1 := blk_cell 1 hb rfl
              have n2 := blk_cell 2 hb rfl
              have n3 := blk_cell 3 hb rfl
              have n4 := blk_cell 4 hb rfl
              have n5 := blk_cell 5 hb rfl
              have n6 := blk_cell 6 hb rfl
              have n7 := blk_cell 7 hb rfl
              have n8 := blk_cell 8 hb rfl
              have n9 := blk_cell 9 hb rfl
              have n10 := blk_cell 10 hb rfl
              have n11 := blk_cell 11 hb rfl
              have nz := lt_of_block hb
              simp only [psCells, bnCells, List.getElem_toArray, List.getElem_cons_zero, List.getElem_cons_succ] at x0 x1 x2 x3 x4 x5 n0 n1 n2 n3 n4 n5 n6 n7 n8 n9 n10 n11
              unfold psV bnV at hrun
              clear hys hT3 hMV2 hg2 hb hp hB hm3
              go_upto_region 31 with (fail)
              (focus go_region)
              clear n0 n1 n2 n3 n4 n5 n6 n7 n8 n9 n10 n11 x0 x1 x2 x3 x4 x5 xz nz y8 yz hrun
              have hTW2 := HM3.out.learn_known HG2.out ⟨_, HMV2.out, HKO.out⟩
              have hL2 := Lrn.of_known (bc := bc) HG2.out
              have hb2 := hL2.cellsB HM3.out HBN3.out
              have HTW2 := Lib.hid hTW2
              have HLW := Lib.hid ((Lrn.of_below (bc := bc) (bk := bk) HB3.out).trans hL2)
              have n0 := blk_cell 0 hb2 rfl
              have n1 := blk_cell 1 hb2 rfl
              have n2 := blk_cell 2 hb2 rfl
              have n3 := blk_cell 3 hb2 rfl
              have n4 := blk_cell 4 hb2 rfl
              have n5 := blk_cell 5 hb2 rfl
              have n6 := blk_cell 6 hb2 rfl
              have n7 := blk_cell 7 hb2 rfl
              have n8 := blk_cell 8 hb2 rfl
              have n9 := blk_cell 9 hb2 rfl
              have n10 := blk_cell 10 hb2 rfl
              have n11 := blk_cell 11 hb2 rfl
              have f0 := blk_free 0 hb2
              have f1 := blk_free 1 hb2
              have f2 := blk_free 2 hb2
              have f3 := blk_free 3 hb2
              have f4 := blk_free 4 hb2
              have f5 := blk_free 5 hb2
              have f6 := blk_free 6 hb2
              have f7 := blk_free 7 hb2
              have f8 := blk_free 8 hb2
              have f9 := blk_free 9 hb2
              have f10 := blk_free 10 hb2
              have f11 := blk_free 11 hb2
              have nz := lt_of_block hb2
              simp only [bnCells, List.getElem_toArray, List.getElem_cons_zero, List.getElem_cons_succ] at n0 n1 n2 n3 n4 n5 n6 n7 n8 n9 n10 n11
              clear hTW2 hL2
              have HB2 := Lib.hid hb2
              go_wp2
              obtain ⟨Y2, hY2⟩ : ∃ Y2 : World, Y2 = setBn V2 (w.heap.size + 1) L := ⟨_, rfl⟩
              have hb3 : Y2.heap[w.heap.size + 1]? = some (.cells (bnCells L) 154 (0, 0)) := by rw [hY2]; exact setBn_blk HB2.out
              have hLY : Lrn bc bk w Y2 := by
                have hb4 : Below w.heap.size V2 Y2 := by rw [hY2]; exact setBn_below ⟨rfl, rfl, rfl, Nat.le_refl _, fun _ _ => rfl⟩ (by omega)
                have h1 := HLW.out
                exact ⟨hb4.os.trans h1.os, hb4.tape.trans h1.tape, hb4.output.trans h1.output, Nat.le_trans h1.size hb4.size, fun b g1 g2 g3 => (hb4.block b g1).trans (h1.block b g1 g2 g3)⟩
              have hTY : TownW Y2 bt bc bk a1 a2 a3 a4 k1 k2 k3 k4 t but := by
                refine HMW.out.learn hLY ?_ ?_
                · obtain ⟨T2, hT2, hM2⟩ := HTW2.out.common
                  exact ⟨T2, hT2.same (by rw [hY2]; exact setBn_other (fun e => (HTW2.out.not_map HB2.out).1 e.symm)), hM2⟩
                · obtain ⟨T2, hT2, hM2⟩ := HTW2.out.known
                  exact ⟨T2, hT2.same (by rw [hY2]; exact setBn_other (fun e => (HTW2.out.not_map HB2.out).2 e.symm)), hM2⟩
              unfold setBn at hY2
              rw [← hY2]
              clear hY2 n0 n1 n2 n3 n4 n5 n6 n7 n8 n9 n10 n11 f0 f1 f2 f3 f4 f5 f6 f7 f8 f9 f10 f11 hb2
              have n0 := blk_cell 0 hb3 rfl
              have n1 := blk_cell 1 hb3 rfl
              have n2 := blk_cell 2 hb3 rfl
              have n3 := blk_cell 3 hb3 rfl
              have n4 := blk_cell 4 hb3 rfl
              have n5 := blk_cell 5 hb3 rfl
              have n6 := blk_cell 6 hb3 rfl
              have n7 := blk_cell 7 hb3 rfl
              have n8 := blk_cell 8 hb3 rfl
              have n9 := blk_cell 9 hb3 rfl
              have n10 := blk_cell 10 hb3 rfl
              have n11 := blk_cell 11 hb3 rfl
              simp only [bnCells, List.getElem_toArray, List.getElem_cons_zero, List.getElem_cons_succ] at n0 n1 n2 n3 n4 n5 n6 n7 n8 n9 n10 n11
              refine bodyPost_ret (v := .tuple #[bnV L, .bool true]) ?_ rfl ⟨L, by rw [HYS2.out]; rfl, fun b e => by rw [HYS2.out] at e; cases e; rfl, hLY, hTY⟩
              rw [results_cell_tmp rfl]
              go_simp
            · have hlen := HR.out.len
              have hbd := HR.out.bnd
              have HW0 := Lib.hid (widW_is hb)
              have HY0 := Lib.hid (year_zero (t := t) (q := q) hlen hbd)
              have y4 := (HW.out _ hB).cells.2.2.2.2.1
              have yz := (HW.out _ hB).bt_lt
              go_upto_region 19 with (fail)
              go_wp2
              go_loopw [11, 76] (fun m i wr => ∃ k : Nat, k ≤ t.ments.length ∧ i = .int .i64 (k : Int) ∧ m = .bool (yearTo t q L k).2 ∧ Hid (YearI t q L k) ∧ wr.heap[w.heap.size + 1]? = some (.cells (bnCells (yearTo t q L k).1) 154 (0, 0)) ∧ wr.heap[w.heap.size]? = some (.cells (psCells q) 109 (0, 0)) ∧ Below w.heap.size w wr) (fun _ i _ => t.ments.length - (intOf i).toNat)
              case atStart => exact ⟨0, by omega, rfl, rfl, HY0, hb, hp, hB⟩
              case round =>
                rename World => wr4
                clear hb hp hB y4 yz
                obtain ⟨k, hk, rfl, rfl, HI, hb, hp, hB⟩ := hrel
                by_cases hkt : k < t.ments.length
                · have hmr := HW.out _ hB
                  obtain ⟨b', off, ea, hb', l0, l1, l2, l3, l4⟩ := hmr.town.ments k hkt
                  obtain ⟨pa1, pa2, -, -, -, m4⟩ := HM.out k hkt
                  rw [← m4] at l0 l1 l2 l3 l4
                  have hL := HI.out.len
                  have hB6 : Bnd 285 (yearTo t q L k).1 := fun i hi => by have := HI.out.bnd i hi; omega
                  have HSK := Lib.hid (fun h => HI.out.skip (t := t) (k := k) h)
                  have HSK2 := Lib.hid (fun h => yearTo_skip (t := t) (q := q) (L := L) (k := k) h)
                  generalize (mentAt t k).spell = xs at l0
                  generalize (mentAt t k).vill = xv at l1
                  generalize (mentAt t k).lo = xl at l2
                  generalize (mentAt t k).hi = xh at l3
                  generalize hxp : (mentAt t k).par = xp at l4 pa1 pa2 HSK HSK2
                  have HXP := Lib.hid hxp
                  clear hxp
                  generalize hmm : yearTo t q L k = M at hb hL hB6 HSK2
                  have HMM := Lib.hid hmm
                  obtain ⟨V, hV⟩ : ∃ V : World, V = wr4.alloc (.cells #[.int .i64 xs, .int .i64 xv, .int .i64 xl, .int .i64 xh, .int .i64 xp] 38) := ⟨_, rfl⟩
                  have hbV : Below wr4.heap.size wr4 V := by rw [hV]; exact (Below.refl _ _).alloc (Nat.le_refl _) _
                  have hcV : V.heap[wr4.heap.size]? = some (.cells #[.int .i64 xs, .int .i64 xv, .int .i64 xl, .int .i64 xh, .int .i64 xp] 38 (0, 0)) := by rw [hV]; exact alloc_atE _ _ rfl
                  have HV := Lib.hid hV
                  have hpV := (hbV.block _ (lt_of_block hp)).trans hp
                  have hlV := (hbV.block _ (lt_of_block hb)).trans hb
                  have HBV := Lib.hid (hB.trans (hbV.mono hB.size))
                  have hzw := hB.size
                  have hzp := lt_of_block hb
                  clear hV hbV hB hp hb hmm
                  go_upto_region 22 with (fail)
                  rw [show wr4.alloc (.cells #[.int .i64 xs, .int .i64 xv, .int .i64 xl, .int .i64 xh, .int .i64 xp] 38) = V from HV.out.symm]
                  clear l0 l1 l2 l3 l4 ea hb' hmr m4
                  have v4 := blk_cell 4 hcV rfl
                  have vz := lt_of_block hcV
                  simp only [List.getElem_toArray, List.getElem_cons_zero, List.getElem_cons_succ] at v4
                  by_cases hx1 : xp = -1
                  · have e1 : (xp != -1) = false := by simp [hx1]
                    have HA := Lib.hid (HSK.out hx1)
                    have HA2 := Lib.hid (HSK2.out hx1)
                    have HPV := Lib.hid hpV
                    have HLV := Lib.hid hlV
                    clear hx1 hcV hpV hlV
                    go_quiet (fail)
                    have hbd := Lib.hid (below_drewN' HBV.out nq)
                    clear v4 vz
                    go_wp2
                    go_roundw
                    case rel => exact ⟨k + 1, by omega, by go_num, by rw [HA2.out], HA, by rw [HA2.out]; exact HLV.out, HPV.out, hbd.out⟩
                    case measure => simp [intOf]; omega
                  · have e1 : (xp != -1) = true := by simpa using hx1
                    obtain ⟨np, rfl⟩ : ∃ n : Nat, xp = (n : Int) := ⟨xp.toNat, by omega⟩
                    obtain ⟨n0, hn0⟩ : ∃ n : Nat, pAt q k = (n : Int) := ⟨(pAt q k).toNat, by have := HPQ.out k; omega⟩
                    obtain ⟨pp, hpp⟩ : ∃ n : Nat, pAt q np = (n : Int) := ⟨(pAt q np).toNat, by have := HPQ.out np; omega⟩
                    have hn6 : n0 < 6 := by have := HPQ.out k; omega
                    have hp6 : pp < 6 := by have := HPQ.out np; omega
                    have HA := Lib.hid (HI.out.own HXP.out hn0 hpp hn6 hp6)
                    have HA2 := Lib.hid (yearTo_own (L := L) HXP.out hn0 hpp)
                    rw [HMM.out] at HA2
                    have p0 := ps_cell hpV k (by omega)
                    have p1 := ps_cell hpV np (by omega)
                    have pz := lt_of_block hpV
                    rw [hn0] at p0
                    rw [hpp] at p1
                    have hk6 : (k : Int) < 6 := by omega
                    have hnp6 : (np : Int) < 6 := by omega
                    have HPV := Lib.hid hpV
                    have FW := Lib.hid (fun (W : World) (h : W.heap[w.heap.size + 1]? = some (.cells (bnCells M.1) 154 (0, 0))) => PFewer_any (w.heap.size + 1) pp n0 M.1 W h hL hB6 hp6 hn6)
                    have HLV := Lib.hid hlV
                    have HCV := Lib.hid hcV
                    have hg0 : V.drew.heap[w.heap.size + 1]? = some (.cells (bnCells M.1) 154 (0, 0)) := hlV
                    have KE := Lib.hid (fun (W : World) (h : V.grownBy W (some (w.heap.size + 1))) => (show W.cell? ⟨wr4.heap.size, 4, none⟩ = some (.int .i64 (np : Int)) ∧ W.cell? ⟨w.heap.size, k, none⟩ = some (.int .i64 (n0 : Int)) ∧ W.cell? ⟨w.heap.size, np, none⟩ = some (.int .i64 (pp : Int)) ∧ wr4.heap.size < W.heap.size ∧ w.heap.size < W.heap.size from by
                      have hc1 := (h.block _ (lt_of_block HCV.out) (fun e => by have := Option.some.inj e; omega)).trans HCV.out
                      have hc2 := (h.block _ (lt_of_block HPV.out) (fun e => by have := Option.some.inj e; omega)).trans HPV.out
                      exact ⟨blk_cell 4 hc1 rfl, by rw [← hn0]; exact ps_cell hc2 k (by omega), by rw [← hpp]; exact ps_cell hc2 np (by omega), lt_of_block hc1, lt_of_block hc2⟩))
                    have hgr0 : V.grownBy V.drew (some (w.heap.size + 1)) := by
                      have hd := below_drew' (Below.refl V.heap.size V)
                      exact ⟨hd.os, hd.tape, hd.output, hd.size, fun i hi _ => hd.block i hi⟩
                    clear hcV hpV hlV hn0 hpp hx1 v4 vz p0 p1 pz
                    (focus go_region_held3 (fun W => W.cell? ⟨wr4.heap.size, 4, none⟩ = some (.int .i64 (np : Int)) ∧ W.cell? ⟨w.heap.size, k, none⟩ = some (.int .i64 (n0 : Int)) ∧ W.cell? ⟨w.heap.size, np, none⟩ = some (.int .i64 (pp : Int)) ∧ wr4.heap.size < W.heap.size ∧ w.heap.size < W.heap.size) (first | exact KE.out _ hgr1 | exact KE.out _ hgr0) (first
                      | (go_at_call 125; refine (FW.out _ hg0).mono ?_; rintro e w5 ⟨rfl, hb5, hg5⟩; have hgr1 := hgr0.andThen hg5 (fun j e => .inr (by simpa using e)); dsimp only)))
                    have HP5 := Lib.hid ((hg5.block _ (by have := lt_of_block HPV.out; exact this) (fun e => by have := Option.some.inj e; omega)).trans HPV.out : w5.heap[w.heap.size]? = some (.cells (psCells q) 109 (0, 0)))
                    have HB5 := Lib.hid hb5
                    have HBW := Lib.hid (show Below w.heap.size w w5 from ⟨hgr1.os.trans HBV.out.os, hgr1.tape.trans HBV.out.tape, hgr1.output.trans HBV.out.output, Nat.le_trans HBV.out.size hgr1.size, fun i hi => (hgr1.block i (Nat.lt_of_lt_of_le hi HBV.out.size) (fun e => by have := Option.some.inj e; omega)).trans (HBV.out.block i hi)⟩)
                    generalize hfw : fewB M.1 pp n0 = N at HA2 HB5
                    obtain ⟨N1, b2⟩ := N
                    simp only at HA2 HB5
                    clear hb5 hg5 hg0 hgr0 hgr1 KE FW hfw
                    cases b2
                    · go_wp2
                      go_roundw
                      case rel => exact ⟨k + 1, by omega, by go_num, by rw [HA2.out]; simp, HA, by rw [HA2.out]; exact HB5.out, HP5.out, HBW.out⟩
                      case measure => simp [intOf]; omega
                    · go_wp2
                      go_roundw
                      case rel => exact ⟨k + 1, by omega, by go_num, by rw [HA2.out]; simp, HA, by rw [HA2.out]; exact HB5.out, HP5.out, HBW.out⟩
                      case measure => simp [intOf]; omega
                · obtain rfl : k = t.ments.length := by omega
                  have HNX := Lib.hid (fun h => HR.out.next HI.out h)
                  have HNO := Lib.hid (fun h => HR.out.none h)
                  have HEF := Lib.hid (empty_false HI.out.len)
                  generalize yearTo t q L t.ments.length = M at hb HNX HNO HEF ⊢
                  have n0 := blk_cell 0 hb rfl
                  have n1 := blk_cell 1 hb rfl
                  have n2 := blk_cell 2 hb rfl
                  have n3 := blk_cell 3 hb rfl
                  have n4 := blk_cell 4 hb rfl
                  have n5 := blk_cell 5 hb rfl
                  have n6 := blk_cell 6 hb rfl
                  have n7 := blk_cell 7 hb rfl
                  have n8 := blk_cell 8 hb rfl
                  have n9 := blk_cell 9 hb rfl
                  have n10 := blk_cell 10 hb rfl
                  have n11 := blk_cell 11 hb rfl
                  have nz := lt_of_block hb
                  have HBB := Lib.hid hb
                  simp only [bnCells, List.getElem_toArray, List.getElem_cons_zero, List.getElem_cons_succ] at n0 n1 n2 n3 n4 n5 n6 n7 n8 n9 n10 n11
                  go_wp2
                  clear n0 n1 n2 n3 n4 n5 n6 n7 n8 n9 n10 n11 nz
                  go_loopw [97] (fun i wr => ∃ j : Nat, j ≤ 6 ∧ i = .int .i64 (j : Int) ∧ Hid (∀ n, n < j → (bAt M.1 n).1 ≤ (bAt M.1 n).2) ∧ wr.heap[w.heap.size + 1]? = some (.cells (bnCells M.1) 154 (0, 0)) ∧ wr.heap[w.heap.size]? = some (.cells (psCells q) 109 (0, 0)) ∧ Below w.heap.size w wr) (fun i _ => 6 - (intOf i).toNat)
                  case atStart => exact ⟨0, by omega, rfl, Lib.hid (fun n h => absurd h (Nat.not_lt_zero n)), HBB.out, hp, hB⟩
                  case round =>
                    rename World => wr5
                    clear hb hp hB
                    obtain ⟨j, hj, rfl, HJ, hb, hp, hB⟩ := hrel
                    by_cases hj6 : j < 6
                    · have hix := bn_index M.1 hj6 wr5
                      unfold bnV at hix
                      have HMO := Lib.hid (fun (h : (bAt M.1 j).1 ≤ (bAt M.1 j).2) => (show ∀ n, n < j + 1 → (bAt M.1 n).1 ≤ (bAt M.1 n).2 from fun n hn => by
                        by_cases g : n < j
                        · exact HJ.out n g
                        · have e2 : n = j := by omega
                          subst e2
                          exact h))
                      have HMN := Lib.hid (fun (h : ¬ (bAt M.1 j).1 ≤ (bAt M.1 j).2) => HNO.out (by
                        cases he : emptyB M.1
                        · exact absurd (HEF.out.1 he j hj6) h
                        · rfl))
                      generalize (bAt M.1 j).1 = lo at hix HMO HMN
                      generalize (bAt M.1 j).2 = hi at hix HMO HMN
                      have HBQ := Lib.hid hb
                      have HPQ2 := Lib.hid hp
                      have HBW := Lib.hid hB
                      have bz := lt_of_block hb
                      have pz := lt_of_block hp
                      by_cases hc : lo ≤ hi
                      · have hc1 : ¬ hi < lo := by omega
                        have HG := Lib.hid (HMO.out hc)
                        clear hb hp hB hc
                        go_wp2
                        go_roundw
                        case rel => exact ⟨j + 1, by omega, by go_num, HG, (heap_alloc_old _ _ bz).trans HBQ.out, (heap_alloc_old _ _ pz).trans HPQ2.out, HBW.out.alloc HBW.out.size _⟩
                        case measure => simp [intOf]; omega
                      · have hc1 : hi < lo := by omega
                        have HG := Lib.hid (HMN.out hc)
                        clear hp hB hc
                        go_upto_region 29 with (fail)
                        obtain ⟨V, hV⟩ : ∃ V : World, V = wr5.alloc (.cells #[.int .i64 lo, .int .i64 hi] 36) := ⟨_, rfl⟩
                        rw [← hV]
                        have hbV : V.heap[w.heap.size + 1]? = some (.cells (bnCells M.1) 154 (0, 0)) := by rw [hV]; exact (heap_alloc_old _ _ bz).trans hb
                        have HBV := Lib.hid (show Below w.heap.size w V from by rw [hV]; exact HBW.out.alloc HBW.out.size _)
                        clear hV hb bz pz
                        have n0 := blk_cell 0 hbV rfl
                        have n1 := blk_cell 1 hbV rfl
                        have n2 := blk_cell 2 hbV rfl
                        have n3 := blk_cell 3 hbV rfl
                        have n4 := blk_cell 4 hbV rfl
                        have n5 := blk_cell 5 hbV rfl
                        have n6 := blk_cell 6 hbV rfl
                        have n7 := blk_cell 7 hbV rfl
                        have n8 := blk_cell 8 hbV rfl
                        have n9 := blk_cell 9 hbV rfl
                        have n10 := blk_cell 10 hbV rfl
                        have n11 := blk_cell 11 hbV rfl
                        have f0 := blk_free 0 hbV
                        have f1 := blk_free 1 hbV
                        have f2 := blk_free 2 hbV
                        have f3 := blk_free 3 hbV
                        have f4 := blk_free 4 hbV
                        have f5 := blk_free 5 hbV
                        have f6 := blk_free 6 hbV
                        have f7 := blk_free 7 hbV
                        have f8 := blk_free 8 hbV
                        have f9 := blk_free 9 hbV
                        have f10 := blk_free 10 hbV
                        have f11 := blk_free 11 hbV
                        have nz := lt_of_block hbV
                        simp only [bnCells, List.getElem_toArray, List.getElem_cons_zero, List.getElem_cons_succ] at n0 n1 n2 n3 n4 n5 n6 n7 n8 n9 n10 n11
                        go_wp2
                        obtain ⟨Y2, hY2⟩ : ∃ Y2 : World, Y2 = setBn V (w.heap.size + 1) M.1 := ⟨_, rfl⟩
                        have hb3 : Y2.heap[w.heap.size + 1]? = some (.cells (bnCells M.1) 154 (0, 0)) := by rw [hY2]; exact setBn_blk hbV
                        have hb4 : Below w.heap.size w Y2 := by rw [hY2]; exact setBn_below HBV.out (by omega)
                        unfold setBn at hY2
                        rw [← hY2]
                        clear hY2 n0 n1 n2 n3 n4 n5 n6 n7 n8 n9 n10 n11 f0 f1 f2 f3 f4 f5 f6 f7 f8 f9 f10 f11 hbV
                        have n0 := blk_cell 0 hb3 rfl
                        have n1 := blk_cell 1 hb3 rfl
                        have n2 := blk_cell 2 hb3 rfl
                        have n3 := blk_cell 3 hb3 rfl
                        have n4 := blk_cell 4 hb3 rfl
                        have n5 := blk_cell 5 hb3 rfl
                        have n6 := blk_cell 6 hb3 rfl
                        have n7 := blk_cell 7 hb3 rfl
                        have n8 := blk_cell 8 hb3 rfl
                        have n9 := blk_cell 9 hb3 rfl
                        have n10 := blk_cell 10 hb3 rfl
                        have n11 := blk_cell 11 hb3 rfl
                        simp only [bnCells, List.getElem_toArray, List.getElem_cons_zero, List.getElem_cons_succ] at n0 n1 n2 n3 n4 n5 n6 n7 n8 n9 n10 n11
                        refine bodyPost_ret (v := .tuple #[bnV M.1, .bool false]) ?_ rfl ⟨M.1, by rw [HG.out]; rfl, fun b e => by (rw [HG.out] at e; cases e), .of_below hb4, HW.out _ hb4⟩
                        rw [results_cell_tmp rfl]
                        go_simp
                    · obtain rfl : j = 6 := by omega
                      have he : emptyB M.1 = false := HEF.out.2 (fun i hi => HJ.out i hi)
                      obtain ⟨r1, r2, r3, r4⟩ := HNX.out he
                      have HR1 := Lib.hid r1
                      have hw5 := widW_is hb
                      have HM5 := Lib.hid (show 2 * (widW wr5 (w.heap.size + 1) + 1).toNat + (if M.2 = true then 1 else 0) < 2 * (widW wr3 (w.heap.size + 1) + 1).toNat + 1 from by
                        rw [hw5, HW0.out]
                        cases hm2 : M.2
                        · simp; omega
                        · have := r4 hm2
                          simp; omega)
                      clear he r1 r2 r3 r4 hw5
                      go_wp2
                      go_roundw
                      case rel => exact ⟨M.2, M.1, rfl, HR1, hb, hp, hB⟩
                      case measure =>
                        have := HM5.out
                        cases hm2 : M.2
                        all_goals
                          rw [hm2] at this
                          simpa using this
theorem PYears_any (a1 a2 a3 a4 : Option Addr) (k1 k2 k3 k4 : Nat) (t : PeW) (bt bc bk but : Nat) (q : List Int) (w : World) (hm : TownW w bt bc bk a1 a2 a3 a4 k1 k2 k3 k4 t but) (hv : PeOk t) (hq : PsOk q) :
    Calls Tryz.prog 82 #[.pointer (some ⟨bt, 0, none⟩), psV q] w fun e w' => ∃ L, e = .returned (.tuple #[bnV L, .bool (yearsN t q).isSome]) ∧ (∀ b, yearsN t q = some b → L = b) ∧ Lrn bc bk w w' ∧ TownW w' bt bc bk a1 a2 a3 a4 k1 k2 k3 k4 t but := by
  obtain ⟨T, hT, hK⟩ := hm.known
  by_cases hin : ∃ p ∈ T, p.1 = psV q
  · refine (PYears_old a1 a2 a3 a4 k1 k2 k3 k4 t bt bc bk but q w hm hq hT hK hin).mono ?_
    rintro e w' ⟨rfl, hs, hb⟩
    refine ⟨(yearsN t q).getD [], by rw [hs], fun b h => by rw [h]; rfl, .of_below hb, hm.below hb⟩
  · exact PYears_new a1 a2 a3 a4 k1 k2 k3 k4 t bt bc bk but q w hm hv hq hT hK (fun p hp e => hin ⟨p, hp, e⟩)
end Go.Proofs.YtklconegomgjaaaGreat
