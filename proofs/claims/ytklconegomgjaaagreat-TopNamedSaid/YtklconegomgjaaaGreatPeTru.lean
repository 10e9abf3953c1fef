/- What is proved here: truths of layer 3, as an iterator. Conditions: the town is looked at. -/
import Derived.Test.YtklconegomgjaaaGreatPeYears
import Derived.Test.YtklconegomgjaaaGreatRangeMG
import Derived.Test.YtklconegomgjaaaGreatRangeY
import Derived.RangeFuncCalls
import Derived.Shelf.RegionOpen
import Derived.OwnWalkIn
import Derived.TacticsInMore
import Derived.LoopNIn
import Derived.LoopIn
import Derived.WalkMore
import Derived.IntWalk
import Derived.Deep.RegionHeld3
import Derived.Deep.LoopGhost
import Derived.Deep.DeepCutAuto
set_option linter.unusedVariables false
set_option linter.unusedSimpArgs false
namespace Go.Proofs.YtklconegomgjaaaGreat
open Go Go.RowKit Go.Shelf
attribute [local go_sem] store_fnE
attribute [local go_sem] fold_max fold_min

theorem psC_ext {p q : List Int} (h : ∀ i, pAt p i = pAt q i) : psCells p = psCells q := by simp only [psCells, h]
theorem psV_ext {p q : List Int} (h : ∀ i, pAt p i = pAt q i) : psV p = psV q := by simp only [psV, h]
/-- What the iterator reads. -/
structure TruZ (A : World) (p1 bt bc bk : Nat) (a1 a2 a3 a4 : Option Addr) (k1 k2 k3 k4 : Nat) (t : PeW) (but : Nat) : Prop where
  tw : TownW A bt bc bk a1 a2 a3 a4 k1 k2 k3 k4 t but
  c : A.heap[p1]? = some (.cells #[.pointer (some ⟨bt, 0, none⟩)] 100 (0, 0))
@[reducible] def encP (x : List Int × Nat) : Array Value := #[psV x.1, .int .i64 (x.2 : Int)]
/-- The iterator's own cells. -/
structure TruO (A : World) (p1 yb l : Nat) (q : List Int) : Prop where
  y : A.heap[yb]? = some (.cells #[.func (.yield l) #[] #[]] 172 (0, 0))
  p : A.heap[yb + 1]? = some (.cells (psCells q) 109 (0, 0))
  n : A.heap[yb + 1 + 1]? = some (.cells #[.func (.func 142) #[] #[.pointer (some ⟨p1, 0, none⟩), .pointer (some ⟨yb + 1, 0, none⟩), .pointer (some ⟨yb, 0, none⟩), .pointer (some ⟨yb + 1 + 1, 0, none⟩)]] 200 (0, 0))
theorem TruO.above {A A' : World} {p1 yb l B : Nat} {q : List Int} (h : TruO A p1 yb l q) (hb : Above B A A') (hB : B ≤ yb) : TruO A' p1 yb l q := ⟨(hb.block _ hB (lt_of_block h.y)).trans h.y, (hb.block _ (by omega) (lt_of_block h.p)).trans h.p, (hb.block _ (by omega) (lt_of_block h.n)).trans h.n⟩
theorem TruO.below {A A' : World} {p1 yb l : Nat} {q : List Int} (h : TruO A p1 yb l q) (hb : Below A.heap.size A A') : TruO A' p1 yb l q := ⟨(hb.block _ (lt_of_block h.y)).trans h.y, (hb.block _ (lt_of_block h.p)).trans h.p, (hb.block _ (lt_of_block h.n)).trans h.n⟩
theorem TruO.lrn {A A' : World} {p1 yb l bt bc bk : Nat} {q : List Int} {a1 a2 a3 a4 : Option Addr} {k1 k2 k3 k4 : Nat} {t : PeW} {but : Nat} (h : TruO A p1 yb l q) (k : TownW A bt bc bk a1 a2 a3 a4 k1 k2 k3 k4 t but) (hb : Lrn bc bk A A') : TruO A' p1 yb l q := ⟨hb.cellsB k h.y, hb.cellsB k h.p, hb.cellsB k h.n⟩
theorem TruO.ext {A : World} {p1 yb l : Nat} {q r : List Int} (h : TruO A p1 yb l q) (e : ∀ i, pAt q i = pAt r i) : TruO A p1 yb l r := ⟨h.y, by rw [← psC_ext e]; exact h.p, h.n⟩
theorem TruO.set {A : World} {p1 yb l : Nat} {pre : List Int} {x : Int} (h : TruO A p1 yb l (pre ++ [x])) (hl : pre.length < 6) (y : Int) : TruO (A.setCell ⟨yb + 1, pre.length, none⟩ (.int .i64 y)) p1 yb l (pre ++ [y]) := by
  refine ⟨(Below.heap_setCell _ _ _ _ (fun e => by simp only at e; omega)).trans h.y, ?_, (Below.heap_setCell _ _ _ _ (fun e => by simp only at e; omega)).trans h.n⟩
  have h1 : A.heap[yb + 1]? = some (.cells (psCells (padP (pre ++ [x]))) 109 (0, 0)) := by rw [psC_ext (padP_at _)]; exact h.p
  have h2 := ps_set (padP_len (by simp; omega)) h1 pre.length y
  rw [psC_ext (pAt_set_snoc pre x y)] at h2
  exact h2
/-- Persons of the first mentions. -/
def PreOk (pre : List Int) (many : Nat) : Prop := many ≤ pre.length ∧ ∀ x ∈ pre, 0 ≤ x ∧ x < many
theorem PreOk.at {pre : List Int} {many : Nat} (h : PreOk pre many) {i : Nat} (hi : i < pre.length) : 0 ≤ pAt pre i ∧ pAt pre i < many := by
  unfold pAt
  rw [List.getElem?_eq_getElem hi, Option.getD_some]
  exact h.2 _ (List.getElem_mem hi)
theorem PreOk.ps {pre : List Int} {many : Nat} (h : PreOk pre many) (hl : pre.length ≤ 6) : PsOk (padP pre) := by
  refine ⟨padP_len hl, fun x hx => ?_⟩
  unfold padP at hx
  have h1 := h.1
  rcases List.mem_append.1 hx with hx | hx
  · have := h.2 x hx; omega
  · rw [List.mem_replicate] at hx; omega
theorem PreOk.more {pre : List Int} {many n : Nat} (h : PreOk pre many) (hn : n ≤ many) : PreOk (pre ++ [(n : Int)]) (max many (n + 1)) := by
  have h1 := h.1
  refine ⟨by simp; omega, fun x hx => ?_⟩
  rcases List.mem_append.1 hx with hx | hx
  · have := h.2 x hx; omega
  · have : x = (n : Int) := by simpa using hx
    omega
/-- next, so many mentions from the end. -/
def TruC (a1 a2 a3 a4 : Option Addr) (k1 k2 k3 k4 : Nat) (t : PeW) (p1 yb l : Nat) (xs : List (List Int × Nat)) (J Jx : List (List Int × Nat) → World → Prop) (left : Nat) : Prop :=
  ∀ (pre : List Int) (many : Nat) (done : List (List Int × Nat)) (W : World), pre.length + left = t.ments.length → PreOk pre many → yb ≤ W.heap.size → TruO W p1 yb l pre → J done W → done ++ truthsF t left pre many <+: xs →
    Calls Tryz.prog 142 #[.int .i64 (pre.length : Int), .int .i64 (many : Int), .pointer (some ⟨p1, 0, none⟩), .pointer (some ⟨yb + 1, 0, none⟩), .pointer (some ⟨yb, 0, none⟩), .pointer (some ⟨yb + 1 + 1, 0, none⟩)] W fun e W' => (e = .returned (.bool true) ∧ J (done ++ truthsF t left pre many) W' ∧ TruO W' p1 yb l pre) ∨ (e = .returned (.bool false) ∧ ∃ s, Jx s W')
section
variable (a1 a2 a3 a4 : Option Addr) (k1 k2 k3 k4 : Nat) (t : PeW) (bt bc bk but p1 yb l B : Nat) (xs : List (List Int × Nat)) (J Jx : List (List Int × Nat) → World → Prop)
set_option maxRecDepth 100000 in
set_option maxHeartbeats 2000000 in
theorem PNext_zero (hv : PeOk t) (hB : B ≤ yb) (hJ : ∀ s A A', J s A → Bel 3 yb A A' → J s A') (hJx : ∀ s A A', Jx s A → Bel 3 yb A A' → Jx s A') (hJR : ∀ s A A', J s A → Lrn bc bk A A' ∧ TownW A' bt bc bk a1 a2 a3 a4 k1 k2 k3 k4 t but → J s A') (hJZ : ∀ s A, J s A → TruZ A p1 bt bc bk a1 a2 a3 a4 k1 k2 k3 k4 t but)
    (hY : ∀ pre x W1, J pre W1 → pre ++ [x] <+: xs → YieldAt Fence.wide 0 Tryz.prog l (encP x) W1 fun e W' => (e = .returned (.bool true) ∧ J (pre ++ [x]) W' ∧ Above B W1 W') ∨ (e = .returned (.bool false) ∧ Jx (pre ++ [x]) W' ∧ Above yb W1 W')) :
    TruC a1 a2 a3 a4 k1 k2 k3 k4 t p1 yb l xs J Jx 0 := by
  intro pre many done W hl hp hyb hO hj hpre
  have hpl : pre.length = t.ments.length := by omega
  have hnm := hv.nm
  have hq : PsOk (padP pre) := hp.ps (by omega)
  have HPS := Lib.hid (psV_ext (padP_at pre))
  have hz := hJZ _ _ hj
  have hlm := hz.tw.town.okm.len
  have p0 := blk_cell 0 hz.c rfl
  have pz := lt_of_block hz.c
  have y4 := hz.tw.cells.2.2.2.2.1
  have yz := hz.tw.bt_lt
  simp only [List.getElem_toArray, List.getElem_cons_zero] at p0
  have HJR := Lib.hid hJR
  have HJ := Lib.hid hJ
  have HJZ := Lib.hid hJZ
  have HY := Lib.hid hY
  have HP := Lib.hid hpre
  have HO := Lib.hid hO
  have HJ0 := Lib.hid hj
  have YE := Lib.hid (fun (V : World) (h : TownW V bt bc bk a1 a2 a3 a4 k1 k2 k3 k4 t but) => (show Calls Tryz.prog 82 #[.pointer (some ⟨bt, 0, none⟩), psV pre] V fun e w' => ∃ L, e = .returned (.tuple #[bnV L, .bool (yearsN t pre).isSome]) ∧ Lrn bc bk V w' ∧ TownW w' bt bc bk a1 a2 a3 a4 k1 k2 k3 k4 t but from by
    have := PYears_any a1 a2 a3 a4 k1 k2 k3 k4 t bt bc bk but (padP pre) V h hv hq
    rw [HPS.out, yearsN_pad (padP_at pre)] at this
    exact this.mono fun e w' ⟨L, h1, _, h2, h3⟩ => ⟨L, h1, h2, h3⟩))
  have FA := Lib.hid (fun (V : World) (h : TownW V bt bc bk a1 a2 a3 a4 k1 k2 k3 k4 t but) => (show Calls Tryz.prog 143 #[.pointer (some ⟨bt, 0, none⟩), psV pre] V fun e w' => e = .returned (.bool (fatheredB t pre)) ∧ Below V.heap.size V w' from by
    have := PFathered_any a1 a2 a3 a4 k1 k2 k3 k4 t bt bc bk but (padP pre) V h hv hq
    rw [HPS.out, fatheredB_pad (padP_at pre)] at this
    exact this))
  have e1 : ((pre.length : Int) == (t.ments.length : Int)) = true := eqi_t (by omega)
  have e2 : (pre.length == t.ments.length) = true := by simpa using hpl
  have HT : Hid (truthsF t 0 pre many = if ((yearsN t pre).isSome && fatheredB t pre) = true then [(pre, many)] else []) := Lib.hid rfl
  rw [HT.out] at hpre HP ⊢
  have hps : W.heap[yb + 1]? = some (.cells (psCells pre) 109 (0, 0)) := hO.p
  clear hJR hJ hJZ hY hpre hO hj hz hpl hq hp hv
  have c0 := blk_cell 0 hps rfl
  have c1 := blk_cell 1 hps rfl
  have c2 := blk_cell 2 hps rfl
  have c3 := blk_cell 3 hps rfl
  have c4 := blk_cell 4 hps rfl
  have c5 := blk_cell 5 hps rfl
  have cz := lt_of_block hps
  simp only [psCells, List.getElem_toArray, List.getElem_cons_zero, List.getElem_cons_succ] at c0 c1 c2 c3 c4 c5
  have hz := HJZ.out _ _ HJ0.out
  have YW := Lib.hid (YE.out W hz.tw)
  have HTW := Lib.hid hz.tw
  generalize (yearsN t pre).isSome = yb0 at YW HP ⊢
  generalize fatheredB t pre = fb at FA HP ⊢
  generalize hR : (if (yb0 && fb) = true then [(pre, many)] else []) = R at HP ⊢
  have HRR := Lib.hid hR
  clear hR
  clear hz hps YE
  go_enter Tryz.func142, Tryz.ntmps142
  go_wp2
  go_step3
  go_upto_region 3 with (go_at_call 82; go_must ((with_reducible refine YW.out.mono ?_); rintro e w2 ⟨L, rfl, hl2, ht2⟩; dsimp only))
  obtain ⟨Y, hY⟩ : ∃ Y : World, Y = w2.alloc (.cells (bnCells L) 154) := ⟨_, rfl⟩
  rw [show w2.alloc (.cells #[.int .i64 (bAt L 0).1, .int .i64 (bAt L 0).2, .int .i64 (bAt L 1).1, .int .i64 (bAt L 1).2, .int .i64 (bAt L 2).1, .int .i64 (bAt L 2).2, .int .i64 (bAt L 3).1, .int .i64 (bAt L 3).2, .int .i64 (bAt L 4).1, .int .i64 (bAt L 4).2, .int .i64 (bAt L 5).1, .int .i64 (bAt L 5).2] 154) = Y from hY.symm]
  have hbY : Below w2.heap.size w2 Y := by rw [hY]; exact (Below.refl _ _).alloc (Nat.le_refl _) _
  clear hY
  have hyb2 : yb ≤ w2.heap.size := Nat.le_trans hyb hl2.size
  have hjY := HJ.out _ _ _ (HJR.out _ _ _ HJ0.out ⟨hl2, ht2⟩) (Bel.grow hbY hyb2)
  have hOY := (HO.out.lrn HTW.out hl2).below hbY
  have hyY : yb ≤ Y.heap.size := Nat.le_trans hyb2 hbY.size
  have hzY := HJZ.out _ _ hjY
  clear p0 pz y4 yz c0 c1 c2 c3 c4 c5 cz ht2 hl2 hbY hyb2
  have p0 := blk_cell 0 hzY.c rfl
  have pz := lt_of_block hzY.c
  have y0 := blk_cell 0 hOY.y rfl
  have yz := lt_of_block hOY.y
  have c0 := blk_cell 0 hOY.p rfl
  have c1 := blk_cell 1 hOY.p rfl
  have c2 := blk_cell 2 hOY.p rfl
  have c3 := blk_cell 3 hOY.p rfl
  have c4 := blk_cell 4 hOY.p rfl
  have c5 := blk_cell 5 hOY.p rfl
  have cz := lt_of_block hOY.p
  simp only [psCells, List.getElem_toArray, List.getElem_cons_zero, List.getElem_cons_succ] at p0 y0 c0 c1 c2 c3 c4 c5
  have FW := Lib.hid (FA.out Y hzY.tw)
  clear hzY
  have HOY := Lib.hid hOY
  clear hOY
  cases yb0
  · go_wp2
    (try rw [Exit.noGoto_ret])
    go_ret
    exact .inl ⟨rfl, by rw [← HRR.out]; simpa using hjY, HOY.out⟩
  · cases fb
    · go_wp2_with (go_at_call 143; go_must ((with_reducible refine FW.out.mono ?_); rintro e w3 ⟨rfl, hb3⟩; dsimp only))
      (try rw [Exit.noGoto_ret])
      go_ret
      exact .inl ⟨rfl, by rw [← HRR.out]; simpa using HJ.out _ _ _ hjY (Bel.grow hb3 hyY), HOY.out.below hb3⟩
    · have HP1 := Lib.hid (show done ++ [(pre, many)] <+: xs from by have := HP.out; rw [← HRR.out] at this; exact this)
      go_upto_region 5 with (go_at_call 143; go_must ((with_reducible refine FW.out.mono ?_); rintro e w3 ⟨rfl, hb3⟩; dsimp only))
      have hj3 := HJ.out _ _ _ hjY (Bel.grow hb3 hyY)
      have hO3 := HOY.out.below hb3
      clear hjY p0 pz y0 yz c0 c1 c2 c3 c4 c5 cz hb3 FW
      obtain ⟨fn, tmps, assign, body, hyr, hR⟩ := HY.out done (pre, many) w3 hj3 HP1.out
      have HR := Lib.hid hR
      have y0 := blk_cell 0 hO3.y rfl
      have yz := lt_of_block hO3.y
      have c0 := blk_cell 0 hO3.p rfl
      have c1 := blk_cell 1 hO3.p rfl
      have c2 := blk_cell 2 hO3.p rfl
      have c3 := blk_cell 3 hO3.p rfl
      have c4 := blk_cell 4 hO3.p rfl
      have c5 := blk_cell 5 hO3.p rfl
      have cz := lt_of_block hO3.p
      simp only [psCells, List.getElem_toArray, List.getElem_cons_zero, List.getElem_cons_succ] at y0 c0 c1 c2 c3 c4 c5
      have HO3 := Lib.hid hO3
      clear hR hO3 hj3
      dsimp only [encP, psV] at hyr
      refine (wpIn_wide (n := 0)).1 ?_
      gi_wp2
      refine ⟨rfl, HR.out.mono ?_⟩
      rintro e W2 (⟨rfl, hj2, hab⟩ | ⟨rfl, hq, -⟩)
      · gi_wp2
        go_wp2
        (try rw [Exit.noGoto_ret])
        go_ret
        exact .inl ⟨rfl, by rw [← HRR.out]; exact hj2, HO3.out.above hab hB⟩
      · gi_wp2
        go_wp2
        (try rw [Exit.noGoto_ret])
        go_ret
        exact .inr ⟨rfl, _, hq⟩
set_option maxRecDepth 100000 in
set_option maxHeartbeats 4000000 in
theorem PNext_step (hv : PeOk t) (hB : B ≤ yb) (hJ : ∀ s A A', J s A → Bel 3 yb A A' → J s A') (hJR : ∀ s A A', J s A → Lrn bc bk A A' ∧ TownW A' bt bc bk a1 a2 a3 a4 k1 k2 k3 k4 t but → J s A') (hJZ : ∀ s A, J s A → TruZ A p1 bt bc bk a1 a2 a3 a4 k1 k2 k3 k4 t but)
    (left : Nat) (IH : TruC a1 a2 a3 a4 k1 k2 k3 k4 t p1 yb l xs J Jx left) : TruC a1 a2 a3 a4 k1 k2 k3 k4 t p1 yb l xs J Jx (left + 1) := by
  intro pre many done W hl hp hyb hO hj hpre
  have hpl : pre.length < t.ments.length := by omega
  have hnm := hv.nm
  have hz := hJZ _ _ hj
  have hlm := hz.tw.town.okm.len
  have p0 := blk_cell 0 hz.c rfl
  have pz := lt_of_block hz.c
  have y4 := hz.tw.cells.2.2.2.2.1
  have yz := hz.tw.bt_lt
  simp only [List.getElem_toArray, List.getElem_cons_zero] at p0
  have hmany := hp.1
  have HALL := Lib.hid (truthsF_all t left pre many)
  have HPRE := Lib.hid (fun n (h : n ≤ many + 1) => (show done ++ truthsTo3 t left pre many n <+: xs from ((List.prefix_append_right_inj done).2 (truthsTo_le h)).trans hpre))
  have HN := Lib.hid (fun n (h : n ≤ many) (hf : fitsB t pre n = true) => IH (pre ++ [(n : Int)]) (max many (n + 1)) (done ++ truthsTo3 t left pre many n))
  have hlen : ∀ n : Int, (pre ++ [n]).length = pre.length + 1 := fun n => by simp
  have HNX := Lib.hid (fun (n : Nat) (h : n ≤ many) (hf : fitsB t pre n = true) (V : World) (h1 : yb ≤ V.heap.size) (h2 : TruO V p1 yb l (pre ++ [(n : Int)])) (h3 : J (done ++ truthsTo3 t left pre many n) V) => (show Calls Tryz.prog 142 #[.int .i64 ((pre.length : Int) + 1), .int .i64 (max (many : Int) ((n : Int) + 1)), .pointer (some ⟨p1, 0, none⟩), .pointer (some ⟨yb + 1, 0, none⟩), .pointer (some ⟨yb, 0, none⟩), .pointer (some ⟨yb + 1 + 1, 0, none⟩)] V fun e W' => (e = .returned (.bool true) ∧ J (done ++ truthsTo3 t left pre many (n + 1)) W' ∧ TruO W' p1 yb l (pre ++ [(n : Int)])) ∨ (e = .returned (.bool false) ∧ ∃ s, Jx s W') from by
    have e1 : (((pre ++ [(n : Int)]).length : Nat) : Int) = (pre.length : Int) + 1 := by simp
    have e2 : ((max many (n + 1) : Nat) : Int) = max (many : Int) ((n : Int) + 1) := by omega
    have e3 : done ++ truthsTo3 t left pre many n ++ truthsF t left (pre ++ [(n : Int)]) (max many (n + 1)) = done ++ truthsTo3 t left pre many (n + 1) := by rw [truthsTo_yes hf, List.append_assoc]
    have := IH (pre ++ [(n : Int)]) (max many (n + 1)) (done ++ truthsTo3 t left pre many n) V (by rw [hlen]; omega) (hp.more h) h1 h2 h3 (by rw [e3]; exact HPRE.out (n + 1) (by omega))
    rw [e1, e2, e3] at this
    exact this))
  have HJR := Lib.hid hJR
  have HJ := Lib.hid hJ
  have HJZ := Lib.hid hJZ
  have WH := Lib.hid (fun (k : Nat) (hk : k < pre.length) (V : World) (h : TownW V bt bc bk a1 a2 a3 a4 k1 k2 k3 k4 t but) => PWhy_any a1 a2 a3 a4 k1 k2 k3 k4 t bt bc bk but k pre.length V h hv (by omega) hpl)
  have HFN := Lib.hid (fun (n k : Nat) (hk : k < pre.length) (h1 : pAt pre k = (n : Int)) (h2 : whyN t k pre.length ≠ 0) => fits_not (t := t) hk h1 h2)
  have HAT := Lib.hid (fun (k : Nat) (hk : k < pre.length) => hp.at hk)
  have HFS := Lib.hid (fun (n k : Nat) => fits_succ t pre n k)
  have HFA := Lib.hid (fun (n : Nat) => fits_all t pre n)
  have HTN := Lib.hid (fun (n : Nat) (h : fitsB t pre n = false) => truthsTo_no (t := t) (k := left) (many := many) h)
  have e1 : ((pre.length : Int) == (t.ments.length : Int)) = false := eqi_f (by omega)
  have e2 : (pre.length == t.ments.length) = false := by simp; omega
  have HO0 := Lib.hid (hO.ext (fun i => (pAt_zero pre i).symm))
  have HJ0 := Lib.hid (show J (done ++ truthsTo3 t left pre many 0) W from by simpa [truthsTo3] using hj)
  have hp6 : (pre.length : Int) < 6 := by omega
  have hp6n : pre.length < 6 := by omega
  rw [HALL.out]
  clear hJR hJ hJZ hpre hO hj hz hp HN HALL IH hlen hv
  go_enter Tryz.func142, Tryz.ntmps142
  go_wp2
  go_step3
  go_upto_region 6 with (fail)
  clear p0 pz y4 yz
  go_wp2
  (try go_step3)
  (try go_wp2)
  go_loopg [41] (many + 1) (fun g i V => ∃ (n : Nat) (x : Int), n + g = many + 1 ∧ i = .int .i64 (n : Int) ∧ J (done ++ truthsTo3 t left pre many n) V ∧ TruO V p1 yb l (pre ++ [x]) ∧ yb ≤ V.heap.size)
  case atStart => exact ⟨0, 0, by omega, rfl, HJ0.out, HO0.out, hyb⟩
  case round =>
    clear HJ0 HO0 hyb
    obtain ⟨n, x, hng, rfl, hj, hO, hyb⟩ := hrel
    cases gk with
    | zero =>
      obtain rfl : n = many + 1 := by omega
      have hlt : ¬ many + 1 < many + 1 := by omega
      have hlti : ¬ (((many + 1 : Nat) : Int) < (many : Int) + 1) := by omega
      have hS := hO.set hp6n 0
      have HS := Lib.hid (hS.ext (fun i => pAt_zero pre i))
      have HJE := Lib.hid (HJ.out _ _ (wr.setCell ⟨yb + 1, pre.length, none⟩ (.int .i64 0)) hj (Bel.set hO.p (by decide) (by omega)))
      have c0 : wr.cell? ⟨yb + 1, pre.length, none⟩ = some (.int .i64 x) := by rw [ps_cell hO.p pre.length hp6n, pAt_last]
      have f0 := blk_free pre.length hO.p
      have cz := lt_of_block hO.p
      clear hS hj hO hyb
      go_wp2
      (try rw [Exit.noGoto_ret])
      go_ret
      exact .inl ⟨rfl, HJE.out, HS.out⟩
    | succ g =>
      have hn : n ≤ many := by omega
      have hlt : n < many + 1 := by omega
      have hlti : (n : Int) < (many : Int) + 1 := by omega
      go_upto_region 9 with (fail)
      go_wp2
      go_loopg [45] pre.length (fun g2 i V => ∃ k : Nat, k + g2 = pre.length ∧ i = .int .i64 (k : Int) ∧ Hid (fitsTo t pre n k = true) ∧ J (done ++ truthsTo3 t left pre many n) V ∧ TruO V p1 yb l (pre ++ [x]) ∧ yb ≤ V.heap.size) 
      case atStart => exact ⟨0, by omega, rfl, Lib.hid (fits_zero t pre n), hj, hO, hyb⟩
      case round =>
        rename World => V
        clear hj hO hyb
        obtain ⟨k, hkg, rfl, HF, hj, hO, hyb⟩ := hrel
        cases gk with
        | zero =>
          obtain rfl : k = pre.length := by omega
          have hlk : ¬ pre.length < pre.length := by omega
          have hlki : ¬ ((pre.length : Int) < (pre.length : Int)) := by omega
          have hfit : fitsB t pre n = true := by rw [← HFA.out]; exact HF.out
          have c0 : V.cell? ⟨yb + 1, pre.length, none⟩ = some (.int .i64 x) := by rw [ps_cell hO.p pre.length hp6n, pAt_last]
          have f0 := blk_free pre.length hO.p
          have cz := lt_of_block hO.p
          have HS := Lib.hid (hO.set hp6n (n : Int))
          have HJ1 := Lib.hid (HJ.out _ _ (V.setCell ⟨yb + 1, pre.length, none⟩ (.int .i64 (n : Int))) hj (Bel.set hO.p (by decide) (by omega)))
          have hb1 : V.heap.size ≤ (V.setCell ⟨yb + 1, pre.length, none⟩ (.int .i64 (n : Int))).heap.size := by simp
          go_upto_region 15 with (fail)
          generalize V.setCell ⟨yb + 1, pre.length, none⟩ (.int .i64 (n : Int)) = Z at HS HJ1 hb1 ⊢
          have hzb := Nat.le_trans hyb hb1
          clear c0 f0 cz hj hO hyb hb1
          have NX := Lib.hid (HNX.out n hn hfit Z hzb HS.out HJ1.out)
          have n0 := blk_cell 0 HS.out.n rfl
          have nz := lt_of_block HS.out.n
          simp only [List.getElem_toArray, List.getElem_cons_zero] at n0
          clear hfit
          have hpi : IntKind.i64.wrap ((pre.length : Int) + 1) = (pre.length : Int) + 1 := IntWalk.i64_in _ (by omega)
          have hni : IntKind.i64.wrap ((n : Int) + 1) = (n : Int) + 1 := IntWalk.i64_in _ (by omega)
          go_upto_if 72 with (go_at_call 142; go_must ((with_reducible refine NX.out.mono ?_); rintro e W2 hres; rcases hres with ⟨rfl, hj2, hO2⟩ | ⟨rfl, hq⟩; all_goals dsimp only))
          · have hy2 : yb ≤ W2.heap.size := Nat.le_of_lt (lt_of_block hO2.y)
            go_wp2
            go_roundg g
            case measure => omega
            case rel => exact ⟨n + 1, (n : Int), by omega, by go_num, hj2, hO2, hy2⟩
          · go_wp2
            (try rw [Exit.noGoto_ret])
            go_ret
            exact .inr ⟨rfl, hq⟩
        | succ g2 =>
          have hk : k < pre.length := by omega
          have hki : (k : Int) < (pre.length : Int) := by omega
          have hk6 : k < 6 := by omega
          have hk6i : (k : Int) < 6 := by omega
          have c0 : V.cell? ⟨yb + 1, k, none⟩ = some (.int .i64 (pAt pre k)) := by rw [ps_cell hO.p k hk6, pAt_snoc hk]
          have cz := lt_of_block hO.p
          have hz := HJZ.out _ _ hj
          have WC := WH.out k hk V hz.tw
          have HTW := Lib.hid hz.tw
          have p0 := blk_cell 0 hz.c rfl
          have pz := lt_of_block hz.c
          simp only [List.getElem_toArray, List.getElem_cons_zero] at p0
          have HFS2 := HFS.out n k
          rw [HF.out, Bool.true_and] at HFS2
          have HFN2 := HFN.out n k hk
          generalize pAt pre k = y at *
          generalize whyN t k pre.length = wy at *
          have HFS2 := Lib.hid HFS2
          have HFN2 := Lib.hid HFN2
          have HJV := Lib.hid hj
          have HOV := Lib.hid hO
          have WC := Lib.hid WC
          clear hz hj hO
          by_cases hy : y = (n : Int)
          · have e3 : (y == (n : Int)) = true := by simp [hy]
            by_cases hw : wy = 0
            · have e4 : (wy != 0) = false := by simp [hw]
              have HF2 : Hid (fitsTo t pre n (k + 1) = true) := Lib.hid (by rw [HFS2.out]; simp [hw])
              clear hy hw
              go_wp2_with (go_at_call 42; go_must ((with_reducible refine WC.out.mono ?_); rintro e w3 ⟨rfl, hl3, ht3⟩; dsimp only))
              go_roundg g2
              case measure => omega
              case rel => exact ⟨k + 1, by omega, by go_num, HF2, HJR.out _ _ _ HJV.out ⟨hl3, ht3⟩, HOV.out.lrn HTW.out hl3, Nat.le_trans hyb hl3.size⟩
            · have e4 : (wy != 0) = true := by simpa using hw
              have HT2 := Lib.hid (HTN.out n (HFN2.out hy hw))
              clear hy hw
              go_wp2_with (go_at_call 42; go_must ((with_reducible refine WC.out.mono ?_); rintro e w3 ⟨rfl, hl3, ht3⟩; dsimp only))
              go_roundg g
              case measure => omega
              case rel => exact ⟨n + 1, x, by omega, by go_num, by rw [HT2.out]; exact HJR.out _ _ _ HJV.out ⟨hl3, ht3⟩, HOV.out.lrn HTW.out hl3, Nat.le_trans hyb hl3.size⟩
          · have e3 : (y == (n : Int)) = false := by simpa using hy
            have HF2 : Hid (fitsTo t pre n (k + 1) = true) := Lib.hid (by rw [HFS2.out]; simp [hy])
            clear hy
            go_wp2
            go_roundg g2
            case measure => omega
            case rel => exact ⟨k + 1, by omega, by go_num, HF2, HJV.out, HOV.out, hyb⟩
theorem PNext_all (hv : PeOk t) (hB : B ≤ yb) (hJ : ∀ s A A', J s A → Bel 3 yb A A' → J s A') (hJx : ∀ s A A', Jx s A → Bel 3 yb A A' → Jx s A') (hJR : ∀ s A A', J s A → Lrn bc bk A A' ∧ TownW A' bt bc bk a1 a2 a3 a4 k1 k2 k3 k4 t but → J s A') (hJZ : ∀ s A, J s A → TruZ A p1 bt bc bk a1 a2 a3 a4 k1 k2 k3 k4 t but)
    (hY : ∀ pre x W1, J pre W1 → pre ++ [x] <+: xs → YieldAt Fence.wide 0 Tryz.prog l (encP x) W1 fun e W' => (e = .returned (.bool true) ∧ J (pre ++ [x]) W' ∧ Above B W1 W') ∨ (e = .returned (.bool false) ∧ Jx (pre ++ [x]) W' ∧ Above yb W1 W')) :
    ∀ left, TruC a1 a2 a3 a4 k1 k2 k3 k4 t p1 yb l xs J Jx left
  | 0 => PNext_zero a1 a2 a3 a4 k1 k2 k3 k4 t bt bc bk but p1 yb l B xs J Jx hv hB hJ hJx hJR hJZ hY
  | left + 1 => PNext_step a1 a2 a3 a4 k1 k2 k3 k4 t bt bc bk but p1 yb l B xs J Jx hv hB hJ hJR hJZ left (PNext_all hv hB hJ hJx hJR hJZ hY left)
end
set_option maxRecDepth 100000 in
set_option maxHeartbeats 2000000 in
theorem PTruths1_any (a1 a2 a3 a4 : Option Addr) (k1 k2 k3 k4 : Nat) (t : PeW) (bt bc bk but p1 l B : Nat) (J Jx : List (List Int × Nat) → World → Prop) (W : World) (hv : PeOk t) (hB : B ≤ W.heap.size) (hJ : ∀ s A A', J s A → Bel 3 W.heap.size A A' → J s A') (hJx : ∀ s A A', Jx s A → Bel 3 W.heap.size A A' → Jx s A') (hJR : ∀ s A A', J s A → Lrn bc bk A A' ∧ TownW A' bt bc bk a1 a2 a3 a4 k1 k2 k3 k4 t but → J s A') (hJZ : ∀ s A, J s A → TruZ A p1 bt bc bk a1 a2 a3 a4 k1 k2 k3 k4 t but)
    (hY : ∀ pre x W1, J pre W1 → pre ++ [x] <+: truthsT t → YieldAt Fence.wide 0 Tryz.prog l (encP x) W1 fun e W' => (e = .returned (.bool true) ∧ J (pre ++ [x]) W' ∧ Above B W1 W') ∨ (e = .returned (.bool false) ∧ Jx (pre ++ [x]) W' ∧ Above W.heap.size W1 W')) (hj : J [] W) :
    Calls Tryz.prog 141 #[.func (.yield l) #[] #[], .pointer (some ⟨p1, 0, none⟩)] W fun e W' => (∃ v, e = .returned v) ∧ (J (truthsT t) W' ∨ ∃ s, Jx s W') := by
  have CN := PNext_all a1 a2 a3 a4 k1 k2 k3 k4 t bt bc bk but p1 W.heap.size l B (truthsT t) J Jx hv hB hJ hJx hJR hJZ hY t.ments.length [] 0 []
  replace CN := Lib.hid (fun V h1 h2 h3 => CN V (by simp) ⟨Nat.le_refl _, fun x hx => by cases hx⟩ h1 h2 h3 (List.prefix_refl _))
  have HJ := Lib.hid hJ
  have HJ0 := Lib.hid hj
  clear hJ hJx hJR hJZ hY hj hv
  go_enter Tryz.func141, Tryz.ntmps141
  go_upto_region 4 with (fail)
  obtain ⟨Y, hY⟩ : ∃ Y : World, Y = ((W.alloc (.cells #[.func (.yield l) #[] #[]] 172)).alloc (.cells #[.int .i64 0, .int .i64 0, .int .i64 0, .int .i64 0, .int .i64 0, .int .i64 0] 109)).alloc (.cells #[.func (.func 142) #[] #[.pointer (some ⟨p1, 0, none⟩), .pointer (some ⟨W.heap.size + 1, 0, none⟩), .pointer (some ⟨W.heap.size, 0, none⟩), .pointer (some ⟨W.heap.size + 1 + 1, 0, none⟩)]] 200) := ⟨_, rfl⟩
  rw [← hY]
  have hbY : Below W.heap.size W Y := by rw [hY]; exact (((Below.refl _ _).alloc (Nat.le_refl _) _).alloc (by simp) _).alloc (by simp; omega) _
  have hOY : TruO Y p1 W.heap.size l [] := by
    rw [hY]
    exact ⟨(heap_alloc_old _ _ (by simp; omega)).trans ((heap_alloc_old _ _ (by simp)).trans (alloc_atE _ _ rfl)), (heap_alloc_old _ _ (by simp)).trans (alloc_atE _ _ (by simp)), alloc_atE _ _ (by simp)⟩
  have hjY := HJ.out _ _ _ HJ0.out (Bel.grow hbY (Nat.le_refl _))
  clear hY
  have CC := Lib.hid (show Calls Tryz.prog 142 #[.int .i64 0, .int .i64 0, .pointer (some ⟨p1, 0, none⟩), .pointer (some ⟨W.heap.size + 1, 0, none⟩), .pointer (some ⟨W.heap.size, 0, none⟩), .pointer (some ⟨W.heap.size + 1 + 1, 0, none⟩)] Y _ from CN.out Y hbY.size hOY hjY)
  have n0 := blk_cell 0 hOY.n rfl
  have nz := lt_of_block hOY.n
  simp only [List.getElem_toArray, List.getElem_cons_zero] at n0
  clear hOY hjY hbY CN
  go_wp2_with (go_at_call 142; go_must ((with_reducible refine CC.out.mono ?_); rintro e w2 hres; rcases hres with ⟨rfl, hj2, hO2⟩ | ⟨rfl, hq⟩; all_goals dsimp only))
  · go_end0
    exact ⟨⟨_, rfl⟩, .inl hj2⟩
  · go_end0
    exact ⟨⟨_, rfl⟩, .inr hq⟩
set_option maxHeartbeats 1000000 in
theorem PTruths_any (bt : Nat) (w : World) :
    Calls Tryz.prog 94 #[.pointer (some ⟨bt, 0, none⟩)] w fun e w' => e = .returned (.func (.func 141) #[] #[.pointer (some ⟨w.heap.size, 0, none⟩)]) ∧ w' = w.alloc (.cells #[.pointer (some ⟨bt, 0, none⟩)] 100) := by
  go_enter Tryz.func94, Tryz.ntmps94
  go_wp2
  go_ret
  exact ⟨rfl, rfl⟩
/-- truths, as an iterator. -/
theorem PTruths_seq (a1 a2 a3 a4 : Option Addr) (k1 k2 k3 k4 : Nat) (t : PeW) (bt bc bk but p1 : Nat) (hv : PeOk t) :
    SeqY Tryz.prog 3 141 #[.pointer (some ⟨p1, 0, none⟩)] encP (fun A A' => Lrn bc bk A A' ∧ TownW A' bt bc bk a1 a2 a3 a4 k1 k2 k3 k4 t but) (fun A => TruZ A p1 bt bc bk a1 a2 a3 a4 k1 k2 k3 k4 t but) (truthsT t) :=
  fun B l J Jx W hB _ hJ hJx hJR hJZ hY hj => callsIn_wide.2 (PTruths1_any a1 a2 a3 a4 k1 k2 k3 k4 t bt bc bk but p1 l B J Jx W hv hB hJ hJx hJR hJZ hY hj)
end Go.Proofs.YtklconegomgjaaaGreat
