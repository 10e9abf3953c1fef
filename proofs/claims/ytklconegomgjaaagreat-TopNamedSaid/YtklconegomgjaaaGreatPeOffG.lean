/- What is proved here: fair of layer 3, as an iterator. Conditions: the town is looked at. -/
/- What is proved here: contracts of person.beyond, with its closure and the search of slices. No condition but lengths. -/
import Derived.Test.YtklconegomgjaaaGreatPeTru
import Derived.Test.YtklconegomgjaaaGreatPeTied
import Derived.Test.YtklconegomgjaaaGreatRoundG
import Derived.Test.YtklconegomgjaaaGreatRef1AG
set_option linter.unusedVariables false
set_option linter.unusedSimpArgs false
namespace Go.Proofs.YtklconegomgjaaaGreat
open Go Go.RowKit Go.Shelf
attribute [local go_sem] Oper.semAt_some

theorem below_putP (W : World) (B b : Nat) (o : Obj) (h : B ≤ b) : Below B W (W.putObj b o) := ⟨rfl, rfl, rfl, by simp [World.putObj], fun i hi => World.putObj_heap_other (by omega)⟩
/-- The last fair persons of some. -/
def lastP (t : PeW) (but : Nat) (pre : List (List Int × Nat)) : List Int := ((pre.filter (fairB t but)).getLast?.map Prod.fst).getD []
theorem lastP_nil (t : PeW) (but : Nat) : lastP t but [] = [] := rfl
theorem lastP_yes {t : PeW} {but : Nat} {pre : List (List Int × Nat)} {x : List Int × Nat} (h : fairB t but x = true) : lastP t but (pre ++ [x]) = x.1 := by
  unfold lastP
  rw [List.filter_append, List.filter_cons_of_pos h]
  simp
theorem lastP_no {t : PeW} {but : Nat} {pre : List (List Int × Nat)} {x : List Int × Nat} (h : fairB t but x = false) : lastP t but (pre ++ [x]) = lastP t but pre := by
  unfold lastP
  rw [List.filter_append, List.filter_cons_of_neg (by rw [h]; decide)]
  simp
theorem fil_yes {t : PeW} {but : Nat} {pre : List (List Int × Nat)} {x : List Int × Nat} (h : fairB t but x = true) : (pre ++ [x]).filter (fairB t but) = pre.filter (fairB t but) ++ [x] := by
  rw [List.filter_append, List.filter_cons_of_pos h]
  rfl
theorem fil_no {t : PeW} {but : Nat} {pre : List (List Int × Nat)} {x : List Int × Nat} (h : fairB t but x = false) : (pre ++ [x]).filter (fairB t but) = pre.filter (fairB t but) := by
  rw [List.filter_append, List.filter_cons_of_neg (by rw [h]; decide)]
  simp
theorem lastP_case (t : PeW) (but : Nat) (pre : List (List Int × Nat)) : lastP t but pre = [] ∨ ∃ y ∈ pre, lastP t but pre = y.1 := by
  unfold lastP
  cases h : (pre.filter (fairB t but)).getLast? with
  | none => exact .inl rfl
  | some y => exact .inr ⟨y, (List.mem_filter.1 (List.mem_of_getLast? h)).1, rfl⟩
theorem tru_pre {t : PeW} {x : List Int × Nat} (h : TruOk t x) : PreOk x.1 x.2 := by
  refine ⟨by rw [h.len]; exact h.many, fun y hy => ?_⟩
  obtain ⟨i, hi, rfl⟩ := List.getElem_of_mem hy
  have := h.at_ i
  unfold pAt at this
  rw [List.getElem?_eq_getElem hi, Option.getD_some] at this
  exact ⟨this.1, this.2 (by rw [← h.len]; exact hi)⟩
theorem last_ps {t : PeW} (hv : PeOk t) {but : Nat} {pre : List (List Int × Nat)} (h : pre <+: truthsT t) : PsOk (padP (lastP t but pre)) := by
  rcases lastP_case t but pre with e | ⟨y, hy, e⟩
  · rw [e]
    exact ⟨rfl, fun x hx => by simp [padP] at hx; omega⟩
  · have hy1 := truths_ok (h.subset hy)
    have := hv.nm
    rw [e]
    exact (tru_pre hy1).ps (by rw [hy1.len]; omega)
theorem last_eq {t : PeW} {but : Nat} {pre : List (List Int × Nat)} {x : List Int × Nat} (h : pre ++ [x] <+: truthsT t) (e : padP x.1 = padP (lastP t but pre)) : x.2 ≤ 1 := by
  have he : ∀ i, pAt x.1 i = pAt (lastP t but pre) i := fun i => by rw [← padP_at, e, padP_at]
  rcases lastP_case t but pre with g | ⟨y, hy, g⟩
  · exact (truths_ok (h.subset (by simp))).zero fun i => by rw [he, g]; rfl
  · rw [g] at he
    exact absurd he (truths_other h hy)
theorem fil_pre {t : PeW} {but : Nat} {pre : List (List Int × Nat)} (h : pre <+: truthsT t) : pre.filter (fairB t but) <+: fairL t but := by
  obtain ⟨r, hr⟩ := h
  unfold fairL
  rw [← hr, List.filter_append]
  exact List.prefix_append _ _
/-- All six cells are written. -/
def setPs (W : World) (b : Nat) (L : List Int) : World := (((((W.setCell ⟨b, 0, none⟩ (.int .i64 (pAt L 0))).setCell ⟨b, 1, none⟩ (.int .i64 (pAt L 1))).setCell ⟨b, 2, none⟩ (.int .i64 (pAt L 2))).setCell ⟨b, 3, none⟩ (.int .i64 (pAt L 3))).setCell ⟨b, 4, none⟩ (.int .i64 (pAt L 4))).setCell ⟨b, 5, none⟩ (.int .i64 (pAt L 5))
theorem setPs_blk {W : World} {b : Nat} {L L2 : List Int} {t : TypeId} (h : W.heap[b]? = some (.cells (psCells L2) t (0, 0))) : (setPs W b L).heap[b]? = some (.cells (psCells L) t (0, 0)) := by
  have h6 := blk_set 5 (.int .i64 (pAt L 5)) (blk_set 4 (.int .i64 (pAt L 4)) (blk_set 3 (.int .i64 (pAt L 3)) (blk_set 2 (.int .i64 (pAt L 2)) (blk_set 1 (.int .i64 (pAt L 1)) (blk_set 0 (.int .i64 (pAt L 0)) h)))))
  unfold setPs
  rw [h6]
  simp only [psCells, List.setIfInBounds_toArray, List.set_cons_zero, List.set_cons_succ]
theorem setPs_below {B b : Nat} {w W : World} {L : List Int} (h : Below B w W) (hb : B ≤ b) : Below B w (setPs W b L) :=
  (((((h.setCell hb _).setCell hb _).setCell hb _).setCell hb _).setCell hb _).setCell hb _
theorem setPs_other {W : World} {b k : Nat} {L : List Int} (h : k ≠ b) : (setPs W b L).heap[k]? = W.heap[k]? := by
  unfold setPs
  rw [setP_other h, setP_other h, setP_other h, setP_other h, setP_other h, setP_other h]
theorem setPs_above {B b : Nat} {W : World} {L : List Int} (hb : b < B) : Above B W (setPs W b L) := by
  have one : ∀ (V : World) (j : Nat) (v : Value), Above B V (V.setCell ⟨b, j, none⟩ v) := fun V j v => ⟨rfl, rfl, rfl, by simp, fun i hi _ => Below.heap_setCell _ _ _ _ (fun e => by simp only at e; omega)⟩
  unfold setPs
  exact (((((one _ _ _).trans (one _ _ _)).trans (one _ _ _)).trans (one _ _ _)).trans (one _ _ _)).trans (one _ _ _)
theorem setPs_bel {T t : TypeId} {B b : Nat} {W : World} {L L2 : List Int} (h : W.heap[b]? = some (.cells (psCells L2) t (0, 0))) (ht : t ≠ T) (hb : B ≤ b) : Bel T B W (setPs W b L) :=
  ⟨setPs_below (Below.refl _ _) hb, fun k ds y hk => by
    by_cases e : k = b
    · subst e; rw [h] at hk; cases hk; exact absurd rfl ht
    · exact (setPs_other e).trans hk⟩
attribute [irreducible] setPs
/-- The iterator's own cells. -/
structure FaiO (A : World) (yb bt l : Nat) (q : List Int) : Prop where
  y : A.heap[yb]? = some (.cells #[.func (.yield l) #[] #[]] 172 (0, 0))
  p : A.heap[yb + 1]? = some (.cells (psCells q) 109 (0, 0))
  c : A.heap[yb + 1 + 1]? = some (.cells #[.pointer (some ⟨bt, 0, none⟩)] 100 (0, 0))
theorem FaiO.above {A A' : World} {yb bt l B : Nat} {q : List Int} (h : FaiO A yb bt l q) (hb : Above B A A') (hB : B ≤ yb) : FaiO A' yb bt l q := ⟨(hb.block _ hB (lt_of_block h.y)).trans h.y, (hb.block _ (by omega) (lt_of_block h.p)).trans h.p, (hb.block _ (by omega) (lt_of_block h.c)).trans h.c⟩
theorem FaiO.below {A A' : World} {yb bt l : Nat} {q : List Int} (h : FaiO A yb bt l q) (hb : Below (yb + 1 + 1 + 1) A A') : FaiO A' yb bt l q := ⟨(hb.block _ (by omega)).trans h.y, (hb.block _ (by omega)).trans h.p, (hb.block _ (by omega)).trans h.c⟩
theorem FaiO.lrn {A A' : World} {yb bt l bt' bc bk : Nat} {q : List Int} {a1 a2 a3 a4 : Option Addr} {k1 k2 k3 k4 : Nat} {t : PeW} {but : Nat} (h : FaiO A yb bt l q) (k : TownW A bt' bc bk a1 a2 a3 a4 k1 k2 k3 k4 t but) (hb : Lrn bc bk A A') : FaiO A' yb bt l q := ⟨hb.cellsB k h.y, hb.cellsB k h.p, hb.cellsB k h.c⟩
theorem FaiO.set {A : World} {yb bt l : Nat} {q : List Int} (h : FaiO A yb bt l q) (r : List Int) : FaiO (setPs A (yb + 1) r) yb bt l r := ⟨(setPs_other (by omega)).trans h.y, setPs_blk h.p, (setPs_other (by omega)).trans h.c⟩
set_option maxRecDepth 100000 in
set_option maxHeartbeats 4000000 in
theorem PFair1_any (a1 a2 a3 a4 : Option Addr) (k1 k2 k3 k4 : Nat) (t : PeW) (bt bc bk but p1 l0 B : Nat) (J Jx : List (List Int × Nat) → World → Prop) (W : World) (hv : PeOk t) (hbut : but < 16) (hB : B ≤ W.heap.size) (hR : ∀ A A', (Lrn bc bk A A' ∧ TownW A' bt bc bk a1 a2 a3 a4 k1 k2 k3 k4 t but) → Above B A A') (hJ : ∀ s A A', J s A → Bel 3 W.heap.size A A' → J s A') (hJx : ∀ s A A', Jx s A → Bel 3 W.heap.size A A' → Jx s A') (hJR : ∀ s A A', J s A → Lrn bc bk A A' ∧ TownW A' bt bc bk a1 a2 a3 a4 k1 k2 k3 k4 t but → J s A') (hJZ : ∀ s A, J s A → TruZ A p1 bt bc bk a1 a2 a3 a4 k1 k2 k3 k4 t but)
    (hY : ∀ pre x W1, J pre W1 → pre ++ [x] <+: fairL t but → YieldAt Fence.wide 0 Tryz.prog l0 (encP x) W1 fun e W' => (e = .returned (.bool true) ∧ J (pre ++ [x]) W' ∧ Above B W1 W') ∨ (e = .returned (.bool false) ∧ Jx (pre ++ [x]) W' ∧ Above W.heap.size W1 W')) (hj : J [] W) :
    Calls Tryz.prog 93 #[.func (.yield l0) #[] #[], .pointer (some ⟨p1, 0, none⟩)] W fun e W' => (∃ v, e = .returned v) ∧ (J (fairL t but) W' ∨ ∃ s, Jx s W') := by
  have TR := Lib.hid (fun V : World => PTruths_any bt V)
  have hSE := PTruths_seq a1 a2 a3 a4 k1 k2 k3 k4 t bt bc bk but (W.heap.size + 1 + 1) hv
  have NA := Lib.hid (fun (q : List Int) (hq : PsOk (padP q)) (V : World) (h : TownW V bt bc bk a1 a2 a3 a4 k1 k2 k3 k4 t but) => (show Calls Tryz.prog 95 #[.pointer (some ⟨bt, 0, none⟩), psV q] V fun e w' => e = .returned (.bool (namedB t q)) ∧ Lrn bc bk V w' ∧ TownW w' bt bc bk a1 a2 a3 a4 k1 k2 k3 k4 t but from by
    have := PNamed_any a1 a2 a3 a4 k1 k2 k3 k4 t bt bc bk but (padP q) V h hv hq
    rw [psV_ext (padP_at q), namedB_pad (padP_at q)] at this
    exact this))
  have TI := Lib.hid (fun (q : List Int) (hq : PsOk (padP q)) (V : World) (h : TownW V bt bc bk a1 a2 a3 a4 k1 k2 k3 k4 t but) => (show Calls Tryz.prog 96 #[.pointer (some ⟨bt, 0, none⟩), psV q] V fun e w' => e = .returned (.bool (tiedB t but q)) ∧ Below V.heap.size V w' from by
    have := PTied_any a1 a2 a3 a4 k1 k2 k3 k4 t bt bc bk but (padP q) V h hv hbut hq
    rw [psV_ext (padP_at q), tiedB_pad but (padP_at q)] at this
    exact this))
  have hz := hJZ _ _ hj
  have hlo1 := hz.tw.bc_lt
  have hlo2 := hz.tw.bk_lt
  have p0 := blk_cell 0 hz.c rfl
  have pz := lt_of_block hz.c
  simp only [List.getElem_toArray, List.getElem_cons_zero] at p0
  have HJR := Lib.hid hJR
  have HJ := Lib.hid hJ
  have HJX := Lib.hid hJx
  have HJZ := Lib.hid hJZ
  have HY := Lib.hid hY
  have HR := Lib.hid hR
  have HJ0 := Lib.hid hj
  have HV := Lib.hid hv
  clear hJR hJ hJZ hY hj hz hJx hR hv
  refine (callsIn_wide (n := 0)).1 ?_
  refine callsIn_of_wp_marks Tryz.func93 rfl trivial ?_ rfl
  simp only [Tryz.ntmps93, List.size_toArray, List.length_cons, List.length_nil, Nat.reduceAdd, Nat.reduceSub, Array.replicate_succ, Array.replicate_zero, List.push_toArray, List.append_toArray, List.nil_append, List.cons_append]
  refine (wpIn_wide (n := 0)).2 ?_
  go_wp2_with (go_at_call 94; go_must ((with_reducible refine (TR.out _).mono ?_); rintro e w3 ⟨rfl, rfl⟩; dsimp only))
  obtain ⟨X, hX⟩ : ∃ X : World, X = ((W.alloc (.cells #[.func (.yield l0) #[] #[]] 172)).alloc (.cells #[.int .i64 0, .int .i64 0, .int .i64 0, .int .i64 0, .int .i64 0, .int .i64 0] 109)).alloc (.cells #[.pointer (some ⟨bt, 0, none⟩)] 100) := ⟨_, rfl⟩
  have hsz : X.heap.size = W.heap.size + 1 + 1 + 1 := by rw [hX]; simp
  have hb0 : Below W.heap.size W X := by rw [hX]; exact (((Below.refl _ W).alloc (Nat.le_refl _) _).alloc (by simp) _).alloc (by simp; omega) _
  have hO0 : FaiO X W.heap.size bt l0 [] := by
    rw [hX]
    exact ⟨(heap_alloc_old _ _ (by simp; omega)).trans ((heap_alloc_old _ _ (by simp)).trans (alloc_atE _ _ rfl)), (heap_alloc_old _ _ (by simp)).trans (alloc_atE _ _ (by simp)), alloc_atE _ _ (by simp)⟩
  have hrc : ((W.alloc (.cells #[.func (.yield l0) #[] #[]] 172)).alloc (.cells #[.int .i64 0, .int .i64 0, .int .i64 0, .int .i64 0, .int .i64 0, .int .i64 0] 109)).heap.size = W.heap.size + 1 + 1 := by simp
  rw [← hX, hrc]
  have hj0 := HJ.out _ _ _ HJ0.out (Bel.grow hb0 (Nat.le_refl _))
  clear hX hrc
  refine (wpIn_wide (n := 0)).1 ?_
  refine wpIn_rangeFunc_Y (gf := 141) (lb := #[.pointer (some ⟨W.heap.size + 1 + 1, 0, none⟩)]) (by go_simp) (enters_of Tryz.func141 (by kernel_rfl) rfl) hSE (Nat.le_refl X.heap.size)
    (fun A A' h => h.1.above (by omega) (by omega)) (fun _ => rfl)
    (fun pre A => J (pre.filter (fairB t but)) A ∧ FaiO A W.heap.size bt l0 (lastP t but pre))
    (fun c _ A => c = .ret ∧ ∃ s, Jx s A)
    (fun s A A' h hb => ⟨HJ.out _ _ _ h.1 (hb.mono (by omega)), h.2.below (hb.below.mono (by omega))⟩)
    (fun c s A A' h hb => ⟨h.1, h.2.elim fun s h => ⟨s, HJX.out _ _ _ h (hb.mono (by omega))⟩⟩)
    (fun s A A' h hR => ⟨HJR.out _ _ _ h.1 hR, h.2.lrn (HJZ.out _ _ h.1).tw hR.1⟩)
    (fun s A h => ⟨(HJZ.out _ _ h.1).tw, h.2.c⟩)
    ⟨hj0, hO0⟩ ?round ?done ?stop
  case round =>
    intro l pre x V hl1 hl2 hI hpre
    have hxo := truths_ok (hpre.subset (by simp : x ∈ pre ++ [x]))
    have hxq : PsOk (padP x.1) := (tru_pre hxo).ps (by have := HV.out.nm; rw [hxo.len]; omega)
    have hlq : PsOk (padP (lastP t but pre)) := last_ps HV.out ((List.prefix_append _ _).trans hpre)
    have hxv : x.1.length ≤ 6 := by have := HV.out.nm; rw [hxo.len]; omega
    have hq := fun V => ps_eqE hxq hlq V
    rw [psV_ext (padP_at x.1), psV_ext (padP_at (lastP t but pre))] at hq
    have HLE := Lib.hid (fun e => last_eq (but := but) hpre e)
    have NX := Lib.hid (NA.out x.1 hxq)
    have TX := Lib.hid (TI.out x.1 hxq)
    have HLY := Lib.hid (fun h => lastP_yes (t := t) (but := but) (pre := pre) (x := x) h)
    have HLN := Lib.hid (fun h => lastP_no (t := t) (but := but) (pre := pre) (x := x) h)
    have HFY := Lib.hid (fun h => fil_yes (t := t) (but := but) (pre := pre) (x := x) h)
    have HFN := Lib.hid (fun h => fil_no (t := t) (but := but) (pre := pre) (x := x) h)
    have HFP := Lib.hid (fil_pre (but := but) hpre)
    have HB : Hid (fairB t but x = (namedB t x.1 && tiedB t but x.1)) := Lib.hid rfl
    have hx2 : (x.2 : Int) ≤ 6 := by have := HV.out.nm; have := hxo.many; omega
    clear hpre hxo hxq hlq hxv
    obtain ⟨xp, xm⟩ := x
    simp only at hq HLE NX TX HLY HLN HFY HFN HFP HB hx2
    generalize lastP t but pre = lp at *
    simp only [encP, psV]
    gi_wp2
    have hbV : Below V.heap.size V (V.alloc (.cells #[.int .i64 (pAt xp 0), .int .i64 (pAt xp 1), .int .i64 (pAt xp 2), .int .i64 (pAt xp 3), .int .i64 (pAt xp 4), .int .i64 (pAt xp 5)] 109)) := (Below.refl _ _).alloc (Nat.le_refl _) _
    refine ⟨Above.of_below hbV, ⟨HJ.out _ _ _ hI.1 (Bel.grow hbV (by omega)), hI.2.below (hbV.mono (by omega))⟩, ?_⟩
    intro Wb hs2 hblk hIb
    obtain ⟨hj1, hO1⟩ := hIb
    have hP1 : Wb.heap[V.heap.size]? = some (.cells (psCells xp) 109 (0, 0)) := (hblk _ (by omega)).trans (alloc_atE _ _ rfl)
    have hz1 : Wb.heap.size = V.heap.size + 1 := by rw [hs2]; simp
    clear hI hblk hs2 hbV
    have hz := HJZ.out _ _ hj1
    have NW := Lib.hid (NX.out Wb hz.tw)
    have HTW := Lib.hid hz.tw
    have c0 := blk_cell 0 hP1 rfl
    have c1 := blk_cell 1 hP1 rfl
    have c2 := blk_cell 2 hP1 rfl
    have c3 := blk_cell 3 hP1 rfl
    have c4 := blk_cell 4 hP1 rfl
    have c5 := blk_cell 5 hP1 rfl
    have cz := lt_of_block hP1
    have d0 := blk_cell 0 hO1.p rfl
    have d1 := blk_cell 1 hO1.p rfl
    have d2 := blk_cell 2 hO1.p rfl
    have d3 := blk_cell 3 hO1.p rfl
    have d4 := blk_cell 4 hO1.p rfl
    have d5 := blk_cell 5 hO1.p rfl
    have dz := lt_of_block hO1.p
    have p0 := blk_cell 0 hz.c rfl
    have pz := lt_of_block hz.c
    simp only [psCells, List.getElem_toArray, List.getElem_cons_zero, List.getElem_cons_succ] at c0 c1 c2 c3 c4 c5 d0 d1 d2 d3 d4 d5 p0
    unfold psV at hq
    have HJ1 := Lib.hid hj1
    have HO1 := Lib.hid hO1
    have HP1 := Lib.hid hP1
    clear hj1 hO1 hP1 hz
    generalize hnb : namedB t xp = nb at NW HB
    clear hnb
    have hcase : decide (padP xp = padP lp) = false ∨ (decide (padP xp = padP lp) = true ∧ ¬ (1 : Int) < (xm : Int) ∧ decide (1 < xm) = false) := by
      by_cases he : padP xp = padP lp
      · have := HLE.out he
        exact .inr ⟨decide_eq_true he, by omega, by simp; omega⟩
      · exact .inl (decide_eq_false he)
    rcases hcase with hc | ⟨hc, hm1, hm2⟩
    all_goals
      rw [hc] at hq
      clear hc
      cases nb
      · have HF : Hid (fairB t but (xp, xm) = false) := Lib.hid (by rw [HB.out]; rfl)
        gi_wp2
        refine ⟨trivial, rfl, ((CallsIn.inRound l (callsIn_wide.2 NW.out)).mono ?_)⟩
        rintro e w2 ⟨rfl, hl2, ht2⟩
        gi_wp2
        refine ⟨trivial, ?_⟩
        gi_wp2
        exact ⟨hl2.above (by omega) (by omega), by rw [HFN.out HF.out]; exact HJR.out _ _ _ HJ1.out ⟨hl2, ht2⟩, by rw [HLN.out HF.out]; exact HO1.out.lrn HTW.out hl2⟩
      · gi_wp2
        refine ⟨trivial, rfl, ((CallsIn.inRound l (callsIn_wide.2 NW.out)).mono ?_)⟩
        rintro e w2 ⟨rfl, hl2, ht2⟩
        have hj2 := HJR.out _ _ _ HJ1.out ⟨hl2, ht2⟩
        have hO2 := HO1.out.lrn HTW.out hl2
        have hP2 := hl2.cellsB HTW.out HP1.out
        have TW2 := Lib.hid (TX.out w2 ht2)
        have hz2 := HJZ.out _ _ hj2
        clear c0 c1 c2 c3 c4 c5 cz d0 d1 d2 d3 d4 d5 dz p0 pz hq
        have c0 := blk_cell 0 hP2 rfl
        have c1 := blk_cell 1 hP2 rfl
        have c2 := blk_cell 2 hP2 rfl
        have c3 := blk_cell 3 hP2 rfl
        have c4 := blk_cell 4 hP2 rfl
        have c5 := blk_cell 5 hP2 rfl
        have cz := lt_of_block hP2
        have p0 := blk_cell 0 hz2.c rfl
        have pz := lt_of_block hz2.c
        simp only [psCells, List.getElem_toArray, List.getElem_cons_zero, List.getElem_cons_succ] at c0 c1 c2 c3 c4 c5 p0
        have hs2 := hl2.size
        have HAB2 := Lib.hid (show Above X.heap.size Wb w2 from hl2.above (by omega) (by omega))
        have HJ2 := Lib.hid hj2
        have HO2 := Lib.hid hO2
        have HP2 := Lib.hid hP2
        clear hj2 hO2 hP2 hz2 ht2 hl2 HJ1 HO1 HP1 HTW NW
        generalize htb : tiedB t but xp = tb at TW2 HB
        clear htb
        cases tb
        · have HF : Hid (fairB t but (xp, xm) = false) := Lib.hid (by rw [HB.out]; rfl)
          gi_wp2
          refine ⟨trivial, rfl, ((CallsIn.inRound l (callsIn_wide.2 TW2.out)).mono ?_)⟩
          rintro e w3 ⟨rfl, hb3⟩
          gi_wp2
          exact ⟨HAB2.out.trans (Above.of_below hb3), by rw [HFN.out HF.out]; exact HJ.out _ _ _ HJ2.out (Bel.grow hb3 (by omega)), by rw [HLN.out HF.out]; exact HO2.out.below (hb3.mono (by omega))⟩
        · have HF : Hid (fairB t but (xp, xm) = true) := Lib.hid (by rw [HB.out]; rfl)
          have HFP2 := Lib.hid (show pre.filter (fairB t but) ++ [(xp, xm)] <+: fairL t but from by rw [← HFY.out HF.out]; exact HFP.out)
          gi_wp2
          refine ⟨trivial, rfl, ((CallsIn.inRound l (callsIn_wide.2 TW2.out)).mono ?_)⟩
          rintro e w3 ⟨rfl, hb3⟩
          have hj3 := HJ.out _ _ _ HJ2.out (Bel.grow hb3 (by omega))
          have hO3 := HO2.out.below (hb3.mono (by omega))
          have hP3 := (hb3.block _ (lt_of_block HP2.out)).trans HP2.out
          have hs3 := hb3.size
          have HAB3 := Lib.hid (HAB2.out.trans (Above.of_below hb3))
          obtain ⟨fn, tmps, assign, body, hyr, hRI⟩ := HY.out (pre.filter (fairB t but)) (xp, xm) w3 hj3 HFP2.out
          have HRI := Lib.hid hRI
          clear hRI hj3 c0 c1 c2 c3 c4 c5 cz p0 pz hb3 HJ2 HO2 HP2 HAB2 TW2
          have c0 := blk_cell 0 hP3 rfl
          have c1 := blk_cell 1 hP3 rfl
          have c2 := blk_cell 2 hP3 rfl
          have c3 := blk_cell 3 hP3 rfl
          have c4 := blk_cell 4 hP3 rfl
          have c5 := blk_cell 5 hP3 rfl
          have cz := lt_of_block hP3
          have y0 := blk_cell 0 hO3.y rfl
          have yz := lt_of_block hO3.y
          simp only [psCells, List.getElem_toArray, List.getElem_cons_zero, List.getElem_cons_succ] at c0 c1 c2 c3 c4 c5 y0
          have HO3 := Lib.hid hO3
          have HP3 := Lib.hid hP3
          clear hO3 hP3
          dsimp only [encP, psV] at hyr
          gi_wp2
          refine ⟨rfl, HRI.out.mono ?_⟩
          rintro e W4 (⟨rfl, hj4, hab4⟩ | ⟨rfl, hq, hab4⟩)
          · have hO4 := HO3.out.above hab4 hB
            have hP4 := (hab4.block _ (by omega) (lt_of_block HP3.out)).trans HP3.out
            have hs4 := hab4.size
            clear c0 c1 c2 c3 c4 c5 cz y0 yz hyr
            have c0 := blk_cell 0 hP4 rfl
            have c1 := blk_cell 1 hP4 rfl
            have c2 := blk_cell 2 hP4 rfl
            have c3 := blk_cell 3 hP4 rfl
            have c4 := blk_cell 4 hP4 rfl
            have c5 := blk_cell 5 hP4 rfl
            have cz := lt_of_block hP4
            have d0 := blk_cell 0 hO4.p rfl
            have d1 := blk_cell 1 hO4.p rfl
            have d2 := blk_cell 2 hO4.p rfl
            have d3 := blk_cell 3 hO4.p rfl
            have d4 := blk_cell 4 hO4.p rfl
            have d5 := blk_cell 5 hO4.p rfl
            have dz := lt_of_block hO4.p
            have f0 := blk_free 0 hO4.p
            have f1 := blk_free 1 hO4.p
            have f2 := blk_free 2 hO4.p
            have f3 := blk_free 3 hO4.p
            have f4 := blk_free 4 hO4.p
            have f5 := blk_free 5 hO4.p
            simp only [psCells, List.getElem_toArray, List.getElem_cons_zero, List.getElem_cons_succ] at c0 c1 c2 c3 c4 c5 d0 d1 d2 d3 d4 d5
            have HS := Lib.hid (hO4.set xp)
            have HSJ := Lib.hid (HJ.out _ _ (setPs W4 (W.heap.size + 1) xp) hj4 (setPs_bel hO4.p (by decide) (by omega)))
            have HSA := Lib.hid ((HAB3.out.trans (hab4.mono (by omega))).trans (setPs_above (L := xp) (b := W.heap.size + 1) (W := W4) (B := X.heap.size) (by omega)))
            clear hj4 hO4 hP4 hab4
            gi_wp2
            have hA := HSA.out
            have hJ5 := HSJ.out
            have hO5 := HS.out
            unfold setPs at hA hJ5 hO5
            exact ⟨hA, by rw [HFY.out HF.out]; exact hJ5, by rw [HLY.out HF.out]; exact hO5⟩
          · gi_wp2
            exact ⟨HAB3.out.trans (hab4.mono (by omega)), rfl, _, hq⟩
  case done =>
    intro D V hD hI hK
    obtain ⟨hj1, hO1⟩ := hI
    have hJ2 := HJ.out _ _ (V.putObj D (.deferred none)) hj1 (Bel.put hK (fun _ _ e => by cases e) (by omega))
    refine ⟨by simp, .inl ⟨_, _, rfl, run_takeDeferred hK, ?_⟩⟩
    exact ⟨_, results_none rfl _ _ _, ⟨_, rfl⟩, .inl hJ2⟩
  case stop =>
    intro D c pre V hD hI hK
    obtain ⟨rfl, s, hs⟩ := hI
    have hs2 := HJX.out _ _ (V.putObj D (.deferred none)) hs (Bel.put hK (fun _ _ e => by cases e) (by omega))
    gi_wp2
    refine ⟨by simp, .inl ⟨_, _, rfl, run_takeDeferred hK, ?_⟩⟩
    exact ⟨_, results_none rfl _ _ _, ⟨_, rfl⟩, .inr ⟨s, hs2⟩⟩
set_option maxHeartbeats 1000000 in
theorem PFair_any (bt : Nat) (w : World) :
    Calls Tryz.prog 44 #[.pointer (some ⟨bt, 0, none⟩)] w fun e w' => e = .returned (.func (.func 93) #[] #[.pointer (some ⟨w.heap.size, 0, none⟩)]) ∧ w' = w.alloc (.cells #[.pointer (some ⟨bt, 0, none⟩)] 100) := by
  go_enter Tryz.func44, Tryz.ntmps44
  go_wp2
  go_ret
  exact ⟨rfl, rfl⟩
/-- fair, as an iterator. -/
theorem PFair_seq (a1 a2 a3 a4 : Option Addr) (k1 k2 k3 k4 : Nat) (t : PeW) (bt bc bk but p1 : Nat) (hv : PeOk t) (hbut : but < 16) :
    SeqY Tryz.prog 3 93 #[.pointer (some ⟨p1, 0, none⟩)] encP (fun A A' => Lrn bc bk A A' ∧ TownW A' bt bc bk a1 a2 a3 a4 k1 k2 k3 k4 t but) (fun A => TruZ A p1 bt bc bk a1 a2 a3 a4 k1 k2 k3 k4 t but) (fairL t but) :=
  fun B l J Jx W hB hR hJ hJx hJR hJZ hY hj => callsIn_wide.2 (PFair1_any a1 a2 a3 a4 k1 k2 k3 k4 t bt bc bk but p1 l B J Jx W hv hbut hB hR hJ hJx hJR hJZ hY hj)
end Go.Proofs.YtklconegomgjaaaGreat
namespace Go.Proofs.YtklconegomgjaaaGreat
open Go Go.RowKit
set_option maxHeartbeats 1000000 in
theorem POff1_any (n lo hi : Int) (p q : Nat) (w : World) (h1 : w.cell? ⟨p, 0, none⟩ = some (.int .i64 lo)) (h2 : w.cell? ⟨q, 0, none⟩ = some (.int .i64 hi)) :
    Calls Tryz.prog 124 #[.int .i64 n, .pointer (some ⟨p, 0, none⟩), .pointer (some ⟨q, 0, none⟩)] w fun e w' => e = .returned (.bool (outB lo hi n)) ∧ w' = w := by
  have hp := lt_of_cell h1
  have hq := lt_of_cell h2
  have HO : Hid (outB lo hi n = (decide (n < lo) || decide (hi < n))) := rfl
  generalize outB lo hi n = r at HO ⊢
  by_cases a1 : n < lo
  · go_enter Tryz.func124, Tryz.ntmps124
    go_wp2
    go_ret
    exact ⟨ret_bool (by rw [HO.out]; simp [a1]), rfl⟩
  · by_cases a2 : hi < n
    all_goals
      go_enter Tryz.func124, Tryz.ntmps124
      go_wp2
      go_ret
      exact ⟨ret_bool (by rw [HO.out]; simp [a1, a2] <;> omega), rfl⟩
set_option maxHeartbeats 1000000 in
theorem POffIndex_any (a : Option Addr) (l : List Int) (c : Nat) (lo hi : Int) (p q : Nat) (w : World) (hl : l.length ≤ 9223372036854775807) (hi' : IntsC w a l) (h1 : w.cell? ⟨p, 0, none⟩ = some (.int .i64 lo)) (h2 : w.cell? ⟨q, 0, none⟩ = some (.int .i64 hi)) :
    Calls Tryz.prog 164 #[.slice a l.length c, .func (.func 124) #[] #[.pointer (some ⟨p, 0, none⟩), .pointer (some ⟨q, 0, none⟩)]] w fun e w' => ∃ k : Int, e = .returned (.int .i64 k) ∧ Hid (decide (0 ≤ k) = l.any (outB lo hi)) ∧ w' = w := by
  go_enter Tryz.func164, Tryz.ntmps164
  go_wp2
  go_loop [8] (fun i => ∃ k : Nat, k ≤ l.length ∧ i = .int .i64 k ∧ Hid (∀ j (_ : j < k) (h : j < l.length), outB lo hi l[j] = false)) (fun i => l.length - (intOf i).toNat)
  case atStart => exact ⟨0, Nat.zero_le _, rfl, Lib.hid (fun j h => absurd h (Nat.not_lt_zero j))⟩
  case round =>
    obtain ⟨k, hk, rfl, HR⟩ := hrel
    by_cases hlt : k < l.length
    · obtain ⟨b, off, rfl, hb, hx⟩ := hi' k hlt
      have B := POff1_any l[k] lo hi p q w h1 h2
      have HT := Lib.hid (fun (h : outB lo hi l[k] = true) => (any_lt hlt h : l.any (outB lo hi) = true))
      have HN := Lib.hid (fun (h : outB lo hi l[k] = false) => show ∀ j (_ : j < k + 1) (h : j < l.length), outB lo hi l[j] = false from fun j hj hjl => if hjk : j < k then HR.out j hjk hjl else (by have e : j = k := (by omega); subst e; exact h))
      generalize outB lo hi l[k] = br at B HT HN
      have B := Lib.hid B
      cases br
      · go_wp2_with (go_at_call 124; go_must (refine B.out.mono ?_; rintro e w2 ⟨rfl, hw2⟩; obtain rfl := hw2.symm; dsimp only))
        go_round
        case rel => exact ⟨k + 1, by omega, by go_num, Lib.hid (HN.out (by trivial))⟩
        case measure => simp [intOf]; omega
      · go_wp2_with (go_at_call 124; go_must (refine B.out.mono ?_; rintro e w2 ⟨rfl, hw2⟩; obtain rfl := hw2.symm; dsimp only))
        go_ret
        exact ⟨_, rfl, Lib.hid (by rw [HT.out (by trivial)]; simp), rfl⟩
    · obtain rfl : k = l.length := by omega
      go_wp2
      go_ret
      exact ⟨_, rfl, Lib.hid (by rw [any_not (fun j h => HR.out j h h)]; simp), rfl⟩
set_option maxHeartbeats 1000000 in
theorem POffContains_any (a : Option Addr) (l : List Int) (c : Nat) (lo hi : Int) (p q : Nat) (w : World) (hl : l.length ≤ 9223372036854775807) (hi' : IntsC w a l) (h1 : w.cell? ⟨p, 0, none⟩ = some (.int .i64 lo)) (h2 : w.cell? ⟨q, 0, none⟩ = some (.int .i64 hi)) :
    Calls Tryz.prog 122 #[.slice a l.length c, .func (.func 124) #[] #[.pointer (some ⟨p, 0, none⟩), .pointer (some ⟨q, 0, none⟩)]] w fun e w' => e = .returned (.bool (l.any (outB lo hi))) ∧ w' = w := by
  have I := Lib.hid (POffIndex_any a l c lo hi p q w hl hi' h1 h2)
  go_enter Tryz.func122, Tryz.ntmps122
  by_cases ha : l.any (outB lo hi) = true
  · go_wp2_with (go_at_call 164; go_must (refine I.out.mono ?_; rintro e w2 ⟨k, rfl, hk, hw2⟩; obtain rfl := hw2.symm; have hk2 : 0 ≤ k := of_decide_eq_true (hk.out.trans ha); dsimp only))
    go_ret
    exact ⟨rfl, rfl⟩
  · go_wp2_with (go_at_call 164; go_must (refine I.out.mono ?_; rintro e w2 ⟨k, rfl, hk, hw2⟩; obtain rfl := hw2.symm; have hk2 : ¬ 0 ≤ k := of_decide_eq_false (hk.out.trans (Bool.eq_false_iff.2 ha)); dsimp only))
    go_ret
    exact ⟨rfl, rfl⟩
set_option maxHeartbeats 1000000 in
theorem POff_any (a : Option Addr) (l : List Int) (c : Nat) (lo hi : Int) (w : World) (hl : l.length ≤ 9223372036854775807) (hi' : IntsC w a l) :
    Calls Tryz.prog 81 #[.int .i64 lo, .int .i64 hi, .slice a l.length c] w fun e w' => e = .returned (.bool (l.any (outB lo hi))) ∧ Below w.heap.size w w' := by
  have g1 : ((w.alloc (.cells #[.int .i64 lo] 3)).alloc (.cells #[.int .i64 hi] 3)).cell? ⟨w.heap.size, 0, none⟩ = some (.int .i64 lo) := blk_cell 0 (blk_below ((Below.refl (w.heap.size + 1) _).alloc (by simp) _) (by omega) (blk_new w _)) rfl
  have g2 : ((w.alloc (.cells #[.int .i64 lo] 3)).alloc (.cells #[.int .i64 hi] 3)).cell? ⟨w.heap.size + 1, 0, none⟩ = some (.int .i64 hi) := by simp
  have C := Lib.hid (POffContains_any a l c lo hi _ _ _ hl (hi'.mono (((Below.refl _ w).alloc (Nat.le_refl _) _).alloc (by simp) _)) g1 g2)
  clear g1 g2
  go_enter Tryz.func81, Tryz.ntmps81
  go_wp2_with (go_at_call 122; go_must (refine C.out.mono ?_; rintro e w2 ⟨rfl, hw2⟩; obtain rfl := hw2.symm; dsimp only))
  go_ret
  exact ⟨rfl, by go_grown⟩
theorem POffOne_any (x lo hi : Int) (a : Nat) (w : World) (h : w.cell? ⟨a, 0, none⟩ = some (.int .i64 x)) :
    Calls Tryz.prog 81 #[.int .i64 lo, .int .i64 hi, .slice (some ⟨a, 0, none⟩) 1 1] w fun e w' => e = .returned (.bool (!inB x lo hi)) ∧ Below w.heap.size w w' := by
  have := POff_any (some ⟨a, 0, none⟩) [x] 1 lo hi w (by simp) (fun i hi => by have e : i = 0 := (by simp at hi; omega); subst e; exact ⟨a, 0, rfl, lt_of_cell h, by simpa using h⟩)
  simpa [outB_eq] using this
end Go.Proofs.YtklconegomgjaaaGreat
