/- What is proved here: the contract of ways of a form that is looked at. Conditions: the form is fine; the letter lies in memory. -/
import Derived.Test.YtelmponkmmfffaaGreatLeWaysG
import Derived.Test.YtelmponkmmfffaaGreatDeFailG
import Derived.Stop.RegionWithIn
import Derived.Sort.CutIn
set_option linter.unusedVariables false
set_option linter.unusedSimpArgs false
namespace Go.Proofs.YtelmponkmmfffaaGreat
open Go Go.RowKit Go.Shelf
attribute [local go_sem] Oper.semAt_some
/-- The cells of ways. -/
structure WaysI (w : World) (p0 : Nat) (al : Option Addr) (n cl : Nat) (s : List Int × List Int × Nat) (W : World) : Prop where
  f : W.heap[w.heap.size]? = some (.cells #[.pointer (some ⟨p0, 0, none⟩)] 95 (0, 0))
  l : W.heap[w.heap.size + 1]? = some (.cells #[.slice al n cl] 44 (0, 0))
  first : W.heap[w.heap.size + 1 + 1]? = some (.cells (manyCells s.2.1) 106 (0, 0))
  ways : W.heap[w.heap.size + 1 + 1 + 1]? = some (.cells #[.int .i64 (s.2.2 : Int)] 3 (0, 0))
  last : W.heap[w.heap.size + 1 + 1 + 1 + 1]? = some (.cells (manyCells s.1) 106 (0, 0))
  c : W.heap[w.heap.size + 1 + 1 + 1 + 1 + 1]? = some (.cells #[.pointer (some ⟨p0, 0, none⟩)] 95 (0, 0))
  bel : Below w.heap.size w W
theorem WaysI.below {w : World} {p0 : Nat} {al : Option Addr} {n cl : Nat} {s : List Int × List Int × Nat} {A A' : World} (k : WaysI w p0 al n cl s A) (hb : Below (w.heap.size + 6) A A') : WaysI w p0 al n cl s A' :=
  ⟨(hb.block _ (by omega)).trans k.f, (hb.block _ (by omega)).trans k.l, (hb.block _ (by omega)).trans k.first, (hb.block _ (by omega)).trans k.ways, (hb.block _ (by omega)).trans k.last, (hb.block _ (by omega)).trans k.c, k.bel.trans (hb.mono (by omega))⟩
@[reducible] def set5M (W : World) (b : Nat) (m : List Int) : World := ((((W.setCell ⟨b, 0, none⟩ (.int .i64 (mAt m 0))).setCell ⟨b, 1, none⟩ (.int .i64 (mAt m 1))).setCell ⟨b, 2, none⟩ (.int .i64 (mAt m 2))).setCell ⟨b, 3, none⟩ (.int .i64 (mAt m 3))).setCell ⟨b, 4, none⟩ (.int .i64 (mAt m 4))
theorem many_store {W : World} {b : Nat} {t : TypeId} {a m : List Int} (h : W.heap[b]? = some (.cells (manyCells a) t (0, 0))) :
    (set5M W b m).heap[b]? = some (.cells (manyCells m) t (0, 0)) ∧ (∀ B, B ≤ b → Below B W (set5M W b m)) ∧ (∀ j, j ≠ b → (set5M W b m).heap[j]? = W.heap[j]?) ∧ (∀ B, b < B → Above B W (set5M W b m)) := by
  refine ⟨?_, fun B hB => ?_, fun j hj => ?_, fun B hB => ?_⟩
  · have h1 := blk_set 4 (.int .i64 (mAt m 4)) (blk_set 3 (.int .i64 (mAt m 3)) (blk_set 2 (.int .i64 (mAt m 2)) (blk_set 1 (.int .i64 (mAt m 1)) (blk_set 0 (.int .i64 (mAt m 0)) h))))
    simpa [manyCells] using h1
  · exact (((((Below.refl B W).setCell hB _).setCell hB _).setCell hB _).setCell hB _).setCell hB _
  · exact (Below.heap_setCell _ _ _ _ hj).trans ((Below.heap_setCell _ _ _ _ hj).trans ((Below.heap_setCell _ _ _ _ hj).trans ((Below.heap_setCell _ _ _ _ hj).trans (Below.heap_setCell _ _ _ _ hj))))
  · exact ((((above_set B _ b 0 _ hB).trans (above_set B _ b 1 _ hB)).trans (above_set B _ b 2 _ hB)).trans (above_set B _ b 3 _ hB)).trans (above_set B _ b 4 _ hB)
theorem WaysI.store {w : World} {p0 : Nat} {al : Option Addr} {n cl : Nat} {a b : List Int} {c : Nat} {W : World} (k : WaysI w p0 al n cl (a, b, c) W) : WaysI w p0 al n cl (a, b, c) (set5M W (w.heap.size + 1 + 1) b) := by
  obtain ⟨k1, k2, k3, -⟩ := many_store (m := b) k.first
  exact ⟨(k3 _ (by omega)).trans k.f, (k3 _ (by omega)).trans k.l, k1, (k3 _ (by omega)).trans k.ways, (k3 _ (by omega)).trans k.last, (k3 _ (by omega)).trans k.c, k.bel.trans (k2 _ (by omega))⟩
theorem WaysI.store2 {w : World} {p0 : Nat} {al : Option Addr} {n cl : Nat} {a b : List Int} {c : Nat} {W : World} (k : WaysI w p0 al n cl (a, b, c) W) : WaysI w p0 al n cl (a, b, c) (W.setCell ⟨w.heap.size + 1 + 1 + 1, 0, none⟩ (.int .i64 (c : Int))) := by
  have k3 := fun j (hj : j ≠ w.heap.size + 1 + 1 + 1) => Below.heap_setCell W ⟨w.heap.size + 1 + 1 + 1, 0, none⟩ (.int .i64 (c : Int)) j hj
  exact ⟨(k3 _ (by omega)).trans k.f, (k3 _ (by omega)).trans k.l, (k3 _ (by omega)).trans k.first, blk_set 0 _ k.ways, (k3 _ (by omega)).trans k.last, (k3 _ (by omega)).trans k.c, k.bel.trans ((Below.refl _ _).setCell (by simp; omega) _)⟩
theorem results_cc {fn : Func} {p q : Tmp} {ty tz : TypeId} (h : fn.results = #[.cell p ty, .cell q tz]) (tmps : Array Value) (P : Program) (w : World) :
    (results fn tmps).run P w =
      ((asAddr (tmps.getD p undef)).run P w).andThen fun a w₁ => ((loadVar ty a).run P w₁).andThen fun x w₂ => ((asAddr (tmps.getD q undef)).run P w₂).andThen fun b w₃ => ((loadVar tz b).run P w₃).andThen fun y w₄ => .ok (.tuple #[x, y]) w₄ := by
  simp only [results, h]
  simp [Sem.run_bind, Result.andThen]
set_option maxRecDepth 100000 in
set_option maxHeartbeats 16000000 in
theorem LWays_any (p0 : Nat) (f : LeF) (al : Option Addr) (l : List ByteArray) (cl : Nat) (w : World) (hFW : FormW w p0 f) (hok : LeFOk f) (hol : SlOk al l.length cl) (hil : StrsC w al l) :
    Calls Tryz.prog 51 #[.pointer (some ⟨p0, 0, none⟩), .slice al l.length cl] w fun e w' => e = .returned (.tuple #[manyV (waysG f.parts l).2.1, .int .i64 ((waysG f.parts l).2.2 : Int)]) ∧ Below w.heap.size w w' := by
  have hpok : ∀ p ∈ f.parts, LePOk p := fun p hp => by obtain ⟨i, hi, rfl⟩ := List.getElem_of_mem hp; exact hok.part i hi
  have hrk := rooms_ok _ hpok
  have hr5 : (roomsF f.parts).length ≤ 5 := Nat.le_trans (rooms_len _) hok.many
  have hco := counts_ok _ hrk
  have HCO := Lib.hid hco
  have hsl := Lib.hid (fun m (hm : m ∈ countsF (roomsF f.parts)) => show (shapeF f.parts m).length ≤ 9223372036854775807 from by
    have := shape_len f.parts m hpok (hco m hm).2
    have := hok.many
    omega)
  have hll := hol.len
  have HSH := Lib.hid (fun (V : World) (h : Below w.heap.size w V) m (hm : m ∈ countsF (roomsF f.parts)) => LShape_any p0 f m V (hFW.mono h) hok (hco m hm).2)
  have HEQ := Lib.hid (fun (V : World) (h : Below w.heap.size w V) (aa : Option Addr) (ca : Nat) m (hm : m ∈ countsF (roomsF f.parts)) (hi : StrsC V aa (shapeF f.parts m)) => LEqualF_any aa al (shapeF f.parts m) l ca cl V (hsl.out m hm) hll hi (hil.mono h))
  have HWK := Lib.hid (fun (pre : List (List Int)) (hp : pre <+: countsF (roomsF f.parts)) => ways_ok (fun m => fitL (shapeF f.parts m) l) (roomsF f.parts).length hr5 pre (fun m hm => hco m (hp.subset hm)))
  have HCF := Lib.hid (counts_few _ hrk)
  have hG : waysG f.parts l = waysOf (fun m => fitL (shapeF f.parts m) l) (countsF (roomsF f.parts)) := rfl
  have HWS := Lib.hid (ways_snoc (fun m => fitL (shapeF f.parts m) l))
  rw [hG]
  have hFM := Lib.hid (fun (V : World) (h : Below w.heap.size w V) => hFW.mono h)
  have hp0 : p0 < w.heap.size := by obtain ⟨_, _, _, _, h, _⟩ := hFW; exact lt_of_block h
  have hr5' := Lib.hid hr5
  have HOK := Lib.hid hok
  clear hpok hrk hco hG hFW hil hr5 hok
  refine (callsIn_wide (n := 0)).1 ?_
  refine callsIn_of_wp_marks Tryz.func51 rfl trivial ?_ rfl
  simp only [Tryz.ntmps51, List.size_toArray, List.length_cons, List.length_nil, Nat.reduceAdd, Nat.reduceSub, Array.replicate_succ, Array.replicate_zero, List.push_toArray, List.append_toArray, List.nil_append, List.cons_append]
  refine (wpIn_wide (n := 0)).2 ?_
  go_upto_region 2 with (fail)
  obtain ⟨X, hX⟩ : ∃ X : World, X = ((((w.alloc (.cells #[.pointer (some ⟨p0, 0, none⟩)] 95)).alloc (.cells #[.slice al l.length cl] 44)).alloc (.cells #[.int .i64 0, .int .i64 0, .int .i64 0, .int .i64 0, .int .i64 0] 106)).alloc (.cells #[.int .i64 0] 3)).alloc (.cells #[.int .i64 (-1), .int .i64 0, .int .i64 0, .int .i64 0, .int .i64 0] 106) := ⟨_, rfl⟩
  rw [← hX]
  have hwX : Below w.heap.size w X := by rw [hX]; exact (by (repeat' (first | assumption | exact Below.refl _ _ | refine below_drew' ?_ | refine Below.setCell ?_ (by first | omega | (simp <;> omega)) _ | refine Below.alloc ?_ (by first | omega | (simp <;> omega)) _)))
  have hXs := Lib.hid (show X.heap.size = w.heap.size + 5 by rw [hX]; simp)
  have g0 : X.heap[w.heap.size]? = some (.cells #[.pointer (some ⟨p0, 0, none⟩)] 95 (0, 0)) := by rw [hX]; (repeat' (first | exact alloc_at _ _ (by simp) | refine (heap_alloc_old _ _ (by first | omega | (simp <;> omega))).trans ?_))
  have g1 : X.heap[w.heap.size + 1]? = some (.cells #[.slice al l.length cl] 44 (0, 0)) := by rw [hX]; (repeat' (first | exact alloc_at _ _ (by simp) | refine (heap_alloc_old _ _ (by first | omega | (simp <;> omega))).trans ?_))
  have g2 : X.heap[w.heap.size + 1 + 1]? = some (.cells #[.int .i64 0, .int .i64 0, .int .i64 0, .int .i64 0, .int .i64 0] 106 (0, 0)) := by rw [hX]; (repeat' (first | exact alloc_at _ _ (by simp) | refine (heap_alloc_old _ _ (by first | omega | (simp <;> omega))).trans ?_))
  have g3 : X.heap[w.heap.size + 1 + 1 + 1]? = some (.cells #[.int .i64 0] 3 (0, 0)) := by rw [hX]; (repeat' (first | exact alloc_at _ _ (by simp) | refine (heap_alloc_old _ _ (by first | omega | (simp <;> omega))).trans ?_))
  have g4 : X.heap[w.heap.size + 1 + 1 + 1 + 1]? = some (.cells #[.int .i64 (-1), .int .i64 0, .int .i64 0, .int .i64 0, .int .i64 0] 106 (0, 0)) := by rw [hX]; (repeat' (first | exact alloc_at _ _ (by simp) | refine (heap_alloc_old _ _ (by first | omega | (simp <;> omega))).trans ?_))
  clear hX
  have c0 := blk_cell 0 g0 rfl
  have z0 := lt_of_block g0
  (try simp only [List.getElem_toArray, List.getElem_cons_zero] at c0)
  have CT := Lib.hid (LCounts_any p0 X)
  go_wp2_with (go_at_call 96; go_must ((with_reducible refine CT.out.mono ?_); rintro e w3 ⟨rfl, rfl⟩; dsimp only))
  obtain ⟨Y, hY⟩ : ∃ Y : World, Y = X.alloc (.cells #[.pointer (some ⟨p0, 0, none⟩)] 95) := ⟨_, rfl⟩
  rw [← hY]
  have hXY : Below X.heap.size X Y := by rw [hY]; exact (Below.refl _ _).alloc (Nat.le_refl _) _
  have hYs := Lib.hid (show Y.heap.size = w.heap.size + 6 by rw [hY]; have := hXs.out; simp; omega)
  have hI0 : WaysI w p0 al l.length cl (waysOf (fun m => fitL (shapeF f.parts m) l) []) Y := by
    have hxs := hXs.out
    refine ⟨(hXY.block _ (by omega)).trans g0, (hXY.block _ (by omega)).trans g1, (hXY.block _ (by omega)).trans g2, (hXY.block _ (by omega)).trans g3, (hXY.block _ (by omega)).trans g4, ?_, hwX.trans (hXY.mono hwX.size)⟩
    rw [hY]
    exact alloc_at _ _ (by omega)
  clear hY c0 z0 g0 g1 g2 g3 g4
  refine (wpIn_wide (n := 0)).1 ?_
  refine wpIn_rangeFunc_T (gf := 132) (lb := #[.pointer (some ⟨X.heap.size, 0, none⟩)]) rfl (enters_of Tryz.func132 (by kernel_rfl) rfl)
    (LCnt_seq X.heap.size p0 f Y HOK.out) (Below.refl _ _) (Nat.le_refl _) (fun _ => rfl)
    (fun pre W => WaysI w p0 al l.length cl (waysOf (fun m => fitL (shapeF f.parts m) l) pre) W)
    ?closed ?reads hI0 ?round ?done
  case closed => exact fun s A A' h hb => h.below (by have := hYs.out; rw [this] at hb; exact hb)
  case reads => exact fun s A h => ⟨by have := hXs.out; rw [this]; exact h.c, hFM.out A h.bel⟩
  case round =>
    intro lp pre x W hl1 hl2 hI hpre
    have hx : x ∈ countsF (roomsF f.parts) := hpre.subset (by simp)
    have hys := hYs.out
    have hHI := Lib.hid hI
    simp only [encM, manyV]
    gi_wp2
    obtain ⟨U, hU⟩ : ∃ U : World, U = W.alloc (.cells (manyCells x) 106) := ⟨_, rfl⟩
    have hbU : Below W.heap.size W U := by rw [hU]; exact (Below.refl _ _).alloc (Nat.le_refl _) _
    have hxU : U.heap[W.heap.size]? = some (.cells (manyCells x) 106 (0, 0)) := by rw [hU]; exact alloc_at _ _ rfl
    rw [← hU]
    clear hU
    have hIU := hI.below (hbU.mono (by omega))
    refine ⟨Above.of_below hbU, hIU, ?_⟩
    intro Wb hsz hblk hIb
    have hxb : Wb.heap[W.heap.size]? = some (.cells (manyCells x) 106 (0, 0)) := (hblk _ (by omega)).trans hxU
    have hWY : w.heap.size + 6 ≤ W.heap.size := by omega
    clear hsz hblk hIU hI hbU hxU hHI
    have hst := HWS.out pre x
    have hok := HWK.out pre ((List.prefix_append _ _).trans hpre)
    have hxo := HCO.out x hx
    have hso : ∀ q ∈ (waysOf (fun m => fitL (shapeF f.parts m) l) pre).1, SmL q := fun q hq => by
      rcases hok.last with ⟨-, e⟩ | hm
      · rw [e] at hq; simp at hq; subst hq; unfold SmL; omega
      · have := (HCO.out _ (((List.prefix_append _ _).trans hpre).subset hm)).2 q hq; unfold SmL; omega
    have hpl : pre.length ≤ 4 ^ 5 := by
      have h1 := hpre.length_le
      have h2 := HCF.out
      have h3 := Nat.pow_le_pow_right (by decide : 0 < 4) hr5'.out
      simp at h1
      omega
    have hsm := hok.many
    generalize waysOf (fun m => fitL (shapeF f.parts m) l) pre = s at *
    obtain ⟨last, first, n⟩ := s
    have hq := fun V => many_eq (fun q hq => (show SmL q by have := hxo.2 q hq; unfold SmL; omega)) hso V (a := x)
    have HX := Lib.hid hst
    unfold waysStep at HX
    simp only at hq hso hsm hIb HX
    generalize sameM x last = c at hq HX
    have hQ := Lib.hid hq
    have d0 := many_cell hxb 0 (by decide)
    have d1 := many_cell hxb 1 (by decide)
    have d2 := many_cell hxb 2 (by decide)
    have d3 := many_cell hxb 3 (by decide)
    have d4 := many_cell hxb 4 (by decide)
    have dz := lt_of_block hxb
    have e0 := many_cell hIb.last 0 (by decide)
    have e1 := many_cell hIb.last 1 (by decide)
    have e2 := many_cell hIb.last 2 (by decide)
    have e3 := many_cell hIb.last 3 (by decide)
    have e4 := many_cell hIb.last 4 (by decide)
    have ez := lt_of_block hIb.last
    clear hst hok
    simp only [manyV] at hq
    cases c
    · have f0 := blk_free 0 hIb.last
      have f1 := blk_free 1 hIb.last
      have f2 := blk_free 2 hIb.last
      have f3 := blk_free 3 hIb.last
      have f4 := blk_free 4 hIb.last
      gi_upto_region 6 with (fail)
      obtain ⟨Z, hZ⟩ : ∃ Z : World, Z = ((((Wb.setCell ⟨w.heap.size + 1 + 1 + 1 + 1, 0, none⟩ (.int .i64 (mAt x 0))).setCell ⟨w.heap.size + 1 + 1 + 1 + 1, 1, none⟩ (.int .i64 (mAt x 1))).setCell ⟨w.heap.size + 1 + 1 + 1 + 1, 2, none⟩ (.int .i64 (mAt x 2))).setCell ⟨w.heap.size + 1 + 1 + 1 + 1, 3, none⟩ (.int .i64 (mAt x 3))).setCell ⟨w.heap.size + 1 + 1 + 1 + 1, 4, none⟩ (.int .i64 (mAt x 4)) := ⟨_, rfl⟩
      rw [← hZ]
      obtain ⟨k1, k2, k3, k4⟩ := many_store (m := x) hIb.last
      rw [show set5M Wb (w.heap.size + 1 + 1 + 1 + 1) x = Z from hZ.symm] at k1 k3 k4
      have kb : Below w.heap.size Wb Z := by rw [hZ]; exact k2 _ (by omega)
      have hAZ : Above Y.heap.size Wb Z := k4 _ (by omega)
      have hIZ : WaysI w p0 al l.length cl (x, first, n) Z := ⟨(k3 _ (by omega)).trans hIb.f, (k3 _ (by omega)).trans hIb.l, (k3 _ (by omega)).trans hIb.first, (k3 _ (by omega)).trans hIb.ways, k1, (k3 _ (by omega)).trans hIb.c, hIb.bel.trans kb⟩
      have hxZ := (k3 W.heap.size (by omega)).trans hxb
      clear hZ k1 k2 k3 k4 kb f0 f1 f2 f3 f4 d0 d1 d2 d3 d4 dz e0 e1 e2 e3 e4 ez hq hIb hxb
      have hzb := hIZ.bel.size
      have KZ : Hid (∀ U, Below Z.heap.size Z U → (U.cell? ⟨w.heap.size, 0, none⟩ = some (.pointer (some ⟨p0, 0, none⟩)) ∧ U.cell? ⟨w.heap.size + 1, 0, none⟩ = some (.slice al l.length cl) ∧ U.cell? ⟨W.heap.size, 0, none⟩ = some (.int .i64 (mAt x 0)) ∧ U.cell? ⟨W.heap.size, 1, none⟩ = some (.int .i64 (mAt x 1)) ∧ U.cell? ⟨W.heap.size, 2, none⟩ = some (.int .i64 (mAt x 2)) ∧ U.cell? ⟨W.heap.size, 3, none⟩ = some (.int .i64 (mAt x 3)) ∧ U.cell? ⟨W.heap.size, 4, none⟩ = some (.int .i64 (mAt x 4)) ∧ w.heap.size < U.heap.size ∧ w.heap.size + 1 < U.heap.size ∧ W.heap.size < U.heap.size)) := Lib.hid (fun U h => by
        have g := (h.block _ (lt_of_block hxZ)).trans hxZ
        have g1 := (h.block _ (lt_of_block hIZ.f)).trans hIZ.f
        have g2 := (h.block _ (lt_of_block hIZ.l)).trans hIZ.l
        exact ⟨blk_cell 0 g1 rfl, blk_cell 0 g2 rfl, many_cell g 0 (by decide), many_cell g 1 (by decide), many_cell g 2 (by decide), many_cell g 3 (by decide), many_cell g 4 (by decide), lt_of_block g1, lt_of_block g2, lt_of_block g⟩)
      have hZ0 := below_drew' (Below.refl Z.heap.size Z)
      have SH := Lib.hid (HSH.out Z.drew (hIZ.bel.drew) x hx)
      refine wpIn_region_round (fun U => (U.cell? ⟨w.heap.size, 0, none⟩ = some (.pointer (some ⟨p0, 0, none⟩)) ∧ U.cell? ⟨w.heap.size + 1, 0, none⟩ = some (.slice al l.length cl) ∧ U.cell? ⟨W.heap.size, 0, none⟩ = some (.int .i64 (mAt x 0)) ∧ U.cell? ⟨W.heap.size, 1, none⟩ = some (.int .i64 (mAt x 1)) ∧ U.cell? ⟨W.heap.size, 2, none⟩ = some (.int .i64 (mAt x 2)) ∧ U.cell? ⟨W.heap.size, 3, none⟩ = some (.int .i64 (mAt x 3)) ∧ U.cell? ⟨W.heap.size, 4, none⟩ = some (.int .i64 (mAt x 4)) ∧ w.heap.size < U.heap.size ∧ w.heap.size + 1 < U.heap.size ∧ W.heap.size < U.heap.size)) ?_ (by kernel_rfl) (noDefer_spec (by kernel_rfl)) (KZ.out _ hZ0) (fun hHeld => ?_)
      · intro h
        obtain ⟨_, _, h⟩ := h
        exact h
      (refine wpAnyH_take (i := 0) (v := ?_) rfl (by kernel_rfl) (by kernel_rfl) (by kernel_rfl) (fun _ _ _ h => h) (Or.inl ⟨by kernel_rfl, ?_⟩) (by assumption) ?_; rotate_left 1; (focus (intro w hSw; (try dsimp only at hSw); go_simp; first | done | with_reducible rfl)); simp only [Act.put, List.getElem_toArray, List.getElem_cons_succ, List.getElem_cons_zero, List.setIfInBounds_toArray, List.set_cons_succ, List.set_cons_zero])
      (refine wpAnyH_take (i := 1) (v := ?_) rfl (by kernel_rfl) (by kernel_rfl) (by kernel_rfl) (fun _ _ _ h => h) (Or.inl ⟨by kernel_rfl, ?_⟩) (by assumption) ?_; rotate_left 1; (focus (intro w hSw; (try dsimp only at hSw); go_simp; first | done | with_reducible rfl)); simp only [Act.put, List.getElem_toArray, List.getElem_cons_succ, List.getElem_cons_zero, List.setIfInBounds_toArray, List.set_cons_succ, List.set_cons_zero])
      (refine wpAnyH_take (i := 3) (v := ?_) rfl (by kernel_rfl) (by kernel_rfl) (by kernel_rfl) (fun _ _ _ h => h) (Or.inl ⟨by kernel_rfl, ?_⟩) (by assumption) ?_; rotate_left 1; (focus (intro w hSw; (try dsimp only at hSw); go_simp; first | done | with_reducible rfl)); simp only [Act.put, List.getElem_toArray, List.getElem_cons_succ, List.getElem_cons_zero, List.setIfInBounds_toArray, List.set_cons_succ, List.set_cons_zero])
      (refine wpAnyH_ready (rs := [2]) (by kernel_rfl) (by simp) ?_; refine AllReadyH.cons rfl (fun K hK => ?_) AllReadyH.nil; go_simp)
      (go_wp2_with (go_at_call 98; go_must ((with_reducible refine SH.out.mono ?_); rintro e w4 ⟨a5, c5, rfl, hs5, hi5, hb4⟩; dsimp only)))
      have hZ4 := hZ0.trans (hb4.mono (by simp))
      refine hK.out _ _ (KZ.out _ hZ4) (fun hHeld => ?_)
      (try simp only [Act.put, List.getElem_toArray, List.getElem_cons_succ, List.getElem_cons_zero, List.setIfInBounds_toArray, List.set_cons_succ, List.set_cons_zero])
      clear hK
      have EQ := Lib.hid (HEQ.out w4 (hIZ.bel.trans (hZ4.mono hzb)) a5 c5 x hx hi5)
      (refine wpAnyH_ready (rs := [4]) (by kernel_rfl) (by simp) ?_; refine AllReadyH.cons rfl (fun K hK => ?_) AllReadyH.nil; go_simp)
      (go_wp2_with (go_at_call 97; go_must ((with_reducible refine EQ.out.mono ?_); rintro e w5 ⟨rfl, hw5⟩; obtain rfl := hw5.symm; dsimp only)))
      refine hK.out _ _ (KZ.out _ hZ4) (fun hHeld => ?_)
      (try simp only [Act.put, List.getElem_toArray, List.getElem_cons_succ, List.getElem_cons_zero, List.setIfInBounds_toArray, List.set_cons_succ, List.set_cons_zero])
      clear hK
      (refine wpAnyH_take (i := 5) (v := ?_) rfl (by kernel_rfl) (by kernel_rfl) (by kernel_rfl) (fun _ _ _ h => h) (Or.inl ⟨by kernel_rfl, ?_⟩) (by assumption) ?_; rotate_left 1; (focus (intro w hSw; (try dsimp only at hSw); go_simp; first | done | with_reducible rfl)); simp only [Act.put, List.getElem_toArray, List.getElem_cons_succ, List.getElem_cons_zero, List.setIfInBounds_toArray, List.set_cons_succ, List.set_cons_zero])
      refine wpAnyH_done (by kernel_rfl) ?_ _
      have hI4 := hIZ.below (hZ4.mono (by have := lt_of_block hxZ; omega))
      have hA4 := hAZ.trans (Above.of_below (B := Y.heap.size) hZ4)
      have hx4 := (hZ4.block _ (lt_of_block hxZ)).trans hxZ
      clear hIZ hAZ hxZ KZ SH EQ hHeld hs5 hi5 hb4 hZ0 hZ4 hzb
      generalize fitL (shapeF f.parts x) l = q at HX ⊢
      have hn : n ≤ 1024 := by omega
      cases q
      · gi_wp2
        refine ⟨hA4, ?_⟩
        show WaysI w p0 al l.length cl (waysOf _ (pre ++ [x])) w4
        rw [HX.out]
        simpa using hI4
      · have c3 : w4.cell? ⟨w.heap.size + 1 + 1 + 1, 0, none⟩ = some (.int .i64 (n : Int)) := blk_cell 0 hI4.ways rfl
        have f3 := blk_free 0 hI4.ways
        have z3 := lt_of_block hI4.ways
        gi_upto_region 8 with (fail)
        obtain ⟨V, hV⟩ : ∃ V : World, V = w4.setCell ⟨w.heap.size + 1 + 1 + 1, 0, none⟩ (.int .i64 ((n : Int) + 1)) := ⟨_, rfl⟩
        rw [← hV]
        have hbV : Below w.heap.size w4 V := by rw [hV]; exact (Below.refl _ _).setCell (by simp; omega) _
        have hAV : Above Y.heap.size w4 V := by rw [hV]; exact above_set _ _ _ _ _ (by omega)
        have hoV : ∀ j, j ≠ w.heap.size + 1 + 1 + 1 → V.heap[j]? = w4.heap[j]? := fun j hj => by rw [hV]; exact Below.heap_setCell _ _ _ _ hj
        have hIV : WaysI w p0 al l.length cl (x, first, n + 1) V := ⟨(hoV _ (by omega)).trans hI4.f, (hoV _ (by omega)).trans hI4.l, (hoV _ (by omega)).trans hI4.first, by rw [hV]; exact blk_set 0 _ hI4.ways, (hoV _ (by omega)).trans hI4.last, (hoV _ (by omega)).trans hI4.c, hI4.bel.trans hbV⟩
        have hxV := (hoV W.heap.size (by omega)).trans hx4
        have hA5 := hA4.trans hAV
        clear hV c3 f3 z3 hbV hAV hoV hI4 hx4 hA4
        have c3 : V.cell? ⟨w.heap.size + 1 + 1 + 1, 0, none⟩ = some (.int .i64 ((n : Int) + 1)) := blk_cell 0 hIV.ways rfl
        have z3 := lt_of_block hIV.ways
        by_cases h0 : n = 0
        · subst h0
          have d0 := many_cell hxV 0 (by decide)
          have d1 := many_cell hxV 1 (by decide)
          have d2 := many_cell hxV 2 (by decide)
          have d3 := many_cell hxV 3 (by decide)
          have d4 := many_cell hxV 4 (by decide)
          have dz := lt_of_block hxV
          have e0 := many_cell hIV.first 0 (by decide)
          have e1 := many_cell hIV.first 1 (by decide)
          have e2 := many_cell hIV.first 2 (by decide)
          have e3 := many_cell hIV.first 3 (by decide)
          have e4 := many_cell hIV.first 4 (by decide)
          have ez := lt_of_block hIV.first
          have f0 := blk_free 0 hIV.first
          have f1 := blk_free 1 hIV.first
          have f2 := blk_free 2 hIV.first
          have f3 := blk_free 3 hIV.first
          have f4 := blk_free 4 hIV.first
          obtain ⟨k1, k2, k3, k4⟩ := many_store (m := x) hIV.first
          gi_wp2
          refine ⟨by have h9 := hA5.trans (k4 Y.heap.size (by omega)); rw [hys] at h9; exact h9, ?_⟩
          show WaysI w p0 al l.length cl (waysOf _ (pre ++ [x])) (set5M V (w.heap.size + 1 + 1) x)
          rw [HX.out]
          exact ⟨(k3 _ (by omega)).trans hIV.f, (k3 _ (by omega)).trans hIV.l, k1, (k3 _ (by omega)).trans hIV.ways, (k3 _ (by omega)).trans hIV.last, (k3 _ (by omega)).trans hIV.c, hIV.bel.trans (k2 _ (by omega))⟩
        · have he : ((n : Int) + 1 == 1) = false := eqi_f (by omega)
          gi_wp2
          refine ⟨by rw [hys] at hA5; exact hA5, ?_⟩
          show WaysI w p0 al l.length cl (waysOf _ (pre ++ [x])) V
          rw [HX.out]
          simpa [h0] using hIV
    · gi_wp2
      refine ⟨Above.refl _ _, ?_⟩
      show WaysI w p0 al l.length cl (waysOf _ (pre ++ [x])) Wb
      rw [HX.out]
      simpa using hIb
  case done =>
    intro D W hD hI hK
    have hys := hYs.out
    have hmn := (HWK.out (countsF (roomsF f.parts)) (List.prefix_refl _)).many
    obtain ⟨s, hs⟩ : ∃ s, s = waysOf (fun m => fitL (shapeF f.parts m) l) (countsF (roomsF f.parts)) := ⟨_, rfl⟩
    rw [← hs] at hI hmn
    obtain ⟨last, first, n⟩ := s
    have HSE := Lib.hid hs
    clear hs
    have hF : W.heap[w.heap.size + 1 + 1]? = some (.cells (manyCells first) 106 (0, 0)) := hI.first
    have e0 := many_cell hF 0 (by decide)
    have e1 := many_cell hF 1 (by decide)
    have e2 := many_cell hF 2 (by decide)
    have e3 := many_cell hF 3 (by decide)
    have e4 := many_cell hF 4 (by decide)
    have ez := lt_of_block hF
    have f0 := blk_free 0 hF
    have f1 := blk_free 1 hF
    have f2 := blk_free 2 hF
    have f3 := blk_free 3 hF
    have f4 := blk_free 4 hF
    have c3 : W.cell? ⟨w.heap.size + 1 + 1 + 1, 0, none⟩ = some (.int .i64 (n : Int)) := blk_cell 0 hI.ways rfl
    have g3 := blk_free 0 hI.ways
    have z3 := lt_of_block hI.ways
    go_upto_region 10 with (fail)
    apply wp_mid _ (fun V => WaysI w p0 al l.length cl (last, first, n) V ∧ V.heap[D]? = some (.deferred (some [])))
    · have HI := Lib.hid hI
      have HK := Lib.hid hK
      have HF := Lib.hid hF
      (focus go_region)
      have hS := HI.out.store.store2
      have hD : ((set5M W (w.heap.size + 1 + 1) first).setCell ⟨w.heap.size + 1 + 1 + 1, 0, none⟩ (.int .i64 (n : Int))).heap[D]? = some (.deferred (some [])) := ((Below.heap_setCell _ _ _ _ (fun e => by simp only at e; omega)).trans ((many_store (m := first) HF.out).2.2.1 D (by omega))).trans HK.out
      generalize (set5M W (w.heap.size + 1 + 1) first).setCell ⟨w.heap.size + 1 + 1 + 1, 0, none⟩ (.int .i64 (n : Int)) = G at *
      refine ⟨rfl, ?_, ?_⟩
      · exact hS.below ((Below.refl _ _).drew)
      · exact hD
    clear hI hK hF e0 e1 e2 e3 e4 ez f0 f1 f2 f3 f4 c3 g3 z3
    rintro V ⟨hI, hK⟩
    go_wp2
    refine ⟨by simp, .inl ⟨_, _, rfl, run_takeDeferred hK, ?_⟩⟩
    have hput : ∀ j, j ≠ D → (V.putObj D (.deferred none)).heap[j]? = V.heap[j]? := fun j hj => World.putObj_heap_other hj
    have hF : (V.putObj D (.deferred none)).heap[w.heap.size + 1 + 1]? = some (.cells (manyCells first) 106 (0, 0)) := (hput _ (by omega)).trans hI.first
    have hN : (V.putObj D (.deferred none)).heap[w.heap.size + 1 + 1 + 1]? = some (.cells #[.int .i64 (n : Int)] 3 (0, 0)) := (hput _ (by omega)).trans hI.ways
    have e0 := many_cell hF 0 (by decide)
    have e1 := many_cell hF 1 (by decide)
    have e2 := many_cell hF 2 (by decide)
    have e3 := many_cell hF 3 (by decide)
    have e4 := many_cell hF 4 (by decide)
    have c3 : (V.putObj D (.deferred none)).cell? ⟨w.heap.size + 1 + 1 + 1, 0, none⟩ = some (.int .i64 (n : Int)) := blk_cell 0 hN rfl
    have hbp : Below w.heap.size V (V.putObj D (.deferred none)) := ⟨rfl, rfl, rfl, by simp [World.putObj], fun b hb => World.putObj_heap_other (by omega)⟩
    refine ⟨.tuple #[manyV first, .int .i64 (n : Int)], ?_, by rw [← HSE.out], hI.bel.trans hbp⟩
    rw [results_cc rfl]
    go_simp
end Go.Proofs.YtelmponkmmfffaaGreat
