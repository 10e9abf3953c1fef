/- What is proved here: the contract of mends of a form that is looked at. Conditions: the form is fine; the letter has at most 15 words and lies in memory. -/
/- What is proved here: contracts of Mend at a shelf in which nothing is wrong, at a form of it and at none. Conditions: the letter is one, and lies in memory. -/
/- What is proved here: contracts of what Nearest asks of a form, of least with it, and of Nearest, at a shelf in which nothing is wrong. Conditions: the letter is one, and lies in memory. -/
/- What is proved here: contracts of strings.Builder.String and strings.FieldsFunc: the shelf's, laid at this program by the kit's tools. Conditions: as they say. -/
/- What is proved here: contracts of strings.Builder's copyCheck, WriteByte and WriteString, of a builder that the call itself owns. Conditions: it is short. -/
/- What is proved here: the contract of letter.text at a letter in which nothing is wrong. -/
import Derived.Test.YtelmponkmmfffaaGreatLeWays2
import Derived.Test.YtelmponkmmfffaaGreatLrSameG
import Derived.Test.YtelmponkmmfffaaGreatLeMakeG
import Derived.Test.YtelmponkmmfffaaGreatProg
import Derived.Shelf.Strings.Builder1
import Derived.Shelf.Strings.FieldsFuncAny
set_option linter.unusedVariables false
set_option linter.unusedSimpArgs false
namespace Go.Proofs.YtelmponkmmfffaaGreat
open Go Go.RowKit Go.Shelf
attribute [local go_sem] Oper.semAt_some
/-- The cells of mends. -/
structure MendI (w : World) (p0 : Nat) (al : Option Addr) (n cl : Nat) (best : Int) (W : World) : Prop where
  f : W.heap[w.heap.size]? = some (.cells #[.pointer (some ⟨p0, 0, none⟩)] 95 (0, 0))
  l : W.heap[w.heap.size + 1]? = some (.cells #[.slice al n cl] 44 (0, 0))
  b : W.heap[w.heap.size + 1 + 1]? = some (.cells #[.int .i64 best] 3 (0, 0))
  c : W.heap[w.heap.size + 1 + 1 + 1]? = some (.cells #[.pointer (some ⟨p0, 0, none⟩)] 95 (0, 0))
  bel : Below w.heap.size w W
theorem MendI.below {w : World} {p0 : Nat} {al : Option Addr} {n cl : Nat} {s : Int} {A A' : World} (k : MendI w p0 al n cl s A) (hb : Below (w.heap.size + 4) A A') : MendI w p0 al n cl s A' :=
  ⟨(hb.block _ (by omega)).trans k.f, (hb.block _ (by omega)).trans k.l, (hb.block _ (by omega)).trans k.b, (hb.block _ (by omega)).trans k.c, k.bel.trans (hb.mono (by omega))⟩
theorem MendI.store {w : World} {p0 : Nat} {al : Option Addr} {n cl : Nat} {s : Int} {W : World} (k : MendI w p0 al n cl s W) (v : Int) : MendI w p0 al n cl v (W.setCell ⟨w.heap.size + 1 + 1, 0, none⟩ (.int .i64 v)) := by
  have k3 := fun j (hj : j ≠ w.heap.size + 1 + 1) => Below.heap_setCell W ⟨w.heap.size + 1 + 1, 0, none⟩ (.int .i64 v) j hj
  exact ⟨(k3 _ (by omega)).trans k.f, (k3 _ (by omega)).trans k.l, blk_set 0 _ k.b, (k3 _ (by omega)).trans k.c, k.bel.trans ((Below.refl _ _).setCell (by simp; omega) _)⟩
set_option maxRecDepth 100000 in
set_option maxHeartbeats 16000000 in
theorem LMends_any (p0 : Nat) (f : LeF) (al : Option Addr) (l : List ByteArray) (cl : Nat) (w : World) (hFW : FormW w p0 f) (hok : LeFOk f) (hl15 : l.length ≤ 15) (hil : StrsC w al l) :
    Calls Tryz.prog 79 #[.pointer (some ⟨p0, 0, none⟩), .slice al l.length cl] w fun e w' => e = .returned (.int .i64 (mendsF f.parts l)) ∧ Below w.heap.size w w' := by
  have hpok : ∀ p ∈ f.parts, LePOk p := fun p hp => by obtain ⟨i, hi, rfl⟩ := List.getElem_of_mem hp; exact hok.part i hi
  have hrk := rooms_ok _ hpok
  have hco := counts_ok _ hrk
  have hsl : ∀ m ∈ countsF (roomsF f.parts), (shapeF f.parts m).length ≤ 15 := fun m hm => by
    have := shape_len f.parts m hpok (hco m hm).2
    have := hok.many
    omega
  have HSH := Lib.hid (fun (V : World) (h : Below w.heap.size w V) m (hm : m ∈ countsF (roomsF f.parts)) => LShape_any p0 f m V (hFW.mono h) hok (hco m hm).2)
  have HIL := Lib.hid (fun (V : World) (h : Below w.heap.size w V) => hil.mono h)
  have hG : mendsF f.parts l = mendTo l f.parts (countsF (roomsF f.parts)) := rfl
  have HMS := Lib.hid (mend_snoc l f.parts)
  have HMB := Lib.hid (fun (pre : List (List Int)) (hp : pre <+: countsF (roomsF f.parts)) => (show -1 ≤ mendTo l f.parts pre ∧ mendTo l f.parts pre ≤ 30 from mend_bd l hl15 _ _ (fun s hs => by
    obtain ⟨m, hm, rfl⟩ := List.mem_map.1 hs
    exact hsl m (hp.subset hm)) (by omega)))
  have HSL := Lib.hid hsl
  rw [hG]
  have hFM := Lib.hid (fun (V : World) (h : Below w.heap.size w V) => hFW.mono h)
  have hp0 : p0 < w.heap.size := by obtain ⟨_, _, _, _, h, _⟩ := hFW; exact lt_of_block h
  have HOK := Lib.hid hok
  clear hpok hrk hco hG hFW hil hok hsl
  refine (callsIn_wide (n := 0)).1 ?_
  refine callsIn_of_wp_marks Tryz.func79 rfl trivial ?_ rfl
  simp only [Tryz.ntmps79, List.size_toArray, List.length_cons, List.length_nil, Nat.reduceAdd, Nat.reduceSub, Array.replicate_succ, Array.replicate_zero, List.push_toArray, List.append_toArray, List.nil_append, List.cons_append]
  refine (wpIn_wide (n := 0)).2 ?_
  go_upto_region 2 with (fail)
  obtain ⟨X, hX⟩ : ∃ X : World, X = ((w.alloc (.cells #[.pointer (some ⟨p0, 0, none⟩)] 95)).alloc (.cells #[.slice al l.length cl] 44)).alloc (.cells #[.int .i64 (-1)] 3) := ⟨_, rfl⟩
  rw [← hX]
  have hwX : Below w.heap.size w X := by rw [hX]; exact (by (repeat' (first | assumption | exact Below.refl _ _ | refine below_drew' ?_ | refine Below.setCell ?_ (by first | omega | (simp <;> omega)) _ | refine Below.alloc ?_ (by first | omega | (simp <;> omega)) _)))
  have hXs := Lib.hid (show X.heap.size = w.heap.size + 3 by rw [hX]; simp)
  have g0 : X.heap[w.heap.size]? = some (.cells #[.pointer (some ⟨p0, 0, none⟩)] 95 (0, 0)) := by rw [hX]; (repeat' (first | exact alloc_at _ _ (by simp) | refine (heap_alloc_old _ _ (by first | omega | (simp <;> omega))).trans ?_))
  have g1 : X.heap[w.heap.size + 1]? = some (.cells #[.slice al l.length cl] 44 (0, 0)) := by rw [hX]; (repeat' (first | exact alloc_at _ _ (by simp) | refine (heap_alloc_old _ _ (by first | omega | (simp <;> omega))).trans ?_))
  have g2 : X.heap[w.heap.size + 1 + 1]? = some (.cells #[.int .i64 (-1)] 3 (0, 0)) := by rw [hX]; (repeat' (first | exact alloc_at _ _ (by simp) | refine (heap_alloc_old _ _ (by first | omega | (simp <;> omega))).trans ?_))
  clear hX
  have c0 := blk_cell 0 g0 rfl
  have z0 := lt_of_block g0
  (try simp only [List.getElem_toArray, List.getElem_cons_zero] at c0)
  have CT := Lib.hid (LCounts_any p0 X)
  go_wp2_with (go_at_call 96; go_must ((with_reducible refine CT.out.mono ?_); rintro e w3 ⟨rfl, rfl⟩; dsimp only))
  obtain ⟨Y, hY⟩ : ∃ Y : World, Y = X.alloc (.cells #[.pointer (some ⟨p0, 0, none⟩)] 95) := ⟨_, rfl⟩
  rw [← hY]
  have hXY : Below X.heap.size X Y := by rw [hY]; exact (Below.refl _ _).alloc (Nat.le_refl _) _
  have hYs := Lib.hid (show Y.heap.size = w.heap.size + 4 by rw [hY]; have := hXs.out; simp; omega)
  have hI0 : MendI w p0 al l.length cl (mendTo l f.parts []) Y := by
    have hxs := hXs.out
    refine ⟨(hXY.block _ (by omega)).trans g0, (hXY.block _ (by omega)).trans g1, (hXY.block _ (by omega)).trans g2, ?_, hwX.trans (hXY.mono hwX.size)⟩
    rw [hY]
    exact alloc_at _ _ (by omega)
  clear hY c0 z0 g0 g1 g2
  refine (wpIn_wide (n := 0)).1 ?_
  refine wpIn_rangeFunc_T (gf := 132) (lb := #[.pointer (some ⟨X.heap.size, 0, none⟩)]) rfl (enters_of Tryz.func132 (by kernel_rfl) rfl)
    (LCnt_seq X.heap.size p0 f Y HOK.out) (Below.refl _ _) (Nat.le_refl _) (fun _ => rfl)
    (fun pre W => MendI w p0 al l.length cl (mendTo l f.parts pre) W)
    ?closed ?reads hI0 ?round ?done
  case closed => exact fun s A A' h hb => h.below (by have := hYs.out; rw [this] at hb; exact hb)
  case reads => exact fun s A h => ⟨by have := hXs.out; rw [this]; exact h.c, hFM.out A h.bel⟩
  case round =>
    intro lp pre x W hl1 hl2 hI hpre
    have hx : x ∈ countsF (roomsF f.parts) := hpre.subset (by simp)
    have hys := hYs.out
    have hHI := Lib.hid hI
    simp only [encM, manyV]
    gi_wp2
    obtain ⟨U, hU⟩ : ∃ U : World, U = W.alloc (.cells (manyCells x) 106) := ⟨_, rfl⟩
    have hbU : Below W.heap.size W U := by rw [hU]; exact (Below.refl _ _).alloc (Nat.le_refl _) _
    have hxU : U.heap[W.heap.size]? = some (.cells (manyCells x) 106 (0, 0)) := by rw [hU]; exact alloc_at _ _ rfl
    rw [← hU]
    clear hU
    have hIU := hI.below (hbU.mono (by omega))
    refine ⟨Above.of_below hbU, hIU, ?_⟩
    intro Z hsz hblk hIZ
    have hxZ : Z.heap[W.heap.size]? = some (.cells (manyCells x) 106 (0, 0)) := (hblk _ (by omega)).trans hxU
    have hWY : w.heap.size + 4 ≤ W.heap.size := by omega
    clear hsz hblk hIU hI hbU hxU hHI
    have hst := HMS.out pre x
    have hbd := HMB.out pre ((List.prefix_append _ _).trans hpre)
    have HX := Lib.hid hst
    clear hst
    have hcb := corr_bd l (shapeF f.parts x)
    have hsx := HSL.out x hx
    generalize mendTo l f.parts pre = best at *
    have hzb := hIZ.bel.size
    have KZ : Hid (∀ U, Below Z.heap.size Z U → (U.cell? ⟨w.heap.size, 0, none⟩ = some (.pointer (some ⟨p0, 0, none⟩)) ∧ U.cell? ⟨w.heap.size + 1, 0, none⟩ = some (.slice al l.length cl) ∧ U.cell? ⟨W.heap.size, 0, none⟩ = some (.int .i64 (mAt x 0)) ∧ U.cell? ⟨W.heap.size, 1, none⟩ = some (.int .i64 (mAt x 1)) ∧ U.cell? ⟨W.heap.size, 2, none⟩ = some (.int .i64 (mAt x 2)) ∧ U.cell? ⟨W.heap.size, 3, none⟩ = some (.int .i64 (mAt x 3)) ∧ U.cell? ⟨W.heap.size, 4, none⟩ = some (.int .i64 (mAt x 4)) ∧ w.heap.size < U.heap.size ∧ w.heap.size + 1 < U.heap.size ∧ W.heap.size < U.heap.size)) := Lib.hid (fun U h => by
      have g := (h.block _ (lt_of_block hxZ)).trans hxZ
      have g1 := (h.block _ (lt_of_block hIZ.f)).trans hIZ.f
      have g2 := (h.block _ (lt_of_block hIZ.l)).trans hIZ.l
      exact ⟨blk_cell 0 g1 rfl, blk_cell 0 g2 rfl, many_cell g 0 (by decide), many_cell g 1 (by decide), many_cell g 2 (by decide), many_cell g 3 (by decide), many_cell g 4 (by decide), lt_of_block g1, lt_of_block g2, lt_of_block g⟩)
    have hZ0 := below_drew' (Below.refl Z.heap.size Z)
    have SH := Lib.hid (HSH.out Z.drew (hIZ.bel.drew) x hx)
    gi_upto_region 4 with (fail)
    refine wpIn_region_round (fun U => (U.cell? ⟨w.heap.size, 0, none⟩ = some (.pointer (some ⟨p0, 0, none⟩)) ∧ U.cell? ⟨w.heap.size + 1, 0, none⟩ = some (.slice al l.length cl) ∧ U.cell? ⟨W.heap.size, 0, none⟩ = some (.int .i64 (mAt x 0)) ∧ U.cell? ⟨W.heap.size, 1, none⟩ = some (.int .i64 (mAt x 1)) ∧ U.cell? ⟨W.heap.size, 2, none⟩ = some (.int .i64 (mAt x 2)) ∧ U.cell? ⟨W.heap.size, 3, none⟩ = some (.int .i64 (mAt x 3)) ∧ U.cell? ⟨W.heap.size, 4, none⟩ = some (.int .i64 (mAt x 4)) ∧ w.heap.size < U.heap.size ∧ w.heap.size + 1 < U.heap.size ∧ W.heap.size < U.heap.size)) ?_ (by kernel_rfl) (noDefer_spec (by kernel_rfl)) (KZ.out _ hZ0) (fun hHeld => ?_)
    · intro h
      obtain ⟨_, _, h⟩ := h
      exact h
    (refine wpAnyH_take (i := 0) (v := ?_) rfl (by kernel_rfl) (by kernel_rfl) (by kernel_rfl) (fun _ _ _ h => h) (Or.inl ⟨by kernel_rfl, ?_⟩) (by assumption) ?_; rotate_left 1; (focus (intro w hSw; (try dsimp only at hSw); go_simp; first | done | with_reducible rfl)); simp only [Act.put, List.getElem_toArray, List.getElem_cons_succ, List.getElem_cons_zero, List.setIfInBounds_toArray, List.set_cons_succ, List.set_cons_zero])
    (refine wpAnyH_take (i := 1) (v := ?_) rfl (by kernel_rfl) (by kernel_rfl) (by kernel_rfl) (fun _ _ _ h => h) (Or.inl ⟨by kernel_rfl, ?_⟩) (by assumption) ?_; rotate_left 1; (focus (intro w hSw; (try dsimp only at hSw); go_simp; first | done | with_reducible rfl)); simp only [Act.put, List.getElem_toArray, List.getElem_cons_succ, List.getElem_cons_zero, List.setIfInBounds_toArray, List.set_cons_succ, List.set_cons_zero])
    (refine wpAnyH_take (i := 2) (v := ?_) rfl (by kernel_rfl) (by kernel_rfl) (by kernel_rfl) (fun _ _ _ h => h) (Or.inl ⟨by kernel_rfl, ?_⟩) (by assumption) ?_; rotate_left 1; (focus (intro w hSw; (try dsimp only at hSw); go_simp; first | done | with_reducible rfl)); simp only [Act.put, List.getElem_toArray, List.getElem_cons_succ, List.getElem_cons_zero, List.setIfInBounds_toArray, List.set_cons_succ, List.set_cons_zero])
    (refine wpAnyH_take (i := 5) (v := ?_) rfl (by kernel_rfl) (by kernel_rfl) (by kernel_rfl) (fun _ _ _ h => h) (Or.inl ⟨by kernel_rfl, ?_⟩) (by assumption) ?_; rotate_left 1; (focus (intro w hSw; (try dsimp only at hSw); go_simp; first | done | with_reducible rfl)); simp only [Act.put, List.getElem_toArray, List.getElem_cons_succ, List.getElem_cons_zero, List.setIfInBounds_toArray, List.set_cons_succ, List.set_cons_zero])
    (refine wpAnyH_ready (rs := [3]) (by kernel_rfl) (by simp) ?_; refine AllReadyH.cons rfl (fun K hK => ?_) AllReadyH.nil; go_simp)
    (go_wp2_with (go_at_call 98; go_must ((with_reducible refine SH.out.mono ?_); rintro e w4 ⟨a5, c5, rfl, hs5, hi5, hb4⟩; dsimp only)))
    have hZ4 := hZ0.trans (hb4.mono (by simp))
    refine hK.out _ _ (KZ.out _ hZ4) (fun hHeld => ?_)
    (try simp only [Act.put, List.getElem_toArray, List.getElem_cons_succ, List.getElem_cons_zero, List.setIfInBounds_toArray, List.set_cons_succ, List.set_cons_zero])
    clear hK
    have LS := Lib.hid (LListen_any al a5 cl c5 l (shapeF f.parts x) w4 (HIL.out w4 (hIZ.bel.trans (hZ4.mono hzb))) hi5)
    (refine wpAnyH_ready (rs := [4]) (by kernel_rfl) (by simp) ?_; refine AllReadyH.cons rfl (fun K hK => ?_) AllReadyH.nil; go_simp)
    (go_wp2_with (go_at_call 73; go_must ((with_reducible refine LS.out.mono ?_); rintro e w5 ⟨br, bo, rfl, hR5, hb5, hbo5, hbr5⟩; dsimp only)))
    have hZ5 := hZ4.trans (hb5.mono hZ4.size)
    refine hK.out _ _ (KZ.out _ hZ5) (fun hHeld => ?_)
    (try simp only [Act.put, List.getElem_toArray, List.getElem_cons_succ, List.getElem_cons_zero, List.setIfInBounds_toArray, List.set_cons_succ, List.set_cons_zero])
    clear hK
    have CR := Lib.hid (RCorr0_any (by omega) (by omega) w5 hR5)
    (refine wpAnyH_ready (rs := [6]) (by kernel_rfl) (by simp) ?_; refine AllReadyH.cons rfl (fun K hK => ?_) AllReadyH.nil; go_simp)
    (go_wp2_with (go_at_call 75; go_must ((with_reducible refine CR.out.mono ?_); rintro e w6 ⟨rfl, hg6, hR6⟩; dsimp only)))
    have hz4 := hZ4.size
    have hZ6 : Below Z.heap.size Z w6 := hZ5.grown hg6 hZ5.size (fun k e => by have := Option.some.inj e; omega)
    refine hK.out _ _ (KZ.out _ hZ6) (fun hHeld => ?_)
    (try simp only [Act.put, List.getElem_toArray, List.getElem_cons_succ, List.getElem_cons_zero, List.setIfInBounds_toArray, List.set_cons_succ, List.set_cons_zero])
    clear hK
    (refine wpAnyH_take (i := 7) (v := ?_) rfl (by kernel_rfl) (by kernel_rfl) (by kernel_rfl) (fun _ _ _ h => h) (Or.inl ⟨by kernel_rfl, ?_⟩) (by assumption) ?_; rotate_left 1; (focus (intro w hSw; (try dsimp only at hSw); go_simp; first | done | with_reducible rfl)); simp only [Act.put, List.getElem_toArray, List.getElem_cons_succ, List.getElem_cons_zero, List.setIfInBounds_toArray, List.set_cons_succ, List.set_cons_zero])
    refine wpAnyH_done (by kernel_rfl) ?_ _
    have hI6 := hIZ.below (hZ6.mono (by have := lt_of_block hxZ; omega))
    have hA6 := Above.of_below (B := Y.heap.size) hZ6
    clear hIZ hxZ KZ SH LS CR hHeld hs5 hi5 hb4 hZ0 hZ4 hZ5 hZ6 hzb hR5 hR6 hg6 hb5
    have c2 : w6.cell? ⟨w.heap.size + 1 + 1, 0, none⟩ = some (.int .i64 best) := blk_cell 0 hI6.b rfl
    have z2 := lt_of_block hI6.b
    have f2 := blk_free 0 hI6.b
    have HI6 := Lib.hid hI6
    clear hI6
    generalize corrF l (shapeF f.parts x) = n at *
    by_cases h0 : best < 0
    · have HX2 := Lib.hid (HX.out.trans (if_pos (.inl h0)))
      clear HX
      gi_wp2
      refine ⟨by have h9 := hA6.trans (above_set Y.heap.size w6 (w.heap.size + 1 + 1) 0 (.int .i64 n) (by omega)); first | exact h9 | (rw [hys] at h9; exact h9), ?_⟩
      show MendI w p0 al l.length cl (mendTo l f.parts (pre ++ [x])) _
      rw [HX2.out]
      exact HI6.out.store n
    · by_cases h1 : n < best
      · have HX2 := Lib.hid (HX.out.trans (if_pos (.inr h1)))
        clear HX
        gi_wp2
        refine ⟨by have h9 := hA6.trans (above_set Y.heap.size w6 (w.heap.size + 1 + 1) 0 (.int .i64 n) (by omega)); first | exact h9 | (rw [hys] at h9; exact h9), ?_⟩
        show MendI w p0 al l.length cl (mendTo l f.parts (pre ++ [x])) _
        rw [HX2.out]
        exact HI6.out.store n
      · have HX2 := Lib.hid (HX.out.trans (if_neg (fun h => h.elim h0 h1)))
        clear HX
        gi_wp2
        refine ⟨by first | exact hA6 | (rw [hys] at hA6; exact hA6), ?_⟩
        show MendI w p0 al l.length cl (mendTo l f.parts (pre ++ [x])) w6
        rw [HX2.out]
        exact HI6.out
  case done =>
    intro D W hD hI hK
    have hys := hYs.out
    have hmn := HMB.out (countsF (roomsF f.parts)) (List.prefix_refl _)
    obtain ⟨s, hs⟩ : ∃ s, s = mendTo l f.parts (countsF (roomsF f.parts)) := ⟨_, rfl⟩
    rw [← hs] at hI hmn
    have HSE := Lib.hid hs
    clear hs
    have c2 : W.cell? ⟨w.heap.size + 1 + 1, 0, none⟩ = some (.int .i64 s) := blk_cell 0 hI.b rfl
    have z2 := lt_of_block hI.b
    have HB := Lib.hid hI.bel
    have HK := Lib.hid hK
    clear hI
    go_wp2
    refine ⟨by simp, .inl ⟨_, _, rfl, run_takeDeferred HK.out, ?_⟩⟩
    have hbp : Below w.heap.size W (W.putObj D (.deferred none)) := ⟨rfl, rfl, rfl, by simp [World.putObj], fun b hb => World.putObj_heap_other (by omega)⟩
    refine ⟨_, results_tmp rfl _ _ _, by rw [← HSE.out]; rfl, HB.out.trans hbp⟩
end Go.Proofs.YtelmponkmmfffaaGreat
namespace Go.Proofs.YtelmponkmmfffaaGreat
open Go Go.RowKit Go.Shelf
set_option maxRecDepth 100000 in
set_option maxHeartbeats 4000000 in
theorem LEnter_none (af : Option Addr) (kf : Nat) (s : LeS) (n : Nat) (w : World) (hm : ShelfC w af kf s) (hv : LeValid s) (hn : s.forms.length ≤ n) :
    Calls Tryz.prog 44 #[(.agg #[.int .i64 s.width, .slice af s.forms.length kf]), .int .i64 (n : Int)] w fun e w' => e = .returned (.tuple #[.pointer none, .int .i64 4]) ∧ Below w.heap.size w w' := by
  obtain ⟨X, hX⟩ : ∃ X : World, X = w.alloc (.cells #[.int .i64 s.width, .slice af s.forms.length kf] 24) := ⟨_, rfl⟩
  have hwX : Below w.heap.size w X := by rw [hX]; exact (Below.refl _ w).alloc (Nat.le_refl _) _
  have g1 : X.heap[w.heap.size]? = some (.cells #[.int .i64 s.width, .slice af s.forms.length kf] 24 (0, 0)) := by rw [hX]; exact alloc_at _ _ rfl
  replace g1 := fun (V : World) (h : Below X.heap.size X V) => (h.block _ (lt_of_block g1)).trans g1
  have HC : Hid (∀ V, Below X.heap.size X V → (V.cell? ⟨w.heap.size, 0, none⟩ = some (.int .i64 s.width) ∧ V.cell? ⟨w.heap.size, 1, none⟩ = some (.slice af s.forms.length kf) ∧ w.heap.size < V.heap.size)) := Lib.hid (fun V h => ⟨blk_cell 0 (g1 V h) rfl, blk_cell 1 (g1 V h) rfl, lt_of_block (g1 V h)⟩)
  have C := Lib.hid (LCheck_any af kf s X (hm.mono hwX) hv)
  have h4 := hv.many
  have O := Lib.hid (fun (W : World) (a : Nat) hc => LOffOne_any (n : Int) 0 ((s.forms.length : Int) - 1) a W hc)
  have hin := Lib.hid (show inB (n : Int) 0 ((s.forms.length : Int) - 1) = false by unfold inB; simp; omega)
  obtain ⟨y0, y1, y3⟩ := HC.out X (Below.refl _ _)
  have hzw := hwX.size
  have HX := Lib.hid hX
  clear hX hm hv g1 hn
  go_enter Tryz.func44, Tryz.ntmps44
  go_upto_region 1 with (fail)
  rw [← HX.out]
  clear HX
  go_upto_region 2 with (go_at_call 68; go_must ((with_reducible refine C.out.mono ?_); rintro e w2 ⟨rfl, hb2⟩; obtain ⟨z0, z1, z3⟩ := HC.out _ hb2; dsimp only))
  go_upto_region 4 with (fail)
  go_wp2_with (go_at_call 45; go_must ((with_reducible refine (O.out _ _ ?_).mono ?_); exact (blk_cell 0 (blk_new _ _) rfl); rintro e w3 ⟨rfl, hb3⟩; rw [hin.out]; have hw3 := ((Below.refl _ w2).alloc (Nat.le_refl _) _).trans (hb3.mono (by simp)); have hX3 := hb2.trans (hw3.mono hb2.size); obtain ⟨z0, z1, z3⟩ := HC.out _ hX3; dsimp only))
  go_ret2
  exact ⟨rfl, hwX.trans (hX3.mono hwX.size)⟩
set_option maxRecDepth 100000 in
set_option maxHeartbeats 4000000 in
theorem LMend_any (af : Option Addr) (kf : Nat) (s : LeS) (n : Nat) (al : Option Addr) (l : List ByteArray) (cl : Nat) (w : World) (hm : ShelfC w af kf s) (hv : LeValid s) (hn : n < s.forms.length) (hl : letB l = true) (hil : StrsC w al l) :
    Calls Tryz.prog 27 #[(.agg #[.int .i64 s.width, .slice af s.forms.length kf]), .int .i64 (n : Int), .slice al l.length cl] w fun e w' => e = .returned (.tuple #[.int .i64 (mendsF s.forms[n].parts l), .int .i64 0]) ∧ Below w.heap.size w w' := by
  obtain ⟨X, hX⟩ : ∃ X : World, X = w.alloc (.cells #[.int .i64 s.width, .slice af s.forms.length kf] 24) := ⟨_, rfl⟩
  have hwX : Below w.heap.size w X := by rw [hX]; exact (Below.refl _ w).alloc (Nat.le_refl _) _
  have g1 : X.heap[w.heap.size]? = some (.cells #[.int .i64 s.width, .slice af s.forms.length kf] 24 (0, 0)) := by rw [hX]; exact alloc_at _ _ rfl
  have y0 := blk_cell 0 g1 rfl
  have y1 := blk_cell 1 g1 rfl
  have yz := lt_of_block g1
  simp only [List.getElem_toArray, List.getElem_cons_zero, List.getElem_cons_succ] at y0 y1
  have E := Lib.hid (LEnter_any af kf s n X (hm.mono hwX) hv hn)
  have LT := Lib.hid (fun V (h : Below w.heap.size w V) => LLettered_any al l cl V (hil.mono h) hl)
  have ML := Lib.hid (fun V (h : Below w.heap.size w V) p (hF : FormW V p s.forms[n]) => LMends_any p s.forms[n] al l cl V hF (hv.form n hn).2.2 (let_word hl).1 (hil.mono h))
  have HX := Lib.hid hX
  generalize s.forms[n] = f at *
  clear hX hm hv hil g1 hn
  go_enter Tryz.func27, Tryz.ntmps27
  go_upto_region 1 with (fail)
  rw [← HX.out]
  clear HX
  go_wp2_with (first
    | (go_at_call 79; go_must ((with_reducible refine (ML.out w3 hw3 p2 (hF2.mono hb3)).mono ?_); rintro e w4 ⟨rfl, hb4⟩; dsimp only))
    | (go_at_call 50; go_must ((with_reducible refine (LT.out w2 (hwX.trans (hb2.mono hwX.size))).mono ?_); rintro e w3 ⟨rfl, hb3⟩; have hw3 := hwX.trans ((hb2.trans (hb3.mono hb2.size)).mono hwX.size); dsimp only))
    | (go_at_call 44; go_must ((with_reducible refine E.out.mono ?_); rintro e w2 ⟨p2, rfl, hp2, hF2, hb2⟩; dsimp only)))
  go_ret2
  exact ⟨rfl, hw3.trans (hb4.mono hw3.size)⟩
set_option maxRecDepth 100000 in
set_option maxHeartbeats 4000000 in
theorem LMend_none (af : Option Addr) (kf : Nat) (s : LeS) (n : Nat) (al : Option Addr) (l : List ByteArray) (cl : Nat) (w : World) (hm : ShelfC w af kf s) (hv : LeValid s) (hn : s.forms.length ≤ n) :
    Calls Tryz.prog 27 #[(.agg #[.int .i64 s.width, .slice af s.forms.length kf]), .int .i64 (n : Int), .slice al l.length cl] w fun e w' => e = .returned (.tuple #[.int .i64 0, .int .i64 4]) ∧ Below w.heap.size w w' := by
  obtain ⟨X, hX⟩ : ∃ X : World, X = w.alloc (.cells #[.int .i64 s.width, .slice af s.forms.length kf] 24) := ⟨_, rfl⟩
  have hwX : Below w.heap.size w X := by rw [hX]; exact (Below.refl _ w).alloc (Nat.le_refl _) _
  have g1 : X.heap[w.heap.size]? = some (.cells #[.int .i64 s.width, .slice af s.forms.length kf] 24 (0, 0)) := by rw [hX]; exact alloc_at _ _ rfl
  have y0 := blk_cell 0 g1 rfl
  have y1 := blk_cell 1 g1 rfl
  have yz := lt_of_block g1
  simp only [List.getElem_toArray, List.getElem_cons_zero, List.getElem_cons_succ] at y0 y1
  have E := Lib.hid (LEnter_none af kf s n X (hm.mono hwX) hv hn)
  have HX := Lib.hid hX
  clear hX hm hv g1 hn
  go_enter Tryz.func27, Tryz.ntmps27
  go_upto_region 1 with (fail)
  rw [← HX.out]
  clear HX
  go_wp2_with (go_at_call 44; go_must ((with_reducible refine E.out.mono ?_); rintro e w2 ⟨rfl, hb2⟩; dsimp only))
  go_ret2
  exact ⟨rfl, hwX.trans (hb2.mono hwX.size)⟩
end Go.Proofs.YtelmponkmmfffaaGreat
namespace Go.Proofs.YtelmponkmmfffaaGreat
open Go Go.RowKit Go.Shelf
attribute [local go_sem] Oper.semAt_some
/-- How many corrections a letter needs at least to be of a form of a shelf. -/
def nearF (s : LeS) (l : List ByteArray) (k : Nat) : Int := match s.forms[k]? with | some f => mendsF f.parts l | none => -1
theorem near_eq (s : LeS) (l : List ByteArray) (k : Nat) (h : k < s.forms.length) : nearF s l k = mendsF s.forms[k].parts l := by unfold nearF; rw [List.getElem?_eq_getElem h]
set_option maxRecDepth 100000 in
set_option maxHeartbeats 4000000 in
theorem LNear1_any (af : Option Addr) (kf : Nat) (s : LeS) (i : Nat) (q0 q1 : Nat) (al : Option Addr) (l : List ByteArray) (cl : Nat) (w : World) (hm : ShelfC w af kf s) (hv : LeValid s) (hi : i < s.forms.length) (hl : letB l = true) (hil : StrsC w al l)
    (g0 : w.heap[q0]? = some (.cells #[.int .i64 s.width, .slice af s.forms.length kf] 24 (0, 0))) (g1 : w.heap[q1]? = some (.cells #[.slice al l.length cl] 44 (0, 0))) :
    Calls Tryz.prog 81 #[.int .i64 (i : Int), .pointer (some ⟨q0, 0, none⟩), .pointer (some ⟨q1, 0, none⟩)] w fun e w' => e = .returned (.int .i64 (nearF s l i)) ∧ Below w.heap.size w w' := by
  rw [near_eq s l i hi]
  obtain ⟨b, off, e0, hb, h1, ap, kp, h2, h3, h5⟩ := hm.forms i hi
  have hF := hv.form i hi
  have h4 := hv.many
  have LK := Lib.hid (fun V (h : Below w.heap.size w V) => LLook_any ap kp s.forms[i] V h3 (h5.mono h) hF.2.2.many)
  have ML := Lib.hid (fun V (h : Below w.heap.size w V) p (hF : FormW V p s.forms[i]) => LMends_any p s.forms[i] al l cl V hF (hv.form i hi).2.2 (let_word hl).1 (hil.mono h))
  have q00 := blk_cell 1 g0 rfl
  have q10 := blk_cell 0 g1 rfl
  have qz := lt_of_block g0
  have rz := lt_of_block g1
  simp only [List.getElem_toArray, List.getElem_cons_zero, List.getElem_cons_succ] at q00 q10
  generalize s.forms[i] = f at *
  obtain ⟨nm, parts⟩ := f
  simp only at h1 h2 LK
  subst e0
  have KE : Hid (∀ V, Below w.heap.size w V → V.cell? ⟨q0, 1, none⟩ = some (.slice (some ⟨b, off, none⟩) s.forms.length kf) ∧ V.cell? ⟨q1, 0, none⟩ = some (.slice al l.length cl) ∧ V.cell? ⟨b, off + i * 2, none⟩ = some (.string nm) ∧ V.cell? ⟨b, off + i * 2 + 1, none⟩ = some (.slice ap parts.length kp) ∧ q0 < V.heap.size ∧ q1 < V.heap.size ∧ b < V.heap.size) :=
    Lib.hid (fun V h => ⟨cell_below h q00, cell_below h q10, cell_below h h1, cell_below h h2, Nat.lt_of_lt_of_le qz h.size, Nat.lt_of_lt_of_le rz h.size, Nat.lt_of_lt_of_le hb h.size⟩)
  have hB : Below w.heap.size w w.drew := below_drew' (Below.refl _ _)
  have hiI : (i : Int) < s.forms.length := by omega
  clear g0 g1 q00 q10 qz rz h1 h2 hb hm hv hF h3 h5 hil
  go_enter Tryz.func81, Tryz.ntmps81
  go_upto_region 1 with (fail)
  refine wp_region_held_drew (S := (fun V => V.cell? ⟨q0, 1, none⟩ = some (.slice (some ⟨b, off, none⟩) s.forms.length kf) ∧ V.cell? ⟨q1, 0, none⟩ = some (.slice al l.length cl) ∧ V.cell? ⟨b, off + i * 2, none⟩ = some (.string nm) ∧ V.cell? ⟨b, off + i * 2 + 1, none⟩ = some (.slice ap parts.length kp) ∧ q0 < V.heap.size ∧ q1 < V.heap.size ∧ b < V.heap.size)) (by kernel_rfl) (KE.out _ hB) (fun hHeld => ?_)
  (refine wpAnyH_take (i := 0) (v := ?_) rfl (by kernel_rfl) (by kernel_rfl) (by kernel_rfl) (fun _ _ _ h => h) (Or.inl ⟨by kernel_rfl, ?_⟩) (by assumption) ?_; rotate_left 1; (focus (intro w hSw; (try dsimp only at hSw); go_simp; first | done | with_reducible rfl)); simp only [Act.put, List.getElem_toArray, List.getElem_cons_succ, List.getElem_cons_zero, List.setIfInBounds_toArray, List.set_cons_succ, List.set_cons_zero])
  (refine wpAnyH_take (i := 1) (v := ?_) rfl (by kernel_rfl) (by kernel_rfl) (by kernel_rfl) (fun _ _ _ h => h) (Or.inl ⟨by kernel_rfl, ?_⟩) (by assumption) ?_; rotate_left 1; (focus (intro w hSw; (try dsimp only at hSw); go_simp; first | done | with_reducible rfl)); simp only [Act.put, List.getElem_toArray, List.getElem_cons_succ, List.getElem_cons_zero, List.setIfInBounds_toArray, List.set_cons_succ, List.set_cons_zero])
  (refine wpAnyH_take (i := 2) (v := ?_) rfl (by kernel_rfl) (by kernel_rfl) (by kernel_rfl) (fun _ _ _ h => h) (Or.inl ⟨by kernel_rfl, ?_⟩) (by assumption) ?_; rotate_left 1; (focus (intro w hSw; (try dsimp only at hSw); go_simp; first | done | with_reducible rfl)); simp only [Act.put, List.getElem_toArray, List.getElem_cons_succ, List.getElem_cons_zero, List.setIfInBounds_toArray, List.set_cons_succ, List.set_cons_zero])
  (refine wpAnyH_take (i := 3) (v := ?_) rfl (by kernel_rfl) (by kernel_rfl) (by kernel_rfl) (fun _ _ _ h => h) (Or.inl ⟨by kernel_rfl, ?_⟩) (by assumption) ?_; rotate_left 1; (focus (intro w hSw; (try dsimp only at hSw); go_simp; first | done | with_reducible rfl)); simp only [Act.put, List.getElem_toArray, List.getElem_cons_succ, List.getElem_cons_zero, List.setIfInBounds_toArray, List.set_cons_succ, List.set_cons_zero])
  (refine wpAnyH_take (i := 4) (v := ?_) rfl (by kernel_rfl) (by kernel_rfl) (by kernel_rfl) (fun _ _ _ h => h) (Or.inl ⟨by kernel_rfl, ?_⟩) (by assumption) ?_; rotate_left 1; (focus (intro w hSw; (try dsimp only at hSw); go_simp; first | done | with_reducible rfl)); simp only [Act.put, List.getElem_toArray, List.getElem_cons_succ, List.getElem_cons_zero, List.setIfInBounds_toArray, List.set_cons_succ, List.set_cons_zero])
  (refine wpAnyH_take (i := 6) (v := ?_) rfl (by kernel_rfl) (by kernel_rfl) (by kernel_rfl) (fun _ _ _ h => h) (Or.inl ⟨by kernel_rfl, ?_⟩) (by assumption) ?_; rotate_left 1; (focus (intro w hSw; (try dsimp only at hSw); go_simp; first | done | with_reducible rfl)); simp only [Act.put, List.getElem_toArray, List.getElem_cons_succ, List.getElem_cons_zero, List.setIfInBounds_toArray, List.set_cons_succ, List.set_cons_zero])
  (refine wpAnyH_ready (rs := [5]) (by kernel_rfl) (by simp) ?_; refine AllReadyH.cons rfl (fun K hK => ?_) AllReadyH.nil; go_simp)
  refine (LK.out _ hB).mono ?_
  rintro e w2 ⟨p, rfl, hp, hF2, hb2⟩
  dsimp only
  have hB2 := hB.trans (hb2.mono hB.size)
  refine hK.out _ _ (KE.out _ hB2) (fun hHeld => ?_)
  (try simp only [Act.put, List.getElem_toArray, List.getElem_cons_succ, List.getElem_cons_zero, List.setIfInBounds_toArray, List.set_cons_succ, List.set_cons_zero])
  clear hK
  (refine wpAnyH_ready (rs := [7]) (by kernel_rfl) (by simp) ?_; refine AllReadyH.cons rfl (fun K hK => ?_) AllReadyH.nil; go_simp)
  refine (ML.out _ hB2 p hF2).mono ?_
  rintro e w3 ⟨rfl, hb3⟩
  dsimp only
  have hB3 := hB2.trans (hb3.mono hB2.size)
  refine hK.out _ _ (KE.out _ hB3) (fun hHeld => ?_)
  (try simp only [Act.put, List.getElem_toArray, List.getElem_cons_succ, List.getElem_cons_zero, List.setIfInBounds_toArray, List.set_cons_succ, List.set_cons_zero])
  clear hK
  (refine wpAnyH_take (i := 8) (v := ?_) rfl (by kernel_rfl) (by kernel_rfl) (by kernel_rfl) (fun _ _ _ h => h) (Or.inl ⟨by kernel_rfl, ?_⟩) (by assumption) ?_; rotate_left 1; (focus (intro w hSw; (try dsimp only at hSw); go_simp; first | done | with_reducible rfl)); simp only [Act.put, List.getElem_toArray, List.getElem_cons_succ, List.getElem_cons_zero, List.setIfInBounds_toArray, List.set_cons_succ, List.set_cons_zero])
  refine wpAnyH_done (by kernel_rfl) ?_ _
  go_wp2
  go_ret
  exact ⟨rfl, hB3⟩
theorem leastK_bd (f : Nat → Int) (n : Nat) : ∀ k, k ≤ n → (leastK f k).1 ≤ n
  | 0, _ => by simp [leastK]
  | k + 1, h => by
    simp only [leastK]
    split
    · simp only; omega
    · exact leastK_bd f n k (by omega)
set_option maxRecDepth 100000 in
set_option maxHeartbeats 8000000 in
theorem LLeastN_any (af : Option Addr) (kf : Nat) (s : LeS) (q0 q1 q2 : Nat) (al : Option Addr) (l : List ByteArray) (cl : Nat) (w : World) (hm : ShelfC w af kf s) (hv : LeValid s) (hl : letB l = true) (hil : StrsC w al l)
    (g0 : w.heap[q0]? = some (.cells #[.int .i64 s.width, .slice af s.forms.length kf] 24 (0, 0))) (g1 : w.heap[q1]? = some (.cells #[.slice al l.length cl] 44 (0, 0)))
    (g2 : BlkI w q2 3 ((List.range s.forms.length).map fun (k : Nat) => (k : Int))) :
    Calls Tryz.prog 80 #[.slice (some ⟨q2, 0, none⟩) s.forms.length s.forms.length, .func (.func 81) #[] #[.pointer (some ⟨q0, 0, none⟩), .pointer (some ⟨q1, 0, none⟩)]] w fun e w' => e = .returned (.tuple #[.int .i64 ((leastK (nearF s l) s.forms.length).1 : Int), .int .i64 (leastK (nearF s l) s.forms.length).2]) ∧ Below w.heap.size w w' := by
  have HM := Lib.hid hm
  have hn4 := hv.many
  have HAK := Lib.hid (fun (i : Nat) (hi : i < s.forms.length) (W : World) (h : Below w.heap.size w W) => LNear1_any af kf s i q0 q1 al l cl W (hm.mono h) hv hi hl (hil.mono h) ((h.block _ (lt_of_block g0)).trans g0) ((h.block _ (lt_of_block g1)).trans g1))
  have HG2 := Lib.hid (fun (V : World) (h : Below w.heap.size w V) => (by
    have g := g2.same (h.block _ g2.lt)
    exact ⟨fun k hk => (by
      have := g.cell k (by simpa using hk)
      simpa using this), g.lt⟩ : (∀ k, k < s.forms.length → V.cell? ⟨q2, k, none⟩ = some (.int .i64 (k : Int))) ∧ q2 < V.heap.size))
  have HLT := Lib.hid (leastK_bd (nearF s l) s.forms.length)
  have HLS := Lib.hid (fun k => show leastK (nearF s l) (k + 1) = if 0 ≤ nearF s l k ∧ ((leastK (nearF s l) k).2 < 0 ∨ nearF s l k < (leastK (nearF s l) k).2) then (k, nearF s l k) else leastK (nearF s l) k from rfl)
  clear hm g0 g1 g2
  generalize nearF s l = f at *
  generalize s.forms.length = n at *
  go_enter Tryz.func80, Tryz.ntmps80
  go_upto_region 3 with (fail)
  go_loopw [4, 5, 11] (fun u v i V => ∃ k : Nat, k ≤ n ∧ u = .int .i64 ((leastK f k).1 : Int) ∧ v = .int .i64 (leastK f k).2 ∧ i = .int .i64 k ∧ Below w.heap.size w V) (fun _ _ i _ => n - (intOf i).toNat)
  case atStart => exact ⟨0, by omega, rfl, rfl, rfl, .refl _ _⟩
  case round =>
    rename World => V
    obtain ⟨k, hk, rfl, rfl, rfl, hg⟩ := hrel
    by_cases hlt : k < n
    · obtain ⟨h2, z2⟩ := HG2.out V hg
      have h2k := h2 k hlt
      have AC := Lib.hid (HAK.out k hlt V hg)
      have hls := HLS.out k
      have hltI : (k : Int) < n := by omega
      clear h2
      generalize f k = own at *
      generalize leastK f k = pr at *
      obtain ⟨b0, n0⟩ := pr
      simp only at hls
      by_cases h1 : 0 ≤ own
      · by_cases h2 : n0 < 0
        · go_wp2_with (go_at_call 81; go_must ((with_reducible refine AC.out.mono ?_); rintro e w4 ⟨rfl, hb4⟩; dsimp only))
          go_roundw
          case rel => exact ⟨k + 1, by omega, by rw [hls, if_pos ⟨h1, .inl h2⟩]; try rfl, by rw [hls, if_pos ⟨h1, .inl h2⟩]; try rfl, by go_num, hg.trans (hb4.mono hg.size)⟩
          case measure => simp [intOf]; omega
        · by_cases h3 : own < n0
          · go_wp2_with (go_at_call 81; go_must ((with_reducible refine AC.out.mono ?_); rintro e w4 ⟨rfl, hb4⟩; dsimp only))
            go_roundw
            case rel => exact ⟨k + 1, by omega, by rw [hls, if_pos ⟨h1, .inr h3⟩]; try rfl, by rw [hls, if_pos ⟨h1, .inr h3⟩]; try rfl, by go_num, hg.trans (hb4.mono hg.size)⟩
            case measure => simp [intOf]; omega
          · go_wp2_with (go_at_call 81; go_must ((with_reducible refine AC.out.mono ?_); rintro e w4 ⟨rfl, hb4⟩; dsimp only))
            go_roundw
            case rel => exact ⟨k + 1, by omega, by rw [hls, if_neg (fun h => h.2.elim h2 h3)]; try rfl, by rw [hls, if_neg (fun h => h.2.elim h2 h3)]; try rfl, by go_num, hg.trans (hb4.mono hg.size)⟩
            case measure => simp [intOf]; omega
      · go_wp2_with (go_at_call 81; go_must ((with_reducible refine AC.out.mono ?_); rintro e w4 ⟨rfl, hb4⟩; dsimp only))
        go_roundw
        case rel => exact ⟨k + 1, by omega, by rw [hls, if_neg (fun h => h1 h.1)]; try rfl, by rw [hls, if_neg (fun h => h1 h.1)]; try rfl, by go_num, hg.trans (hb4.mono hg.size)⟩
        case measure => simp [intOf]; omega
    · obtain rfl : k = n := by omega
      go_wp2
      go_ret2
      exact ⟨rfl, hg⟩
end Go.Proofs.YtelmponkmmfffaaGreat
namespace Go.Proofs.YtelmponkmmfffaaGreat
open Go Go.Proofs
open Go.Shelf
def shLays169_ren : Go.Shelf.Ren := ⟨fun | 169 => 119 | n => n, fun | 70 => 186 | 9 => 9 | 0 => 0 | 72 => 188 | 37 => 29 | 127 => 215 | 3 => 3 | 5 => 5 | n => n, fun | n => n⟩
theorem shLays169 : Go.Proofs.Lays.n169 Tryz.prog shLays169_ren := {
  mixed := by kernel_rfl
  f169 := Tryz.func119.trans (congrArg some (by kernel_rfl))
  t0 := Tryz.underlying0
  a0 := Tryz.isAgg0
  z0 := Tryz.sizeOf0
  v0 := Tryz.zeroValue0
  t3 := Tryz.underlying3
  a3 := Tryz.isAgg3
  z3 := Tryz.sizeOf3
  v3 := Tryz.zeroValue3
  t9 := Tryz.underlying9
  a9 := Tryz.isAgg9
  z9 := Tryz.sizeOf9
  v9 := Tryz.zeroValue9
  t37 := Tryz.underlying29
  a37 := Tryz.isAgg29
  z37 := Tryz.sizeOf29
  v37 := Tryz.zeroValue29
  t70 := Tryz.underlying186
  a70 := Tryz.isAgg186
  z70 := Tryz.sizeOf186
  v70 := Tryz.zeroValue186
  t72 := Tryz.underlying188
  a72 := Tryz.isAgg188
  z72 := Tryz.sizeOf188
  v72 := Tryz.zeroValue188
  t127 := Tryz.underlying215
  a127 := Tryz.isAgg215
  z127 := Tryz.sizeOf215
  v127 := Tryz.zeroValue215 }
theorem shExtra169 : Builder.Extra Tryz.prog shLays169_ren := {
  sizeBuilder := by kernel_rfl
  liesBuilder := by kernel_rfl
  t5 := Tryz.underlying5
  a5 := Tryz.isAgg5
  z5 := Tryz.sizeOf5
  v5 := Tryz.zeroValue5
  infoByte := by kernel_rfl
  cellsByte := by kernel_rfl
  sizeByte := by kernel_rfl
  neB5 := by decide }
open Go.RowKit in
theorem ShStringAny (B b : Nat) (l : List UInt8) (w : World) (h : Lib.IsBuilder 188 5 B b (Lib.byteCells l) w) (hBw : B ≤ w.heap.size) :
    Calls Tryz.prog 119 #[.pointer (some ⟨b, 0, none⟩)] w fun e w' => e = .returned (.string ⟨l.toArray⟩) ∧ Below B w w' := Any.Builder_String_any shLays169 shExtra169 B b l w h hBw
def shLays229_ren : Go.Shelf.Ren := ⟨fun | 229 => 71 | n => n, fun | 9 => 9 | 40 => 137 | 31 => 44 | 152 => 195 | 3 => 3 | 0 => 0 | 4 => 4 | 21 => 21 | 154 => 197 | n => n, fun | n => n⟩
theorem shLays229 : Go.Proofs.Lays.n229 Tryz.prog shLays229_ren := {
  mixed := by kernel_rfl
  f229 := Tryz.func71.trans (congrArg some (by kernel_rfl))
  t0 := Tryz.underlying0
  a0 := Tryz.isAgg0
  z0 := Tryz.sizeOf0
  v0 := Tryz.zeroValue0
  t3 := Tryz.underlying3
  a3 := Tryz.isAgg3
  z3 := Tryz.sizeOf3
  v3 := Tryz.zeroValue3
  t4 := Tryz.underlying4
  a4 := Tryz.isAgg4
  z4 := Tryz.sizeOf4
  v4 := Tryz.zeroValue4
  t9 := Tryz.underlying9
  a9 := Tryz.isAgg9
  z9 := Tryz.sizeOf9
  v9 := Tryz.zeroValue9
  t21 := Tryz.underlying21
  a21 := Tryz.isAgg21
  z21 := Tryz.sizeOf21
  v21 := Tryz.zeroValue21
  t31 := Tryz.underlying44
  a31 := Tryz.isAgg44
  z31 := Tryz.sizeOf44
  v31 := Tryz.zeroValue44
  t40 := Tryz.underlying137
  a40 := Tryz.isAgg137
  z40 := Tryz.sizeOf137
  v40 := Tryz.zeroValue137
  t152 := Tryz.underlying195
  a152 := Tryz.isAgg195
  z152 := Tryz.sizeOf195
  v152 := Tryz.zeroValue195
  t154 := Tryz.underlying197
  a154 := Tryz.isAgg197
  z154 := Tryz.sizeOf197
  v154 := Tryz.zeroValue197 }
open Go.RowKit Go.Lib in
theorem ShFields (g : Nat) (lb : Array Value) (eg : ∀ args w, (callFunc g args).run Tryz.prog w = .ok (.enter g args) w) (p : Nat → Bool) (s : ByteArray) (w : World) (hs : s.size ≤ 4294967296) (hp : PredAt Tryz.prog g lb encR p w) :
    Calls Tryz.prog 71 #[.string s, .func (.func g) #[] lb] w fun e w' => ∃ A, e = .returned (.slice (some ⟨A, 0, none⟩) (Lib.goFieldsP p s).length (Lib.goFieldsP p s).length) ∧ w.heap.size ≤ A ∧
      w'.ownsRow w.heap.size 9 1 (.slice (some ⟨A, 0, none⟩) (Lib.goFieldsP p s).length (Lib.goFieldsP p s).length) (Lib.goFieldsP p s).length ((Lib.goFieldsP p s).map Value.string) ∧ Below w.heap.size w w' := Any.strings_FieldsFunc shLays229 g lb eg p s w hs hp (by kernel_rfl) (by kernel_rfl)
end Go.Proofs.YtelmponkmmfffaaGreat
namespace Go.Proofs.YtelmponkmmfffaaGreat
open Go Go.RowKit Go.Shelf
def IsBld (B b : Nat) (l : List UInt8) (w : World) : Prop := Lib.IsBuilder 188 5 B b (Lib.byteCells l) w
theorem bldInfo : ∃ j, Tryz.prog.info? 188 = some j ∧ j.size = 2 := Option.map_eq_some_iff.1 (show (Tryz.prog.info? 188).map (·.size) = some 2 by kernel_rfl)
theorem bldPtr : Tryz.prog.underlying 186 = some (.pointer 188) := by kernel_rfl
theorem bldUns : Tryz.prog.underlying 220 = some .unsafePointer := by kernel_rfl
theorem E_byteB : ElemInfo Tryz.prog 29 5 (.int .u8 0) 1 1 := ⟨by kernel_rfl, by kernel_rfl, rfl, by decide⟩
theorem bldStr : Tryz.prog.underlying 9 = some .string := by kernel_rfl
set_option maxRecDepth 100000 in
set_option maxHeartbeats 1000000 in
theorem LCopyCheck_any (B b : Nat) (bs : List Value) (w : World) (h : Lib.IsBuilder 188 5 B b bs w) :
    Calls Tryz.prog 138 #[.pointer (some ⟨b, 0, none⟩)] w fun e w' => e = .returned (.tuple #[]) ∧ Lib.BuilderAt 188 5 B b (.pointer (some ⟨b, 0, none⟩)) bs w' ∧ Below B w w' := by
  obtain ⟨j, hj, hjs⟩ := bldInfo
  rcases h with h | h
  · have c0 := h.cell0
    have f0 := h.frozen0
    have s0 := h.shape
    have HH := Lib.hid h
    clear h
    go_enter Tryz.func138, Tryz.ntmps138
    go_wp2
    rw [Lib.run_to_unsafe w ⟨b, 0, none⟩ bldPtr bldUns hj (by rw [hjs]; decide) s0 (Nat.zero_lt_succ 1)]
    simp only [Result.andThen]
    rw [Oper.upon_value]
    go_wp2
    rw [run_callFunc_extern Tryz.func152 (by kernel_rfl) (by kernel_rfl) (by kernel_rfl) (e := Extern.AbiNoEscape.same) (by kernel_rfl), Lib.run_noEscape]
    simp only [Result.andThen]
    rw [Oper.upon_value]
    go_wp2
    rw [Lib.run_from_unsafe w ⟨b, 0, none⟩ bldUns bldPtr hj s0 (by kernel_rfl)]
    simp only [Result.andThen]
    rw [Oper.upon_value]
    go_wp2
    go_end0
    exact ⟨rfl, HH.out.used _, (Below.refl B w).setCell (p := ⟨b, 0, none⟩) HH.out.1 _⟩
  · have c0 := h.cell0
    have HH := Lib.hid h
    clear h
    go_enter Tryz.func138, Tryz.ntmps138
    go_wp2
    rw [Lib.run_neq_ptr_same w _ bldPtr hj]
    go_wp2
    go_end0
    exact ⟨rfl, HH.out, Below.refl B _⟩
set_option maxRecDepth 100000 in
set_option maxHeartbeats 2000000 in
theorem LWriteByte_any (B b : Nat) (l : List UInt8) (c : UInt8) (w : World) (h : IsBld B b l w) (hlen : l.length ≤ 1000) (hBw : B ≤ w.heap.size) :
    Calls Tryz.prog 117 #[.pointer (some ⟨b, 0, none⟩), .int .u8 (c.toNat : Int)] w fun e w' => e = .returned .nilIface ∧ IsBld B b (l ++ [c]) w' ∧ Below B w w' := by
  have C := Lib.hid (LCopyCheck_any B b (Lib.byteCells l) w h)
  have hbl : (Lib.byteCells l).length = l.length := by simp [Lib.byteCells]
  clear h
  go_enter Tryz.func117, Tryz.ntmps117
  go_upto_region 2 with (go_at_call 138; go_must (refine C.out.mono ?_; rintro e w1 ⟨rfl, h1, hb1⟩; dsimp only))
  obtain ⟨hB, v, hbk, hown, hne⟩ := h1
  rw [hbl] at hown
  have c1 : w1.cell? ⟨b, 1, none⟩ = some v := blk_cell 1 hbk rfl
  have zb := lt_of_block hbk
  have hz1 := hb1.size
  go_upto_region 3 with (at_builtin; go_must (refine wpList_app (.tmp 11) (.tmp 13) E_byteB rfl rfl rfl rfl B l.length 1 (Lib.byteCells l) [.int .u8 (c.toNat : Int)] (hown.alloc _) (SrcAt.one _ _ _ rfl) (by omega) (by decide) (by simp; omega) ?_; intro v2 w2 ho2 hg2 _; obtain ⟨g2, cap2, rfl⟩ := ownsRow_succ ho2; (have hb2 : w2.heap[b]? = some (.cells #[.pointer (some ⟨b, 0, none⟩), v] 188 (0, 0)) := (hg2.block b (by simp; omega) (fun e => hne e.symm)).trans ((heap_alloc_old _ _ zb).trans hbk)); have d1 : w2.cell? ⟨b, 1, none⟩ = some v := blk_cell 1 hb2 rfl; have f1 := blk_free 1 hb2; have z2 := lt_of_block hb2; (have hbw := app_next hb1 (by omega) (Nat.le_refl _) hown hg2); clear hg2; simp only [Act.put, List.setIfInBounds_toArray, List.set_cons_succ, List.set_cons_zero]))
  have e1 : Lib.byteCells (l ++ [c]) = Lib.byteCells l ++ [.int .u8 (c.toNat : Int)] := by simp [Lib.byteCells]
  have e2 : (Lib.byteCells (l ++ [c])).length = l.length + 1 := by simp [Lib.byteCells]
  go_wp2
  go_ret
  refine ⟨rfl, .inr ?_, hbw.setCell hB _⟩
  refine Lib.BuilderAt.put hB hb2 (bs' := Lib.byteCells (l ++ [c])) ?_ (by decide)
  rw [e2, e1]
  exact ho2
set_option maxRecDepth 100000 in
set_option maxHeartbeats 2000000 in
theorem LWriteString_any (B b : Nat) (l : List UInt8) (s : ByteArray) (w : World) (h : IsBld B b l w) (hlen : l.length ≤ 1000) (hs : s.size ≤ 1000) (hBw : B ≤ w.heap.size) :
    Calls Tryz.prog 118 #[.pointer (some ⟨b, 0, none⟩), .string s] w fun e w' => e = .returned (.tuple #[.int .i64 s.size, .nilIface]) ∧ IsBld B b (l ++ s.data.toList) w' ∧ Below B w w' := by
  have C := Lib.hid (LCopyCheck_any B b (Lib.byteCells l) w h)
  have hbl : (Lib.byteCells l).length = l.length := by simp [Lib.byteCells]
  obtain ⟨i, hi, hz0, hz1, hz2⟩ := info_parts E_byteB.info
  clear h
  go_enter Tryz.func118, Tryz.ntmps118
  go_upto_region 2 with (go_at_call 138; go_must (refine C.out.mono ?_; rintro e w1 ⟨rfl, h1, hb1⟩; dsimp only))
  obtain ⟨hB, v, hbk, hown, hne⟩ := h1
  rw [hbl] at hown
  have c1 : w1.cell? ⟨b, 1, none⟩ = some v := blk_cell 1 hbk rfl
  have zb := lt_of_block hbk
  have hz9 := hb1.size
  go_upto_region 3 with (at_builtin; go_must (refine Lib.wpList_append_own_string _ rfl (.tmp 12) (.tmp 13) 29 9 rfl B 5 i E_byteB.und bldStr hi hz0 hz1 hz2 v l.length (Lib.byteCells l) rfl hown s rfl (by unfold maxLen; omega) (by omega) (by omega) ?_; intro v2 w2 ho2 hg2 _; obtain ⟨ao, c2, rfl⟩ := own_slice ho2; (have hb2 : w2.heap[b]? = some (.cells #[.pointer (some ⟨b, 0, none⟩), v] 188 (0, 0)) := (hg2.block b zb (fun e => hne e.symm)).trans hbk); have d1 : w2.cell? ⟨b, 1, none⟩ = some v := blk_cell 1 hb2 rfl; have f1 := blk_free 1 hb2; have z2 := lt_of_block hb2; (have hbw := app_on hb1 (by omega) (Nat.le_refl _) hown hg2); clear hg2; simp only [Act.put, List.setIfInBounds_toArray, List.set_cons_succ, List.set_cons_zero]))
  have e1 : Lib.byteCells (l ++ s.data.toList) = Lib.byteCells l ++ Lib.strCells s := by simp [Lib.byteCells, Lib.strCells]
  have e2 : (Lib.byteCells (l ++ s.data.toList)).length = l.length + s.size := by simp [Lib.byteCells]
  go_wp2
  go_ret2
  refine ⟨rfl, .inr ?_, hbw.setCell hB _⟩
  refine Lib.BuilderAt.put hB hb2 (bs' := Lib.byteCells (l ++ s.data.toList)) ?_ (by decide)
  rw [e2, e1]
  exact ho2
end Go.Proofs.YtelmponkmmfffaaGreat
namespace Go.Proofs.YtelmponkmmfffaaGreat
open Go Go.RowKit Go.Shelf
/-- What is written of a letter's first words, and how much room is left on the line. -/
def roomTo (width : Int) (l : List ByteArray) : Nat → Int
  | 0 => 0
  | k + 1 => let n : Int := ((l[k]?.getD noW).size : Int)
    if 0 < k ∧ n < roomTo width l k then roomTo width l k - (n + 1) else width - n
def textTo (width : Int) (l : List ByteArray) : Nat → List UInt8
  | 0 => []
  | k + 1 => textTo width l k ++ (if 0 < k then (if (((l[k]?.getD noW).size : Int) < roomTo width l k) then [32] else [10]) else []) ++ (l[k]?.getD noW).data.toList
def textL (width : Int) (l : List ByteArray) : List UInt8 := textTo width l l.length ++ if 0 < l.length then [10] else []
theorem textTo_len (width : Int) (l : List ByteArray) (hl : ∀ i (hi : i < l.length), wordB l[i] = true) : ∀ k, k ≤ l.length → (textTo width l k).length ≤ 9 * k
  | 0, _ => by simp [textTo]
  | k + 1, hk => by
    have ih := textTo_len width l hl k (by omega)
    have h1 := word_size (hl k (by omega))
    simp only [textTo, List.length_append]
    rw [List.getElem?_eq_getElem (by omega : k < l.length)]
    have h2 : (Option.getD (some l[k]) noW).data.toList.length ≤ 8 := by simpa using h1.2
    have h3 : (if 0 < k then (if (((Option.getD (some l[k]) noW).size : Int) < roomTo width l k) then [(32 : UInt8)] else [10]) else []).length ≤ 1 := by split <;> (try split) <;> simp
    omega
theorem roomTo_bd (width : Int) (hw : 8 ≤ width ∧ width ≤ 30) (l : List ByteArray) (hl : ∀ i (hi : i < l.length), wordB l[i] = true) : ∀ k, k ≤ l.length → 0 ≤ roomTo width l k ∧ roomTo width l k ≤ 30
  | 0, _ => by simp [roomTo]
  | k + 1, hk => by
    have ih := roomTo_bd width hw l hl k (by omega)
    have h1 := word_size (hl k (by omega))
    simp only [roomTo]
    rw [List.getElem?_eq_getElem (by omega : k < l.length)]
    simp only [Option.getD_some]
    split <;> omega
theorem LString_any (B b : Nat) (l : List UInt8) (w : World) (h : IsBld B b l w) (hBw : B ≤ w.heap.size) :
    Calls Tryz.prog 119 #[.pointer (some ⟨b, 0, none⟩)] w fun e w' => e = .returned (.string ⟨l.toArray⟩) ∧ Below B w w' := ShStringAny B b l w h hBw
theorem LWrite32_any (B b : Nat) (l : List UInt8) (w : World) (h : IsBld B b l w) (hlen : l.length ≤ 1000) (hBw : B ≤ w.heap.size) :
    Calls Tryz.prog 117 #[.pointer (some ⟨b, 0, none⟩), .int .u8 32] w fun e w' => e = .returned .nilIface ∧ IsBld B b (l ++ [32]) w' ∧ Below B w w' := LWriteByte_any B b l 32 w h hlen hBw
theorem LWrite10_any (B b : Nat) (l : List UInt8) (w : World) (h : IsBld B b l w) (hlen : l.length ≤ 1000) (hBw : B ≤ w.heap.size) :
    Calls Tryz.prog 117 #[.pointer (some ⟨b, 0, none⟩), .int .u8 10] w fun e w' => e = .returned .nilIface ∧ IsBld B b (l ++ [10]) w' ∧ Below B w w' := LWriteByte_any B b l 10 w h hlen hBw
set_option maxRecDepth 100000 in
set_option maxHeartbeats 4000000 in
theorem LText_any (width : Int) (al : Option Addr) (l : List ByteArray) (cl : Nat) (w : World) (hw : 8 ≤ width ∧ width ≤ 30) (hil : StrsC w al l) (hlet : letB l = true) :
    Calls Tryz.prog 70 #[.int .i64 width, .slice al l.length cl] w fun e w' => e = .returned (.string ⟨(textL width l).toArray⟩) ∧ Below w.heap.size w w' := by
  obtain ⟨hl15, hlw⟩ := let_word hlet
  obtain ⟨X, hX⟩ : ∃ X : World, X = w.alloc (.cells #[.pointer none, .slice none 0 0] 188) := ⟨_, rfl⟩
  have hwX : Below w.heap.size w X := by rw [hX]; exact (Below.refl _ w).alloc (Nat.le_refl _) _
  have hB0 : IsBld w.heap.size w.heap.size [] X := by
    refine .inl ⟨Nat.le_refl _, .slice none 0 0, by rw [hX]; exact alloc_at _ _ rfl, ⟨rfl, .inl ⟨rfl, rfl⟩⟩, by simp [Value.ownBlock]⟩
  have HIL := Lib.hid (fun (V : World) (h : Below w.heap.size w V) => hil.mono h)
  have HTL := Lib.hid (textTo_len width l hlw)
  have HRB := Lib.hid (roomTo_bd width hw l hlw)
  have HLW := Lib.hid (fun i (hi : i < l.length) => word_size (hlw i hi))
  have HX := Lib.hid hX
  clear hX hil hlet hlw
  go_enter Tryz.func70, Tryz.ntmps70
  go_upto_region 2 with (fail)
  rw [← HX.out]
  clear HX
  go_upto_region 4 with (fail)
  go_loopw [6, 11] (fun r i V => ∃ k : Nat, k ≤ l.length ∧ r = .int .i64 (roomTo width l k) ∧ i = .int .i64 k ∧ Below w.heap.size w V ∧ IsBld w.heap.size w.heap.size (textTo width l k) V) (fun _ i _ => l.length - (intOf i).toNat)
  case atStart => exact ⟨0, Nat.zero_le _, rfl, rfl, hwX, hB0⟩
  case round =>
    rename World => V
    obtain ⟨k, hk, rfl, rfl, hbw, hbl⟩ := hrel
    by_cases hlt : k < l.length
    · obtain ⟨b, off, e0, hb, h1⟩ := HIL.out V hbw k hlt
      have hsz := HLW.out k hlt
      have htl := HTL.out k hk
      have hrb := HRB.out k hk
      have hT := Lib.hid (show textTo width l (k + 1) = textTo width l k ++ (if 0 < k then (if ((l[k].size : Int) < roomTo width l k) then [32] else [10]) else []) ++ l[k].data.toList by simp only [textTo]; rw [List.getElem?_eq_getElem hlt]; rfl)
      have hR := Lib.hid (show roomTo width l (k + 1) = if 0 < k ∧ (l[k].size : Int) < roomTo width l k then roomTo width l k - ((l[k].size : Int) + 1) else width - (l[k].size : Int) by simp only [roomTo]; rw [List.getElem?_eq_getElem hlt]; rfl)
      have hbz := hbw.size
      have HBL := Lib.hid hbl
      subst e0
      clear hbl
      generalize l[k] = s at *
      generalize textTo width l k = t at *
      generalize roomTo width l k = room at *
      by_cases hk0 : 0 < k
      · have hkI : (0 : Int) < (k : Int) := by omega
        by_cases hr : (s.size : Int) < room
        · have W1 := Lib.hid (LWrite32_any w.heap.size w.heap.size t V HBL.out (by omega) hbz)
          go_wp2_with (first
            | (go_at_call 118; go_must ((with_reducible refine (LWriteString_any w.heap.size w.heap.size (t ++ [32]) s w3 h3 (by simp; omega) (by omega) (Nat.le_trans hbz hb3.size)).mono ?_); rintro e w4 ⟨rfl, h4, hb4⟩; dsimp only))
            | (go_at_call 117; go_must ((with_reducible refine W1.out.mono ?_); rintro e w3 ⟨rfl, h3, hb3⟩; dsimp only)))
          go_roundw
          case rel => exact ⟨k + 1, by omega, by rw [hR.out, if_pos ⟨hk0, hr⟩], by go_num, hbw.trans (hb3.trans hb4), by rw [hT.out, if_pos hk0, if_pos hr]; exact h4⟩
          case measure => simp [intOf]; omega
        · have W1 := Lib.hid (LWrite10_any w.heap.size w.heap.size t V HBL.out (by omega) hbz)
          go_wp2_with (first
            | (go_at_call 118; go_must ((with_reducible refine (LWriteString_any w.heap.size w.heap.size (t ++ [10]) s w3 h3 (by simp; omega) (by omega) (Nat.le_trans hbz hb3.size)).mono ?_); rintro e w4 ⟨rfl, h4, hb4⟩; dsimp only))
            | (go_at_call 117; go_must ((with_reducible refine W1.out.mono ?_); rintro e w3 ⟨rfl, h3, hb3⟩; dsimp only)))
          go_roundw
          case rel => exact ⟨k + 1, by omega, by rw [hR.out, if_neg (fun h => hr h.2)], by go_num, hbw.trans (hb3.trans hb4), by rw [hT.out, if_pos hk0, if_neg hr]; exact h4⟩
          case measure => simp [intOf]; omega
      · have hk9 : ¬ (0 : Int) < (k : Int) := by omega
        have W1 := Lib.hid (LWriteString_any w.heap.size w.heap.size t s V HBL.out (by omega) (by omega) hbz)
        go_wp2_with (go_at_call 118; go_must ((with_reducible refine W1.out.mono ?_); rintro e w4 ⟨rfl, h4, hb4⟩; dsimp only))
        go_roundw
        case rel => exact ⟨k + 1, by omega, by rw [hR.out, if_neg (fun h => hk0 h.1)], by go_num, hbw.trans hb4, by rw [hT.out, if_neg hk0, List.append_nil]; exact h4⟩
        case measure => simp [intOf]; omega
    · obtain rfl : k = l.length := by omega
      have htl := HTL.out l.length (Nat.le_refl _)
      have hbz := hbw.size
      have HTX := Lib.hid (show textL width l = textTo width l l.length ++ if 0 < l.length then [10] else [] from rfl)
      by_cases h0 : 0 < l.length
      · have h0I : (0 : Int) < (l.length : Int) := by omega
        have W1 := Lib.hid (LWrite10_any w.heap.size w.heap.size (textTo width l l.length) V hbl (by omega) hbz)
        go_wp2_with (first
          | (go_at_call 119; go_must ((with_reducible refine (LString_any w.heap.size w.heap.size (textTo width l l.length ++ [10]) w3 h3 (Nat.le_trans hbz hb3.size)).mono ?_); rintro e w4 ⟨rfl, hb4⟩; dsimp only))
          | (go_at_call 117; go_must ((with_reducible refine W1.out.mono ?_); rintro e w3 ⟨rfl, h3, hb3⟩; dsimp only)))
        go_ret
        exact ⟨by rw [HTX.out, if_pos h0]; rfl, hbw.trans (hb3.trans hb4)⟩
      · have h0I : ¬ (0 : Int) < (l.length : Int) := by omega
        have W1 := Lib.hid (LString_any w.heap.size w.heap.size (textTo width l l.length) V hbl hbz)
        go_wp2_with (go_at_call 119; go_must ((with_reducible refine W1.out.mono ?_); rintro e w4 ⟨rfl, hb4⟩; dsimp only))
        go_ret
        exact ⟨by rw [HTX.out, if_neg h0, List.append_nil]; rfl, hbw.trans hb4⟩
end Go.Proofs.YtelmponkmmfffaaGreat
