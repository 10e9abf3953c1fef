/- What is proved here: what of a town that a call itself looks at stays; the contract of Persons of layer 3. Conditions: the town is valid. -/
/- What is proved here: elements of several cells in a row; what the call owns, seen as such elements. Over any program. -/
/- What is proved here: append as a step of a region that draws its order. Over any program. -/
/- What is proved here: a region that draws its order and ends in one operation z for which the others are waited: what holds of the world all along need not hold behind z. Over any program. -/
import Derived.Test.YtklconegomgjaaaGreatPeWiderG
import Derived.Test.YtklconegomgjaaaGreatEaCanG
import Derived.Test.YtklconegomgjaaaGreatPnBaseG
import Derived.Deep.AppendLies
import Derived.Deep.RegionHeld3
import Derived.Deep.RegionHeld
import Derived.StillTail
set_option linter.unusedVariables false
set_option linter.unusedSimpArgs false
namespace Go.Proofs.YtklconegomgjaaaGreat
open Go Go.RowKit Go.Shelf
attribute [local go_sem] Oper.semAt_some

/-- A town that a call which began at w looks at. -/
structure TwP (w A : World) (bt bc bk : Nat) (a1 a2 a3 a4 : Option Addr) (k1 k2 k3 k4 : Nat) (t : PeW) : Prop where
  below : Below w.heap.size w A
  blk : TBlk A bt bc bk a1 a2 a3 a4 k1 k2 k3 k4 t 0
  common : ∃ T, MapV A Tryz.prog 3 bc T ∧ ComOk t T
  known : ∃ T, MapV A Tryz.prog 109 bk T ∧ KnoOk t T
  ne : bc ≠ bk
  lt : w.heap.size ≤ bt ∧ w.heap.size ≤ bc ∧ w.heap.size ≤ bk
section
variable {w A A' : World} {bt bc bk : Nat} {a1 a2 a3 a4 : Option Addr} {k1 k2 k3 k4 : Nat} {t : PeW}
theorem TwP.town (h : TwP w A bt bc bk a1 a2 a3 a4 k1 k2 k3 k4 t) (hm : TownC w a1 a2 a3 a4 k1 k2 k3 k4 t) : TownW A bt bc bk a1 a2 a3 a4 k1 k2 k3 k4 t 0 := ⟨hm.mono h.below, h.blk, h.common, h.known, h.ne⟩
theorem TwP.of (hb : Below w.heap.size w A) (h : TownW A bt bc bk a1 a2 a3 a4 k1 k2 k3 k4 t 0) (h1 : w.heap.size ≤ bt) (h2 : w.heap.size ≤ bc) (h3 : w.heap.size ≤ bk) : TwP w A bt bc bk a1 a2 a3 a4 k1 k2 k3 k4 t := ⟨hb, h.blk, h.common, h.known, h.ne, h1, h2, h3⟩
theorem TwP.belowB {B : Nat} (h : TwP w A bt bc bk a1 a2 a3 a4 k1 k2 k3 k4 t) (hb : Below B A A') (hB : w.heap.size ≤ B) (h0 : bt < B) (h1 : bc < B) (h2 : bk < B) : TwP w A' bt bc bk a1 a2 a3 a4 k1 k2 k3 k4 t := by
  obtain ⟨g1, g2, ⟨T, hT, hC⟩, ⟨T2, hT2, hC2⟩, g3, g4⟩ := h
  exact ⟨g1.trans (hb.mono hB), (hb.block _ h0).trans g2, ⟨T, hT.below hb h1, hC⟩, ⟨T2, hT2.below hb h2, hC2⟩, g3, g4⟩
theorem TwP.step (h : TwP w A bt bc bk a1 a2 a3 a4 k1 k2 k3 k4 t) (hl : Lrn bc bk A A') (ht : TownW A' bt bc bk a1 a2 a3 a4 k1 k2 k3 k4 t 0) : TwP w A' bt bc bk a1 a2 a3 a4 k1 k2 k3 k4 t :=
  ⟨hl.own h.below h.lt.2.1 h.lt.2.2, ht.blk, ht.common, ht.known, h.ne, h.lt⟩
theorem TwP.set (h : TwP w A bt bc bk a1 a2 a3 a4 k1 k2 k3 k4 t) (b j : Nat) (v : Value) (hb : w.heap.size ≤ b) (h0 : bt ≠ b) (h1 : bc ≠ b) (h2 : bk ≠ b) : TwP w (A.setCell ⟨b, j, none⟩ v) bt bc bk a1 a2 a3 a4 k1 k2 k3 k4 t := by
  obtain ⟨g1, g2, ⟨T, hT, hC⟩, ⟨T2, hT2, hC2⟩, g3, g4⟩ := h
  exact ⟨g1.setCell hb _, (setP_other h0).trans g2, ⟨T, hT.same (setP_other h1), hC⟩, ⟨T2, hT2.same (setP_other h2), hC2⟩, g3, g4⟩
end
theorem hull_snoc (l : List (Int × Int)) (y : Int × Int) : hullTo (l ++ [y]) = if l.isEmpty = true then y else (min (hullTo l).1 y.1, max (hullTo l).2 y.2) := by
  cases l with
  | nil => rfl
  | cons a l =>
    show (l ++ [y]).foldl _ a = _
    rw [List.foldl_append]
    rfl
/-- The span, whether it is the first, and the town's pointer. -/
structure PerO (A : World) (s0 b0 bt : Nat) (s : Int × Int) (first : Bool) : Prop where
  fs : A.heap[s0]? = some (.cells #[.int .i64 s.1, .int .i64 s.2] 36 (0, 0))
  ff : A.heap[b0]? = some (.cells #[.bool first] 4 (0, 0))
  fc : A.heap[b0 + 1]? = some (.cells #[.pointer (some ⟨bt, 0, none⟩)] 100 (0, 0))
theorem PerO.below {A A' : World} {s0 b0 bt B : Nat} {s : Int × Int} {f : Bool} (h : PerO A s0 b0 bt s f) (hb : Below B A A') (h1 : s0 < B) (h2 : b0 + 1 < B) : PerO A' s0 b0 bt s f := ⟨(hb.block _ (by omega)).trans h.fs, (hb.block _ (by omega)).trans h.ff, (hb.block _ (by omega)).trans h.fc⟩
theorem PerO.lrn {A A' : World} {s0 b0 bt bc bk : Nat} {s : Int × Int} {f : Bool} (h : PerO A s0 b0 bt s f) (hb : Lrn bc bk A A') (h1 : bc < b0) (h2 : bk < b0) (h3 : s0 ≠ bc) (h4 : s0 ≠ bk) : PerO A' s0 b0 bt s f := ⟨hb.cellsN h.fs h3 h4, hb.cellsN h.ff (by omega) (by omega), hb.cellsN h.fc (by omega) (by omega)⟩
theorem PerO.sets {A : World} {s0 b0 bt : Nat} {s : Int × Int} {f : Bool} (h : PerO A s0 b0 bt s f) (h1 : s0 < b0) (x : Int × Int) (g : Bool) : PerO (((A.setCell ⟨s0, 0, none⟩ (.int .i64 x.1)).setCell ⟨s0, 1, none⟩ (.int .i64 x.2)).setCell ⟨b0, 0, none⟩ (.bool g)) s0 b0 bt x g := by
  refine ⟨?_, ?_, ?_⟩
  · rw [setP_other (by omega)]
    exact blk_set 1 _ (blk_set 0 _ h.fs)
  · refine blk_set 0 _ (t := 4) (cs := #[.bool f]) ?_
    rw [setP_other (by omega), setP_other (by omega)]
    exact h.ff
  · rw [setP_other (by omega), setP_other (by omega), setP_other (by omega)]
    exact h.fc
theorem wider_no (a b c d : Int) (w : World) : Calls Tryz.prog 79 #[.agg #[.int .i64 a, .int .i64 b], .agg #[.int .i64 c, .int .i64 d], .bool false] w fun e w' => e = .returned (.agg #[.int .i64 (min a c), .int .i64 (max b d)]) ∧ Below w.heap.size w w' := PWider_any a b c d false w
theorem wider_yes (a b c d : Int) (w : World) : Calls Tryz.prog 79 #[.agg #[.int .i64 a, .int .i64 b], .agg #[.int .i64 c, .int .i64 d], .bool true] w fun e w' => e = .returned (.agg #[.int .i64 c, .int .i64 d]) ∧ Below w.heap.size w w' := PWider_any a b c d true w
set_option maxRecDepth 100000 in
set_option maxHeartbeats 4000000 in
theorem PPersons_any (a1 a2 a3 a4 : Option Addr) (k1 k2 k3 k4 : Nat) (t : PeW) (w : World) (hm : TownC w a1 a2 a3 a4 k1 k2 k3 k4 t) (hv : PeValid t) :
    Calls Tryz.prog 32 #[(.agg #[.int .i64 t.ear.sounds, .slice a1 t.ear.alphas.length k1, .slice a2 t.ear.spells.length k2, .int .i64 t.vills, .slice a3 t.ments.length k3, .slice a4 t.ties.length k4])] w fun e w' => e = .returned (if fairL t 0 = [] then .tuple #[.agg #[.int .i64 0, .int .i64 0], .int .i64 8] else .tuple #[.agg #[.int .i64 (personsN t).1, .int .i64 (personsN t).2], .int .i64 0]) ∧ Below w.heap.size w w' := by
  have hnm := hv.nm
  obtain ⟨Y, hY⟩ : ∃ Y : World, Y = (w.alloc (.cells #[.int .i64 t.ear.sounds, .slice a1 t.ear.alphas.length k1, .slice a2 t.ear.spells.length k2, .int .i64 t.vills, .slice a3 t.ments.length k3, .slice a4 t.ties.length k4] 29)).alloc (.cells #[.int .i64 0, .int .i64 0] 36) := ⟨_, rfl⟩
  have hbY : Below w.heap.size w Y := by rw [hY]; exact ((Below.refl _ _).alloc (Nat.le_refl _) _).alloc (by simp) _
  have h1 : Y.heap[w.heap.size]? = some (.cells #[.int .i64 t.ear.sounds, .slice a1 t.ear.alphas.length k1, .slice a2 t.ear.spells.length k2, .int .i64 t.vills, .slice a3 t.ments.length k3, .slice a4 t.ties.length k4] 29 (0, 0)) := by rw [hY]; exact (heap_alloc_old _ _ (by simp)).trans (alloc_atE _ _ rfl)
  have h2 : Y.heap[w.heap.size + 1]? = some (.cells #[.int .i64 0, .int .i64 0] 36 (0, 0)) := by rw [hY]; exact alloc_atE _ _ (by simp)
  have HY := Lib.hid hY
  clear hY
  have x0 := blk_cell 0 h1 rfl
  have x1 := blk_cell 1 h1 rfl
  have x2 := blk_cell 2 h1 rfl
  have x3 := blk_cell 3 h1 rfl
  have x4 := blk_cell 4 h1 rfl
  have x5 := blk_cell 5 h1 rfl
  have xz := lt_of_block h1
  simp only [List.getElem_toArray, List.getElem_cons_zero, List.getElem_cons_succ] at x0 x1 x2 x3 x4 x5
  have HBY := Lib.hid hbY
  have HB2 := Lib.hid h2
  have hmY := hm.mono hbY
  have HM := Lib.hid hm
  by_cases hne : fairL t 0 = []
  · rw [if_pos hne]
    have EN := Lib.hid (PEnter_none a1 a2 a3 a4 k1 k2 k3 k4 t 78 #[] Y hmY hv (enters_of Tryz.func78 (by kernel_rfl) rfl) (fun U _ => (PFine_any U).mono fun e w' ⟨h1, h2⟩ => ⟨h1, by rw [h2]; exact Below.refl _ _⟩) hne)
    clear hne hm hmY h1 h2 hbY
    go_enter Tryz.func32, Tryz.ntmps32
    go_upto_region 1 with (fail)
    rw [← HY.out]
    go_upto_region 3 with (go_at_call 43; go_must ((with_reducible refine EN.out.mono ?_); rintro e w3 ⟨rfl, hb3⟩; dsimp only))
    have h3 := (hb3.block _ (lt_of_block HB2.out)).trans HB2.out
    have s0 := blk_cell 0 h3 rfl
    have s1 := blk_cell 1 h3 rfl
    have f0 := blk_free 0 h3
    have f1 := blk_free 1 h3
    have sz := lt_of_block h3
    simp only [List.getElem_toArray, List.getElem_cons_zero, List.getElem_cons_succ] at s0 s1
    clear x0 x1 x2 x3 x4 x5 xz
    have HE := Lib.hid (((HBY.out.trans (hb3.mono HBY.out.size)).setCell (p := ⟨w.heap.size + 1, 0, none⟩) (by simp) (.int .i64 0)).setCell (p := ⟨w.heap.size + 1, 1, none⟩) (by simp) (.int .i64 0))
    have h4 := blk_set 1 (.int .i64 0) (blk_set 0 (.int .i64 0) h3)
    simp only [List.setIfInBounds_toArray, List.set_cons_zero, List.set_cons_succ] at h4
    clear hb3 h3
    go_wp2
    obtain ⟨Z, hZ⟩ : ∃ Z : World, Z = (w3.setCell ⟨w.heap.size + 1, 0, none⟩ (.int .i64 0)).setCell ⟨w.heap.size + 1, 1, none⟩ (.int .i64 0) := ⟨_, rfl⟩
    rw [← hZ] at h4 HE ⊢
    clear hZ s0 s1 f0 f1 sz
    have s0 := blk_cell 0 h4 rfl
    have s1 := blk_cell 1 h4 rfl
    simp only [List.getElem_toArray, List.getElem_cons_zero, List.getElem_cons_succ] at s0 s1
    refine bodyPost_ret (v := .tuple #[.agg #[.int .i64 0, .int .i64 0], .int .i64 8]) ?_ rfl ⟨rfl, HE.out⟩
    rw [results_cell_tmp rfl]
    go_simp
  · rw [if_neg hne]
    have EN := Lib.hid (PEnter_some a1 a2 a3 a4 k1 k2 k3 k4 t 78 #[] Y hmY hv (enters_of Tryz.func78 (by kernel_rfl) rfl) (fun U _ => (PFine_any U).mono fun e w' ⟨h1, h2⟩ => ⟨h1, by rw [h2]; exact Below.refl _ _⟩) hne)
    have FR := Lib.hid (fun (bt : Nat) (W : World) => PFair_any bt W)
    have WI0 := Lib.hid (fun (a b c d : Int) (W : World) => wider_no a b c d W)
    have WI1 := Lib.hid (fun (a b c d : Int) (W : World) => wider_yes a b c d W)
    obtain ⟨q, hq⟩ : ∃ q, q = personsN t := ⟨_, rfl⟩
    rw [← hq]
    have HQ0 := Lib.hid hq
    clear hne hm hmY h1 h2 hbY hq
    refine (callsIn_wide (n := 0)).1 ?_
    refine callsIn_of_wp_marks Tryz.func32 rfl trivial ?_ rfl
    simp only [Tryz.ntmps32, List.size_toArray, List.length_cons, List.length_nil, Nat.reduceAdd, Nat.reduceSub, Array.replicate_succ, Array.replicate_zero, List.push_toArray, List.append_toArray, List.nil_append, List.cons_append]
    refine (wpIn_wide (n := 0)).2 ?_
    go_upto_region 1 with (fail)
    rw [← HY.out]
    go_wp2_with (first
      | (go_at_call 44; go_must ((with_reducible refine (FR.out _ _).mono ?_); rintro e w4 ⟨rfl, rfl⟩; dsimp only))
      | (go_at_call 43; go_must ((with_reducible refine EN.out.mono ?_); rintro e w3 ⟨bt, bc, bk, rfl, ht3, hb3, g1, g2, g3⟩; dsimp only)))
    have hbw3 := HBY.out.trans (hb3.mono HBY.out.size)
    have h3 := (hb3.block _ (lt_of_block HB2.out)).trans HB2.out
    have hlt1 := lt_of_block HB2.out
    have hlo0 := ht3.bt_lt
    have hlo1 := ht3.bc_lt
    have hlo2 := ht3.bk_lt
    have hyz := HBY.out.size
    have hP3 := TwP.of hbw3 ht3 (by omega) (by omega) (by omega)
    have hSE := PFair_seq a1 a2 a3 a4 k1 k2 k3 k4 t bt bc bk 0 (w3.heap.size + 1) hv.ok (by omega)
    obtain ⟨f, hf⟩ : ∃ f : List Int × Nat → Int × Int, f = fun x => ((x.2 : Int), (x.2 : Int)) := ⟨_, rfl⟩
    have HF0 := Lib.hid hf
    have hs0 : q = hullTo ((fairL t 0).map f) := by rw [hf, HQ0.out]; rfl
    have HS0 := Lib.hid hs0
    clear hs0 hf EN x0 x1 x2 x3 x4 x5 xz
    obtain ⟨X, hX⟩ : ∃ X : World, X = (w3.alloc (.cells #[.bool true] 4)).alloc (.cells #[.pointer (some ⟨bt, 0, none⟩)] 100) := ⟨_, rfl⟩
    have hsz : X.heap.size = w3.heap.size + 1 + 1 := by rw [hX]; simp
    have hb0 : Below w3.heap.size w3 X := by rw [hX]; exact ((Below.refl _ w3).alloc (Nat.le_refl _) _).alloc (by simp) _
    have hO0 : PerO X (w.heap.size + 1) w3.heap.size bt (0, 0) true := by
      rw [hX]
      exact ⟨(heap_alloc_old _ _ (by simp; omega)).trans ((heap_alloc_old _ _ (by omega)).trans h3), (heap_alloc_old _ _ (by simp)).trans (alloc_atE _ _ rfl), alloc_atE _ _ (by simp)⟩
    have hrc : (w3.alloc (.cells #[.bool true] 4)).heap.size = w3.heap.size + 1 := by simp
    rw [← hX, hrc]
    clear hX hrc
    refine (wpIn_wide (n := 0)).1 ?_
    refine wpIn_rangeFunc_Y (gf := 93) (lb := #[.pointer (some ⟨w3.heap.size + 1, 0, none⟩)]) (by go_simp) (enters_of Tryz.func93 (by kernel_rfl) rfl) hSE (Nat.le_refl X.heap.size)
      (fun A A' h => h.1.above (by omega) (by omega)) (fun _ => rfl)
      (fun pre A => TwP w A bt bc bk a1 a2 a3 a4 k1 k2 k3 k4 t ∧ PerO A (w.heap.size + 1) w3.heap.size bt (hullTo (pre.map f)) (pre.map f).isEmpty)
      (fun c pre A => False)
      (fun s A A' h ⟨hb, _⟩ => ⟨h.1.belowB hb (by omega) (by omega) (by omega) (by omega), h.2.below hb (by omega) (by omega)⟩)
      (fun c s A A' h hb => h.elim)
      (fun s A A' h hR => ⟨h.1.step hR.1 hR.2, h.2.lrn hR.1 (by omega) (by omega) (by omega) (by omega)⟩)
      (fun s A h => ⟨h.1.town HM.out, h.2.fc⟩)
      ⟨hP3.belowB hb0 (by omega) (by omega) (by omega) (by omega), hO0⟩ ?round ?done ?stop
    case stop =>
      intro D c pre V hD hI hK
      exact hI.elim
    case round =>
      intro l pre x V hl1 hl2 hI hpre
      have HH : Hid (hullTo ((pre ++ [x]).map f) = if (pre.map f).isEmpty = true then ((x.2 : Int), (x.2 : Int)) else (min (hullTo (pre.map f)).1 x.2, max (hullTo (pre.map f)).2 x.2)) := Lib.hid (by rw [List.map_append, List.map_singleton, hull_snoc, HF0.out])
      have HNE1 : Hid ((pre ++ [x]).isEmpty = false) := Lib.hid (by simp)
      obtain ⟨xp, xm⟩ := x
      simp only at HH
      simp only [encP, psV]
      generalize hullTo (pre.map f) = s at *
      generalize (pre.map f).isEmpty = fi at *
      obtain ⟨sl, sh⟩ := s
      have HI := Lib.hid hI
      clear hI
      gi_wp2
      refine ⟨Above.refl _ _, HI.out, ?_⟩
      intro Wb hs2 hblk hG1 hO1
      clear hs2 hblk
      have s0 := blk_cell 0 hO1.fs rfl
      have s1 := blk_cell 1 hO1.fs rfl
      have sz := lt_of_block hO1.fs
      have b0 := blk_cell 0 hO1.ff rfl
      have bz := lt_of_block hO1.ff
      simp only [List.getElem_toArray, List.getElem_cons_zero, List.getElem_cons_succ] at s0 s1 b0
      have HO1 := Lib.hid hO1
      have HG1 := Lib.hid hG1
      clear hO1 hG1
      cases fi
      all_goals
        simp only [Bool.false_eq_true, if_false, if_true] at HH
        gi_wp2
        refine ⟨trivial, rfl, ((CallsIn.inRound l (callsIn_wide.2 (by first | with_reducible exact WI0.out _ _ _ _ Wb | with_reducible exact WI1.out _ _ _ _ Wb))).mono ?_)⟩
        rintro e w5 ⟨rfl, hb5⟩
        have hz5 := hb5.size
        have hX5 : X.heap.size ≤ Wb.heap.size := by have := lt_of_block HO1.out.fc; omega
        have hO5 := HO1.out.below hb5 (by omega) (lt_of_block HO1.out.fc)
        have hG5 := HG1.out.belowB hb5 (by omega) (by omega) (by omega) (by omega)
        clear s0 s1 sz b0 bz
        have s0 := blk_cell 0 hO5.fs rfl
        have s1 := blk_cell 1 hO5.fs rfl
        have sz := lt_of_block hO5.fs
        have b0 := blk_cell 0 hO5.ff rfl
        have bz := lt_of_block hO5.ff
        have f0 := blk_free 0 hO5.fs
        have f1 := blk_free 1 hO5.fs
        have f2 := blk_free 0 hO5.ff
        simp only [List.getElem_toArray, List.getElem_cons_zero, List.getElem_cons_succ] at s0 s1 b0
        have HA5 := Lib.hid (Above.of_below (B := X.heap.size) hb5)
        have HN := Lib.hid (hO5.sets (by omega) (hullTo ((pre ++ [(xp, xm)]).map f)) false)
        rw [HH.out] at HN
        have HO5 := Lib.hid hO5
        have HG5 := Lib.hid hG5
        clear hO5 hG5 hb5
        gi_wp2
        exact ⟨by rw [← hsz]; exact ((HA5.out.trans (Above.of_set _ _ _ _ _ (by omega))).trans (Above.of_set _ _ _ _ _ (by omega))).trans (Above.of_set _ _ _ _ _ (by omega)), ((HG5.out.set _ _ _ (by omega) (by omega) (by omega) (by omega)).set _ _ _ (by omega) (by omega) (by omega) (by omega)).set _ _ _ (by omega) (by omega) (by omega) (by omega), by rw [HH.out, HNE1.out]; exact HN.out⟩
    case done =>
      intro D V hD hI hK
      obtain ⟨hG1, hO1⟩ := hI
      rw [← HS0.out] at hO1
      have s0 := blk_cell 0 hO1.fs rfl
      have s1 := blk_cell 1 hO1.fs rfl
      have sz := lt_of_block hO1.fs
      have f0 := blk_free 0 hO1.fs
      have f1 := blk_free 1 hO1.fs
      simp only [List.getElem_toArray, List.getElem_cons_zero, List.getElem_cons_succ] at s0 s1
      have h4 := blk_set 1 (.int .i64 q.2) (blk_set 0 (.int .i64 q.1) hO1.fs)
      simp only [List.setIfInBounds_toArray, List.set_cons_zero, List.set_cons_succ] at h4
      obtain ⟨Z, hZ⟩ : ∃ Z : World, Z = (V.setCell ⟨w.heap.size + 1, 0, none⟩ (.int .i64 q.1)).setCell ⟨w.heap.size + 1, 1, none⟩ (.int .i64 q.2) := ⟨_, rfl⟩
      have HZ := Lib.hid hZ
      have hKs : Z.heap[D]? = some (.deferred (some [])) := by rw [hZ, setP_other (by omega), setP_other (by omega)]; exact hK
      have hBZ : Below w.heap.size w Z := by rw [hZ]; exact (hG1.below.setCell (by simp) _).setCell (by simp) _
      have hE : Below w.heap.size w (Z.putObj D (.deferred none)) := hBZ.trans (below_putP _ _ _ _ (by omega))
      rw [← hZ] at h4
      have h5 := (show (Z.putObj D (.deferred none)).heap[w.heap.size + 1]? = _ from World.putObj_heap_other (by omega)).trans h4
      clear hZ hO1 hG1 h4 hBZ
      go_wp2
      rw [← HZ.out]
      refine ⟨by simp, .inl ⟨_, _, rfl, run_takeDeferred hKs, ?_⟩⟩
      clear s0 s1 f0 f1 sz
      have s0 := blk_cell 0 h5 rfl
      have s1 := blk_cell 1 h5 rfl
      simp only [List.getElem_toArray, List.getElem_cons_zero, List.getElem_cons_succ] at s0 s1
      refine ⟨.tuple #[.agg #[.int .i64 q.1, .int .i64 q.2], .int .i64 0], ?_, rfl, hE⟩
      rw [results_cell_tmp rfl]
      go_simp
end Go.Proofs.YtklconegomgjaaaGreat
namespace Go.Proofs.YtklconegomgjaaaGreat
open Go Go.RowKit
section
variable {α : Type} {f : α → List Value} {n : Nat}
def flatC (f : α → List Value) (l : List α) : List Value := l.flatMap f
theorem flatC_len (hf : ∀ x, (f x).length = n) (l : List α) : (flatC f l).length = l.length * n := by
  induction l with
  | nil => simp [flatC]
  | cons x l ih =>
    show (f x ++ flatC f l).length = _
    rw [List.length_append, ih, hf, List.length_cons, Nat.succ_mul]
    omega
theorem flatC_get (hf : ∀ x, (f x).length = n) (l : List α) (i : Nat) (h : i < l.length) (r : Nat) (hr : r < n) : (flatC f l)[i * n + r]? = (f l[i])[r]? := by
  induction l generalizing i with
  | nil => simp at h
  | cons x l ih =>
    show (f x ++ flatC f l)[i * n + r]? = _
    cases i with
    | zero =>
      rw [Nat.zero_mul, Nat.zero_add, List.getElem?_append_left (by rw [hf]; exact hr)]
      rfl
    | succ i =>
      have := ih i (by simpa using h)
      rw [List.getElem?_append_right (by rw [hf, Nat.succ_mul]; omega), hf, show (i + 1) * n + r - n = i * n + r from by rw [Nat.succ_mul]; omega, this]
      rfl
theorem flatC_snoc (l : List α) (x : α) : flatC f l ++ f x = flatC f (l ++ [x]) := by
  unfold flatC
  rw [List.flatMap_append]
  simp
/-- The elements lie at a, one behind the other. -/
def FlatAt (f : α → List Value) (n : Nat) (w : World) (a : Option Addr) (l : List α) : Prop :=
  ∀ i (_ : i < l.length), ∃ b off, a = some ⟨b, off, none⟩ ∧ b < w.heap.size ∧ ∀ r u, r < n → (f l[i])[r]? = some u → w.cell? ⟨b, off + i * n + r, none⟩ = some u
theorem SrcAt.flat {w : World} {a : Option Addr} {l : List α} {c : Nat} (hf : ∀ x, (f x).length = n) (hn0 : 0 < n) (h1 : ∀ x, ∀ u ∈ f x, u.oneCell' = true) (hn : a = none → c = 0) (h : FlatAt f n w a l) : SrcAt w (.slice a l.length c) l.length n (flatC f l) := by
  refine ⟨flatC_len hf l, fun u hu => ?_, ?_⟩
  · obtain ⟨x, _, hx⟩ := List.mem_flatMap.1 hu
    exact h1 x u hx
  · cases a with
    | none =>
      have : l.length = 0 := by
        by_cases h0 : 0 < l.length
        · obtain ⟨b, off, e, _⟩ := h 0 h0
          cases e
        · omega
      left
      rw [hn rfl, this]
      exact ⟨rfl, rfl⟩
    | some ad =>
      refine .inr ⟨ad, c, rfl, fun j u hj => ?_⟩
      have hlt : j < l.length * n := by
        have := (List.getElem?_eq_some_iff.1 hj).1
        rw [flatC_len hf] at this
        exact this
      obtain ⟨i, r, hr, rfl⟩ : ∃ i r, r < n ∧ j = i * n + r := ⟨j / n, j % n, Nat.mod_lt _ hn0, by rw [Nat.mul_comm]; exact (Nat.div_add_mod j n).symm⟩
      have hi : i < l.length := by
        refine Classical.byContradiction fun hni => ?_
        have := Nat.mul_le_mul_right n (Nat.le_of_not_lt hni)
        omega
      rw [flatC_get hf l i hi r hr] at hj
      obtain ⟨b, off, e, _, hc⟩ := h i hi
      cases e
      rw [Addr.add_lit, ← Nat.add_assoc]
      exact hc r u hr hj
theorem flat_own {w : World} {base : Nat} {e : TypeId} {v : Value} {k : Nat} {l : List α} (hf : ∀ x, (f x).length = n) (hn0 : 0 < n) (h : w.ownsRow base e n v k (flatC f l)) :
    k = l.length ∧ ∃ a c, v = .slice a l.length c ∧ SlOk a l.length c ∧ FlatAt f n w a l := by
  have hl := h.1
  rw [flatC_len hf] at hl
  have hk : k = l.length := (Nat.eq_of_mul_eq_mul_right hn0 hl).symm
  subst hk
  refine ⟨rfl, ?_⟩
  have hm : maxLen = 9223372036854775807 := rfl
  rcases h.2 with ⟨rfl, h0⟩ | ⟨g, cap, cur, rfl, _, hg, h3, h4, h5, h6⟩
  · exact ⟨none, 0, by rw [h0], ⟨by omega, by omega, fun _ => rfl⟩, fun i hi => by omega⟩
  · refine ⟨_, _, rfl, ⟨h3, by omega, fun h => by cases h⟩, fun i hi => ⟨g, 0, rfl, (Array.getElem?_eq_some_iff.1 hg).1, fun r u hr hu => ?_⟩⟩
    have := h.cells (g := g) rfl (i * n + r) u (by rw [flatC_get hf l i hi r hr]; exact hu)
    rw [Addr.add_lit] at this
    rw [Nat.add_assoc]; exact this
end
theorem made_row (W : World) (e : TypeId) (n : Nat) : (W.alloc (.cells #[] e)).ownsRow W.heap.size e n (.slice (some ⟨W.heap.size, 0, none⟩) 0 0) 0 [] :=
  World.ownsRow_made (base := W.heap.size) (e := e) (size := n) W #[] 0 (Nat.le_refl _) (by decide) (by simp)
end Go.Proofs.YtklconegomgjaaaGreat
namespace Go.Proofs.YtklconegomgjaaaGreat
open Go Go.RowKit
theorem run_app {P : Program} {w : World} {t e ty : TypeId} {z : Value} {size bytes : Nat} (hE : ElemInfo P t e z size bytes) {v y : Value} (base n m : Nat) (xs news : List Value) (hown : w.ownsRow base e size v n xs) (hsrc : SrcAt w y m size news)
    (hnm : n + m ≤ 1000000) (hbt : bytes ≤ 1000000) (hbase : base ≤ w.heap.size) :
    ∃ v' w', (Builtin.append_ #[t, t] ty #[v, y]).run P w = .ok v' w' ∧ w'.ownsRow base e size v' (n + m) (xs ++ news) ∧ w.grownBy w' v.ownBlock ∧ (v'.ownBlock = v.ownBlock ∨ v'.ownBlock = some w.heap.size) := by
  obtain ⟨i, hi, hz, hsz, hby⟩ := info_parts hE.info
  obtain ⟨h1, h2, h3⟩ := hsrc
  rcases h3 with ⟨rfl, rfl⟩ | ⟨ad, c, rfl, hc⟩
  · have hn : news = [] := List.eq_nil_of_length_eq_zero (by simpa using h1)
    subst hn
    have hrun := run_append_owned_none (P := P) (w := w) base t ty e i size hE.und hi v n xs hown
    exact ⟨v, w, hrun, by simpa using hown, ⟨rfl, rfl, rfl, Nat.le_refl _, fun _ _ _ => rfl⟩, .inl rfl⟩
  · have hm : maxLen = 9223372036854775807 := rfl
    have hb : (n + m) * bytes ≤ 1000000 * 1000000 := Nat.mul_le_mul hnm hbt
    obtain ⟨v', w', hr, k2, k3, _, k5⟩ := run_append_own_at (P := P) w base t ty e i z size bytes hE.und hi hz hsz hby hE.zsz hE.pos v n xs hown ad m c news h1 hc h2 (by omega) (by omega) hbase
    exact ⟨v', w', hr, k2, k3, k5⟩
theorem step_app {P : Program} {w : World} {ops : Array Oper} {o : Oper} {a : Act} {K : Act → World → Prop} {Q : Exit → Act → World → Prop} {E : Prop} (s x : Operand) {t e : TypeId} {z : Value} {size bytes : Nat}
    (hE : ElemInfo P t e z size bytes) (hgd : o.guard = none) (ho : o.op = .call { callee := .builtin .append, args := #[s, x], argTypes := #[t, t] })
    {v y : Value} (hs : a.eval s = v) (hx : a.eval x = y)
    (base n m : Nat) (xs news : List Value) (hown : w.ownsRow base e size v n xs) (hsrc : SrcAt w y m size news)
    (hnm : n + m ≤ 1000000) (hbt : bytes ≤ 1000000) (hbase : base ≤ w.heap.size)
    (h : ∀ v' w', w'.ownsRow base e size v' (n + m) (xs ++ news) → w.grownBy w' v.ownBlock → (v'.ownBlock = v.ownBlock ∨ v'.ownBlock = some w.heap.size) → K (a.put o.dst v') w') :
    if Region.wanted o (yielded ops a.tmps) = true then Oper.wp P o a w K Q else E := by
  have hw : Region.wanted o (yielded ops a.tmps) = true := by simp [Region.wanted, hgd]
  rw [if_pos hw]
  obtain ⟨v', w', hr, h2, h3, h4⟩ := run_app (P := P) (w := w) (t := t) (ty := o.type) hE base n m xs news hown hsrc hnm hbt hbase
  unfold Oper.wp execOp
  simp only [ho, resolve, invoke, builtin, Sem.run_bind, Sem.run_pure, Result.andThen_ok, List.map_toArray, List.map_cons, List.map_nil, hs, hx, hr]
  exact h v' w' h2 h3 h4
theorem made_row2 {B : Nat} {W : World} (h : B ≤ W.heap.size) (e : TypeId) (n : Nat) : (W.alloc (.cells #[] e)).ownsRow B e n (.slice (some ⟨W.heap.size, 0, none⟩) 0 0) 0 [] :=
  World.ownsRow_made (base := B) (e := e) (size := n) W #[] 0 h (by decide) (by simp)
theorem app_grown {X W V : World} {e : TypeId} {size n : Nat} {v : Value} {xs : List Value} (h : Below X.heap.size X W) (ho : W.ownsRow X.heap.size e size v n xs) (hg : W.grownBy V v.ownBlock) : Below X.heap.size X V :=
  h.grown hg h.size (fun k e => (ho.lt k e).1)
theorem src_grown {W V : World} {b c m n : Nat} {row : Option Nat} {news : List Value} (h : SrcAt W (.slice (some ⟨b, 0, none⟩) m c) m n news) (hg : W.grownBy V row) (hne : some b ≠ row) : SrcAt V (.slice (some ⟨b, 0, none⟩) m c) m n news := by
  obtain ⟨h1, h2, h3⟩ := h
  refine ⟨h1, h2, ?_⟩
  rcases h3 with ⟨h3, h4⟩ | ⟨ad, c', h3, h4⟩
  · cases h3
  · cases h3
    refine .inr ⟨_, _, rfl, fun j u hj => ?_⟩
    have := h4 j u hj
    rw [Addr.add_lit] at this ⊢
    exact hg.cell this hne
theorem s3_keep {U : World} {b : Nat} {v0 v1 v2 : Value} {t : TypeId} (h : U.heap[b]? = some (.cells #[v0, v1, v2] t (0, 0))) : U.cell? ⟨b, 0, none⟩ = some v0 ∧ U.cell? ⟨b, 1, none⟩ = some v1 ∧ U.cell? ⟨b, 2, none⟩ = some v2 ∧ b < U.heap.size :=
  ⟨blk_cell 0 h rfl, blk_cell 1 h rfl, blk_cell 2 h rfl, lt_of_block h⟩
end Go.Proofs.YtklconegomgjaaaGreat
namespace Go.Proofs.YtklconegomgjaaaGreat
open Go Go.RowKit
section
variable {P : Program} {ops : Array Oper} {Q : Exit → Act → World → Prop} {md : Region.Mode} {S : World → Prop} {z : Nat}
/-- Whatever comes up next; S holds behind it, unless it is z. -/
def wpZ (P : Program) (md : Region.Mode) (ops : Array Oper) (Q : Exit → Act → World → Prop) (S : World → Prop) (z : Nat) : Nat → Array Bool → Act → World → Prop
  | 0, listed, a, w => Region.ready md ops listed = [] ∧ Q .normal a w
  | g + 1, listed, a, w => (Region.ready md ops listed = [] → Q .normal a w) ∧ ∀ i ∈ Region.ready md ops listed, wpOp P ops Q i (fun b v => (i ≠ z → S v) ∧ wpZ P md ops Q S z g (listed.setIfInBounds i true) b v) a w
theorem wpZ_any : ∀ (g : Nat) (listed : Array Bool) (a : Act) (w : World), wpZ P md ops Q S z g listed a w → wpAny P md ops Q g listed a w
  | 0, _, _, _, h => h
  | g + 1, _, _, _, h => ⟨h.1, fun i hi => wpOp_mono (fun b v k => wpZ_any g _ b v k.2) (h.2 i hi)⟩
theorem listed_getD {listed : Array Bool} {i : Nat} (h0 : listed.getD i true = false) (h1 : listed.getD i false = true) : False := by
  rcases Nat.lt_or_ge i listed.size with h | h
  · simp [h] at h0 h1
    rw [h0] at h1; cases h1
  · simp [Array.getElem?_eq_none h] at h1
/-- What z waits for and has not come up keeps z from coming up. -/
theorem z_waits {listed : Array Bool} {i : Nat} (hw : Region.waitsFor md ops z i = true) (hi : i ∈ Region.ready md ops listed) : ∀ j ∈ Region.ready md ops listed, j ≠ z := by
  rintro j hj rfl
  obtain ⟨oz, hoz, e, he, hb, rfl⟩ := Region.waitsFor_spec hw
  obtain ⟨_, oj, hoj, hall⟩ := mem_ready.1 hj
  rw [hoz] at hoj
  cases hoj
  exact listed_getD (mem_ready.1 hi).1 (hall e he hb)
theorem wpZ_first {i : Nat} {oi : Oper} {v : Value} (hi : ops[i]? = some oi) (hsel : ∀ (j : Nat) (o : Oper) cs b, ops[j]? = some o → o.op ≠ .select cs b)
    (hQ : ∀ c a w, Q (.panic c) (a.put oi.dst v) w → Q (.panic c) a w) (hw : Region.waitsFor md ops z i = true) :
    ∀ (g : Nat) (listed : Array Bool) (a : Act) (w : World),
      (∀ j oj, ops[j]? = some oj → j ≠ i → listed.getD j true = false → (∀ e ∈ oj.after, Region.binds md e = true → e.on ≠ i) → oi.apart ops oj = true) →
      i ∈ Region.ready md ops listed → YieldsIf P ops S oi v a → S w →
      wpZ P md ops Q S z g (listed.setIfInBounds i true) (a.put oi.dst v) w → wpZ P md ops Q S z (g + 1) listed a w
  | 0, listed, a, w, _, hr, hy, hS, H => ⟨fun h => by rw [h] at hr; exact absurd hr (by simp), fun j hj => by
      by_cases e : j = i
      · subst e
        exact hy.wpOp hi hS ⟨fun _ => hS, H⟩
      · have k := ready_mono hj e
        rw [H.1] at k
        exact absurd k (by simp)⟩
  | g + 1, listed, a, w, hfree, hr, hy, hS, H => ⟨fun h => by rw [h] at hr; exact absurd hr (by simp), fun j hj => by
      by_cases e : j = i
      · subst e
        exact hy.wpOp hi hS ⟨fun _ => hS, H⟩
      · have hjz := z_waits hw hr j hj
        obtain ⟨hjun, oj, hoj, hall⟩ := mem_ready.1 hj
        have hnot : ∀ e ∈ oj.after, Region.binds md e = true → e.on ≠ i := fun e he hb heq => listed_getD (mem_ready.1 hr).1 (by rw [← heq]; exact hall e he hb)
        have k := wpOp_putIf hoj (hfree j oj hoj e hjun hnot) (fun cs b => hsel i oi cs b hi) (fun cs b => hsel j oj cs b hoj) hQ hy (H.2 j (ready_mono hj e))
        refine wpOp_mono (fun b v k2 => ⟨k2.2.1, wpZ_first hi hsel hQ hw g (listed.setIfInBounds j true) b v (fun q oq hq hqi hun hno => hfree q oq hq hqi ?_ hno) (ready_mono hr (Ne.symm e)) k2.1 (k2.2.1 hjz) ?_⟩) k
        · by_cases hjq : j = q
          · subst hjq; exact hjun
          · rwa [getD_set_ne true hjq] at hun
        · rw [Array.setIfInBounds_comm _ _ e]
          exact k2.2.2⟩
theorem wpZ_take {i : Nat} {oi : Oper} {v : Value} {g : Nat} {listed : Array Bool} {a : Act} {w : World} (hi : ops[i]? = some oi)
    (hs : Region.noSelect ops = true) (hf : Region.free md ops listed i = true) (hr : (Region.ready md ops listed).contains i = true) (hw : Region.waitsFor md ops z i = true)
    (hQ : ∀ c a w, Q (.panic c) (a.put oi.dst v) w → Q (.panic c) a w) (hy : YieldsIf P ops S oi v a) (hS : S w)
    (h : wpZ P md ops Q S z g (listed.setIfInBounds i true) (a.put oi.dst v) w) : wpZ P md ops Q S z (g + 1) listed a w :=
  wpZ_first hi (Region.noSelect_spec hs) hQ hw g listed a w (Region.free_spec hi hf) (by simpa using hr) hy hS h
theorem tkZ (i : Nat) {oi : Oper} {v : Value} {g : Nat} {listed : Array Bool} {a : Act} {w : World} (h : wpZ P md ops Q S z g (listed.setIfInBounds i true) (a.put oi.dst v) w) (hi : ops[i]? = some oi := by rfl) (hb : (Region.noSelect ops && Region.free md ops listed i && (Region.ready md ops listed).contains i && Region.waitsFor md ops z i && Region.wanted oi (yielded ops a.tmps)) = true := by kernel_rfl)
    (hQ : ∀ c a w, Q (.panic c) (a.put oi.dst v) w → Q (.panic c) a w := by exact fun _ _ _ h => h) (hy : ∀ w, S w → (execOp a.eval oi).run P w = .ok (.value v) w := by (intro w h; (try dsimp only at h); go_simp; first | done | with_reducible rfl)) (hS : S w := by assumption) : wpZ P md ops Q S z (g + 1) listed a w := by
  simp only [Bool.and_eq_true] at hb
  exact wpZ_take hi hb.1.1.1.1 hb.1.1.1.2 hb.1.1.2 hb.1.2 hQ (.inl ⟨hb.2, hy⟩) hS h
/-- Each of rs comes up next. -/
def AllZ (P : Program) (md : Region.Mode) (ops : Array Oper) (Q : Exit → Act → World → Prop) (S : World → Prop) (z : Nat) (g : Nat) (listed : Array Bool) (a : Act) (w : World) (rs : List Nat) : Prop :=
  ∀ i ∈ rs, wpOp P ops Q i (fun b v => (i ≠ z → S v) ∧ wpZ P md ops Q S z g (listed.setIfInBounds i true) b v) a w
theorem AllZ.nil {g : Nat} {listed : Array Bool} {a : Act} {w : World} : AllZ P md ops Q S z g listed a w [] := fun i h => absurd h (by simp)
theorem AllZ.cons {g : Nat} {listed : Array Bool} {a : Act} {w : World} {i : Nat} {o : Oper} {rs : List Nat} (ho : ops[i]? = some o)
    (h : ∀ K' : Act → World → Prop, Shut (∀ b v, (i ≠ z → S v) → wpZ P md ops Q S z g (listed.setIfInBounds i true) b v → K' b v) → if Region.wanted o (yielded ops a.tmps) = true then Oper.wp P o a w K' Q else K' (a.put o.dst undef) w)
    (hs : AllZ P md ops Q S z g listed a w rs) : AllZ P md ops Q S z g listed a w (i :: rs) := fun j hj => by
  rcases List.mem_cons.1 hj with rfl | hj
  · exact wpOp_step ho fun K' hK => h K' fun b v h1 h2 => hK b v ⟨h1, h2⟩
  · exact hs j hj
theorem wpZ_ready {rs : List Nat} {g : Nat} {listed : Array Bool} {a : Act} {w : World} (hr : Region.ready md ops listed = rs) (hne : rs ≠ []) (h : AllZ P md ops Q S z g listed a w rs) : wpZ P md ops Q S z (g + 1) listed a w :=
  ⟨fun h0 => absurd (hr ▸ h0) hne, hr ▸ h⟩
theorem wpZ_done {listed : Array Bool} {a : Act} {w : World} (hr : Region.ready md ops listed = []) (h : Q .normal a w) : ∀ g, wpZ P md ops Q S z g listed a w
  | 0 => ⟨hr, h⟩
  | _ + 1 => ⟨fun _ => h, by rw [hr]; simp⟩
theorem wp_region_z {id : Nat} {a : Act} {w : World} (S : World → Prop) (z : Nat) (hm : P.follows .mixedOrders = true) (hS : S w.drew) (h : S w.drew → wpZ P .any ops Q S z ops.size (Array.replicate ops.size false) a w.drew) : (Code.region id ops true).wp P Q a w :=
  wp_region_any hm (wpZ_any _ _ _ _ (h hS))
end
theorem cell_same {W W' : World} {b o : Nat} {v : Value} (hh : W'.heap[b]? = W.heap[b]?) (h : W.cell? ⟨b, o, none⟩ = some v) : W'.cell? ⟨b, o, none⟩ = some v := (World.cell?_of_block (a := ⟨b, o, none⟩) hh).trans h
theorem s5_keep {U : World} {b : Nat} {v0 v1 v2 v3 v4 : Value} {t : TypeId} (h : U.heap[b]? = some (.cells #[v0, v1, v2, v3, v4] t (0, 0))) : U.cell? ⟨b, 0, none⟩ = some v0 ∧ U.cell? ⟨b, 1, none⟩ = some v1 ∧ U.cell? ⟨b, 2, none⟩ = some v2 ∧ U.cell? ⟨b, 3, none⟩ = some v3 ∧ U.cell? ⟨b, 4, none⟩ = some v4 ∧ b < U.heap.size :=
  ⟨blk_cell 0 h rfl, blk_cell 1 h rfl, blk_cell 2 h rfl, blk_cell 3 h rfl, blk_cell 4 h rfl, lt_of_block h⟩
end Go.Proofs.YtklconegomgjaaaGreat
