/- What is proved here: the contract of Born of layer 3. Conditions: the town is valid; one of its mentions. -/
import Derived.Test.YtklconegomgjaaaGreatEndGG
import Derived.Test.YtklconegomgjaaaGreatPeYears
set_option linter.unusedVariables false
set_option linter.unusedSimpArgs false
namespace Go.Proofs.YtklconegomgjaaaGreat
open Go Go.RowKit Go.Shelf
attribute [local go_sem] Oper.semAt_some

theorem wpIn_region_roundZ {P : Program} {Q : Exit → Act → World → Prop} {l : Nat} {id : Nat} {ops : Array Oper} {a : Act} {w : World} (S' : World → Prop) (z : Nat) (hL : ¬ LetsOut Q) (hm : P.follows .mixedOrders = true) (hd : ∀ o ∈ ops.toList, ∀ c, o.op ≠ .defer c) (hS : S' w.drew)
    (h : S' w.drew → wpZ P .any ops Q S' z ops.size (Array.replicate ops.size false) a w.drew) : (Code.region id ops true).wpIn (Fence.wide.inRound l) 0 P Q a w :=
  wpIn_region_any hm (wpAnyIn_of_wpAny hL hd _ _ _ _ (wpZ_any _ _ _ _ (h hS)))
theorem truthsF_years {t : PeW} : ∀ (k : Nat) (pre : List Int) (many : Nat) (x : List Int × Nat), x ∈ truthsF t k pre many → (yearsN t x.1).isSome = true
  | 0, pre, many, x, hx => by
    rw [truthsF] at hx
    split at hx
    · next h =>
      have : x = (pre, many) := by simpa using hx
      subst this
      rw [Bool.and_eq_true] at h
      exact h.1
    · cases hx
  | k + 1, pre, many, x, hx => by
    rw [truthsF, List.mem_flatMap] at hx
    obtain ⟨n, _, hx⟩ := hx
    split at hx
    · exact truthsF_years k _ _ x hx
    · cases hx
set_option maxRecDepth 100000 in
set_option maxHeartbeats 1000000 in
theorem PBorn1_any (a1 a2 a3 a4 : Option Addr) (k1 k2 k3 k4 : Nat) (t : PeW) (p0 p1 m : Nat) (w : World) (hm : m < t.ments.length) (hn : t.ments.length ≤ 6) (h0 : w.cell? ⟨p0, 4, none⟩ = some (.slice a3 t.ments.length k3)) (h1 : w.cell? ⟨p1, 0, none⟩ = some (.int .i64 (m : Int))) :
    Calls Tryz.prog 80 #[.pointer (some ⟨p0, 0, none⟩), .pointer (some ⟨p1, 0, none⟩)] w fun e w' => e = .returned (.int .i64 0) ∧ Below w.heap.size w w' := by
  have B4 := Lib.hid (fun x V h => POffOk (m : Int) 0 ((t.ments.length : Int) - 1) ⟨by omega, by omega⟩ x V h)
  have z0 := lt_of_cell h0
  have z1 := lt_of_cell h1
  clear hm
  go_enter Tryz.func80, Tryz.ntmps80
  go_wp2_with (go_at_call 81; go_must ((with_reducible refine (B4.out _ _ ?_).mono ?_); (simp); rintro e w3 ⟨rfl, hb3⟩; have hB3 := ((Below.refl _ w).alloc (Nat.le_refl _) (.cells #[.int .i64 (m : Int)] 3)).trans (hb3.mono (by simp)); dsimp only))
  go_ret
  exact ⟨rfl, hB3⟩
/-- What Born keeps. -/
structure BorO (A : World) (w0 b0 bt m : Nat) (s : Int × Int) (first : Bool) : Prop where
  fm : A.heap[w0 + 1]? = some (.cells #[.int .i64 (m : Int)] 3 (0, 0))
  fs : A.heap[w0 + 1 + 1]? = some (.cells #[.int .i64 s.1, .int .i64 s.2] 36 (0, 0))
  ft : A.heap[b0]? = some (.cells #[.pointer (some ⟨bt, 0, none⟩)] 100 (0, 0))
  ff : A.heap[b0 + 1]? = some (.cells #[.bool first] 4 (0, 0))
  fc : A.heap[b0 + 1 + 1]? = some (.cells #[.pointer (some ⟨bt, 0, none⟩)] 100 (0, 0))
section
variable {A A' : World} {w0 b0 bt bc bk m B : Nat} {s : Int × Int} {f : Bool}
theorem BorO.below (h : BorO A w0 b0 bt m s f) (hb : Below B A A') (h1 : w0 + 1 + 1 < b0) (h2 : b0 + 1 + 1 < B) : BorO A' w0 b0 bt m s f := ⟨(hb.block _ (by omega)).trans h.fm, (hb.block _ (by omega)).trans h.fs, (hb.block _ (by omega)).trans h.ft, (hb.block _ (by omega)).trans h.ff, (hb.block _ (by omega)).trans h.fc⟩
theorem BorO.lrn (h : BorO A w0 b0 bt m s f) (hb : Lrn bc bk A A') (h1 : bc < b0) (h2 : bk < b0) (h3 : w0 + 1 + 1 < bc) (h4 : w0 + 1 + 1 < bk) : BorO A' w0 b0 bt m s f := ⟨hb.cellsN h.fm (by omega) (by omega), hb.cellsN h.fs (by omega) (by omega), hb.cellsN h.ft (by omega) (by omega), hb.cellsN h.ff (by omega) (by omega), hb.cellsN h.fc (by omega) (by omega)⟩
theorem BorO.sets (h : BorO A w0 b0 bt m s f) (h1 : w0 + 1 + 1 < b0) (x : Int × Int) : BorO ((A.setCell ⟨w0 + 1 + 1, 0, none⟩ (.int .i64 x.1)).setCell ⟨w0 + 1 + 1, 1, none⟩ (.int .i64 x.2)) w0 b0 bt m x f := by
  refine ⟨?_, blk_set 1 _ (blk_set 0 _ h.fs), ?_, ?_, ?_⟩
  · rw [setP_other (by omega), setP_other (by omega)]; exact h.fm
  · rw [setP_other (by omega), setP_other (by omega)]; exact h.ft
  · rw [setP_other (by omega), setP_other (by omega)]; exact h.ff
  · rw [setP_other (by omega), setP_other (by omega)]; exact h.fc
theorem BorO.setf (h : BorO A w0 b0 bt m s f) (h1 : w0 + 1 + 1 < b0) (g : Bool) : BorO (A.setCell ⟨b0 + 1, 0, none⟩ (.bool g)) w0 b0 bt m s g := by
  refine ⟨?_, ?_, ?_, blk_set 0 _ h.ff, ?_⟩
  · rw [setP_other (by omega)]; exact h.fm
  · rw [setP_other (by omega)]; exact h.fs
  · rw [setP_other (by omega)]; exact h.ft
  · rw [setP_other (by omega)]; exact h.fc
end
set_option maxRecDepth 100000 in
set_option maxHeartbeats 4000000 in
theorem PBorn_any (a1 a2 a3 a4 : Option Addr) (k1 k2 k3 k4 : Nat) (t : PeW) (m : Nat) (w : World) (hm : TownC w a1 a2 a3 a4 k1 k2 k3 k4 t) (hv : PeValid t) (hmm : m < t.ments.length) :
    Calls Tryz.prog 33 #[(.agg #[.int .i64 t.ear.sounds, .slice a1 t.ear.alphas.length k1, .slice a2 t.ear.spells.length k2, .int .i64 t.vills, .slice a3 t.ments.length k3, .slice a4 t.ties.length k4]), .int .i64 (m : Int)] w fun e w' => e = .returned (if fairL t 0 = [] then .tuple #[.agg #[.int .i64 0, .int .i64 0], .int .i64 8] else .tuple #[.agg #[.int .i64 (bornN t m).1, .int .i64 (bornN t m).2], .int .i64 0]) ∧ Below w.heap.size w w' := by
  have hnm := hv.nm
  obtain ⟨Y, hY⟩ : ∃ Y : World, Y = ((w.alloc (.cells #[.int .i64 t.ear.sounds, .slice a1 t.ear.alphas.length k1, .slice a2 t.ear.spells.length k2, .int .i64 t.vills, .slice a3 t.ments.length k3, .slice a4 t.ties.length k4] 29)).alloc (.cells #[.int .i64 (m : Int)] 3)).alloc (.cells #[.int .i64 0, .int .i64 0] 36) := ⟨_, rfl⟩
  have hbY : Below w.heap.size w Y := by rw [hY]; exact (((Below.refl _ _).alloc (Nat.le_refl _) _).alloc (by simp) _).alloc (by simp; omega) _
  have h1 : Y.heap[w.heap.size]? = some (.cells #[.int .i64 t.ear.sounds, .slice a1 t.ear.alphas.length k1, .slice a2 t.ear.spells.length k2, .int .i64 t.vills, .slice a3 t.ments.length k3, .slice a4 t.ties.length k4] 29 (0, 0)) := by rw [hY]; exact (heap_alloc_old _ _ (by simp; omega)).trans ((heap_alloc_old _ _ (by simp)).trans (alloc_atE _ _ rfl))
  have h2 : Y.heap[w.heap.size + 1]? = some (.cells #[.int .i64 (m : Int)] 3 (0, 0)) := by rw [hY]; exact (heap_alloc_old _ _ (by simp)).trans (alloc_atE _ _ (by simp))
  have h3 : Y.heap[w.heap.size + 1 + 1]? = some (.cells #[.int .i64 0, .int .i64 0] 36 (0, 0)) := by rw [hY]; exact alloc_atE _ _ (by simp)
  have HY := Lib.hid hY
  clear hY
  have x0 := blk_cell 0 h1 rfl
  have x1 := blk_cell 1 h1 rfl
  have x2 := blk_cell 2 h1 rfl
  have x3 := blk_cell 3 h1 rfl
  have x4 := blk_cell 4 h1 rfl
  have x5 := blk_cell 5 h1 rfl
  have xz := lt_of_block h1
  simp only [List.getElem_toArray, List.getElem_cons_zero, List.getElem_cons_succ] at x0 x1 x2 x3 x4 x5
  have HBY := Lib.hid hbY
  have HB2 := Lib.hid h2
  have HB3 := Lib.hid h3
  have hmY := hm.mono hbY
  have HM := Lib.hid hm
  have HV := Lib.hid hv
  have hOT : ∀ U, Below Y.heap.size Y U → Calls Tryz.prog 80 #[.pointer (some ⟨w.heap.size, 0, none⟩), .pointer (some ⟨w.heap.size + 1, 0, none⟩)] U fun e w' => e = .returned (.int .i64 0) ∧ Below U.heap.size U w' := fun U hU =>
    PBorn1_any a1 a2 a3 a4 k1 k2 k3 k4 t _ _ m U hmm (by omega) (blk_cell 4 ((hU.block _ (lt_of_block h1)).trans h1) rfl) (blk_cell 0 ((hU.block _ (lt_of_block h2)).trans h2) rfl)
  by_cases hne : fairL t 0 = []
  · rw [if_pos hne]
    have EN := Lib.hid (PEnter_none a1 a2 a3 a4 k1 k2 k3 k4 t 80 #[.pointer (some ⟨w.heap.size, 0, none⟩), .pointer (some ⟨w.heap.size + 1, 0, none⟩)] Y hmY hv (enters_of Tryz.func80 (by kernel_rfl) rfl) hOT hne)
    clear hne hm hmY h1 h2 h3 hbY hOT hmm hv
    go_enter Tryz.func33, Tryz.ntmps33
    go_upto_region 1 with (fail)
    rw [← HY.out]
    go_upto_region 3 with (go_at_call 43; go_must ((with_reducible refine EN.out.mono ?_); rintro e w3 ⟨rfl, hb3⟩; dsimp only))
    have hlt3 := Nat.lt_of_lt_of_le (lt_of_block HB3.out) hb3.size
    have h3 := (heap_alloc_old w3 (.cells #[.pointer none] 100) hlt3).trans ((hb3.block _ (lt_of_block HB3.out)).trans HB3.out)
    have hbX : Below w.heap.size w (w3.alloc (.cells #[.pointer none] 100)) := (HBY.out.trans (hb3.mono HBY.out.size)).alloc (Nat.le_trans HBY.out.size hb3.size) _
    generalize w3.alloc (.cells #[.pointer none] 100) = X at h3 hbX ⊢
    have s0 := blk_cell 0 h3 rfl
    have s1 := blk_cell 1 h3 rfl
    have f0 := blk_free 0 h3
    have f1 := blk_free 1 h3
    have sz := lt_of_block h3
    simp only [List.getElem_toArray, List.getElem_cons_zero, List.getElem_cons_succ] at s0 s1
    clear x0 x1 x2 x3 x4 x5 xz hlt3 hb3
    have HE := Lib.hid ((hbX.setCell (p := ⟨w.heap.size + 1 + 1, 0, none⟩) (by simp; omega) (.int .i64 0)).setCell (p := ⟨w.heap.size + 1 + 1, 1, none⟩) (by simp; omega) (.int .i64 0))
    have h4 := blk_set 1 (.int .i64 0) (blk_set 0 (.int .i64 0) h3)
    simp only [List.setIfInBounds_toArray, List.set_cons_zero, List.set_cons_succ] at h4
    clear h3 hbX
    go_wp2
    obtain ⟨Z, hZ⟩ : ∃ Z : World, Z = (X.setCell ⟨w.heap.size + 1 + 1, 0, none⟩ (.int .i64 0)).setCell ⟨w.heap.size + 1 + 1, 1, none⟩ (.int .i64 0) := ⟨_, rfl⟩
    rw [← hZ] at h4 HE ⊢
    clear hZ s0 s1 f0 f1 sz
    have s0 := blk_cell 0 h4 rfl
    have s1 := blk_cell 1 h4 rfl
    simp only [List.getElem_toArray, List.getElem_cons_zero, List.getElem_cons_succ] at s0 s1
    refine bodyPost_ret (v := .tuple #[.agg #[.int .i64 0, .int .i64 0], .int .i64 8]) ?_ rfl ⟨rfl, HE.out⟩
    rw [results_cell_tmp rfl]
    go_simp
  · rw [if_neg hne]
    have EN := Lib.hid (PEnter_some a1 a2 a3 a4 k1 k2 k3 k4 t 80 #[.pointer (some ⟨w.heap.size, 0, none⟩), .pointer (some ⟨w.heap.size + 1, 0, none⟩)] Y hmY hv (enters_of Tryz.func80 (by kernel_rfl) rfl) hOT hne)
    have FR := Lib.hid (fun (bt : Nat) (W : World) => PFair_any bt W)
    have WI0 := Lib.hid (fun (a b c d : Int) (W : World) => wider_no a b c d W)
    have WI1 := Lib.hid (fun (a b c d : Int) (W : World) => wider_yes a b c d W)
    obtain ⟨q, hq⟩ : ∃ q, q = bornN t m := ⟨_, rfl⟩
    rw [← hq]
    have HQ0 := Lib.hid hq
    clear hne hm hmY h1 h2 h3 hbY hq hOT hv
    refine (callsIn_wide (n := 0)).1 ?_
    refine callsIn_of_wp_marks Tryz.func33 rfl trivial ?_ rfl
    simp only [Tryz.ntmps33, List.size_toArray, List.length_cons, List.length_nil, Nat.reduceAdd, Nat.reduceSub, Array.replicate_succ, Array.replicate_zero, List.push_toArray, List.append_toArray, List.nil_append, List.cons_append]
    refine (wpIn_wide (n := 0)).2 ?_
    go_upto_region 1 with (fail)
    rw [← HY.out]
    go_wp2_with (first
      | (go_at_call 44; go_must ((with_reducible refine (FR.out _ _).mono ?_); rintro e w4 ⟨rfl, rfl⟩; dsimp only))
      | (go_at_call 43; go_must ((with_reducible refine EN.out.mono ?_); rintro e w3 ⟨bt, bc, bk, rfl, ht3, hb3, g1, g2, g3⟩; dsimp only)))
    have hbw3 := HBY.out.trans (hb3.mono HBY.out.size)
    have h2 := (hb3.block _ (lt_of_block HB2.out)).trans HB2.out
    have h3 := (hb3.block _ (lt_of_block HB3.out)).trans HB3.out
    have hlt1 := lt_of_block HB3.out
    have hlo0 := ht3.bt_lt
    have hlo1 := ht3.bc_lt
    have hlo2 := ht3.bk_lt
    have hyz := HBY.out.size
    have hzb := hb3.size
    have hP3 := TwP.of hbw3 ht3 (by omega) (by omega) (by omega)
    have hSE := PFair_seq a1 a2 a3 a4 k1 k2 k3 k4 t bt bc bk 0 (w3.heap.size + 1 + 1) HV.out.ok (by omega)
    obtain ⟨f, hf⟩ : ∃ f : List Int × Nat → Int × Int, f = fun x => bAt ((yearsN t x.1).getD []) (pAt x.1 m).toNat := ⟨_, rfl⟩
    have hs0 : q = hullTo ((fairL t 0).map f) := by rw [hf, HQ0.out]; rfl
    have HF0 := Lib.hid hf
    have HS0 := Lib.hid hs0
    clear hs0 hf EN x0 x1 x2 x3 x4 x5 xz
    obtain ⟨X, hX⟩ : ∃ X : World, X = ((w3.alloc (.cells #[.pointer (some ⟨bt, 0, none⟩)] 100)).alloc (.cells #[.bool true] 4)).alloc (.cells #[.pointer (some ⟨bt, 0, none⟩)] 100) := ⟨_, rfl⟩
    have hsz : X.heap.size = w3.heap.size + 1 + 1 + 1 := by rw [hX]; simp
    have hb0 : Below w3.heap.size w3 X := by rw [hX]; exact (((Below.refl _ w3).alloc (Nat.le_refl _) _).alloc (by simp) _).alloc (by simp; omega) _
    have hO0 : BorO X w.heap.size w3.heap.size bt m (0, 0) true := by
      refine ⟨(hb0.block _ (by omega)).trans h2, (hb0.block _ (by omega)).trans h3, ?_, ?_, ?_⟩
      · rw [hX]; exact (heap_alloc_old _ _ (by simp; omega)).trans ((heap_alloc_old _ _ (by simp)).trans (alloc_atE _ _ rfl))
      · rw [hX]; exact (heap_alloc_old _ _ (by simp)).trans (alloc_atE _ _ (by simp))
      · rw [hX]; exact alloc_atE _ _ (by simp)
    have hrc : ((w3.alloc (.cells #[.pointer (some ⟨bt, 0, none⟩)] 100)).alloc (.cells #[.bool true] 4)).heap.size = w3.heap.size + 1 + 1 := by simp
    rw [← hX, hrc]
    clear hX hrc
    refine (wpIn_wide (n := 0)).1 ?_
    refine wpIn_rangeFunc_Y (gf := 93) (lb := #[.pointer (some ⟨w3.heap.size + 1 + 1, 0, none⟩)]) (by go_simp) (enters_of Tryz.func93 (by kernel_rfl) rfl) hSE (Nat.le_refl X.heap.size)
      (fun A A' h => h.1.above (by omega) (by omega)) (fun _ => rfl)
      (fun pre A => TwP w A bt bc bk a1 a2 a3 a4 k1 k2 k3 k4 t ∧ BorO A w.heap.size w3.heap.size bt m (hullTo (pre.map f)) (pre.map f).isEmpty)
      (fun c pre A => False)
      (fun s A A' h ⟨hb, _⟩ => ⟨h.1.belowB hb (by omega) (by omega) (by omega) (by omega), h.2.below hb (by omega) (by omega)⟩)
      (fun c s A A' h hb => h.elim)
      (fun s A A' h hR => ⟨h.1.step hR.1 hR.2, h.2.lrn hR.1 (by omega) (by omega) (by omega) (by omega)⟩)
      (fun s A h => ⟨h.1.town HM.out, h.2.fc⟩)
      ⟨hP3.belowB hb0 (by omega) (by omega) (by omega) (by omega), hO0⟩ ?round ?done ?stop
    case stop =>
      intro D c pre V hD hI hK
      exact hI.elim
    case round =>
      intro l pre x V hl1 hl2 hI hpre
      have hxt : x ∈ truthsT t := (List.mem_filter.1 (hpre.subset (by simp : x ∈ pre ++ [x]))).1
      have hxo := truths_ok hxt
      have hxq : PsOk (padP x.1) := (tru_pre hxo).ps (by rw [hxo.len]; omega)
      obtain ⟨yl, hyl⟩ : ∃ yl, yearsN t x.1 = some yl := Option.isSome_iff_exists.1 (truthsF_years _ _ _ x hxt)
      obtain ⟨n0, hn0⟩ : ∃ n : Nat, pAt x.1 m = (n : Int) := ⟨(pAt x.1 m).toNat, by have := (hxo.at_ m).1; omega⟩
      have hn6 : n0 < 6 := by have h1 := (hxo.at_ m).2 hmm; have h2 := hxo.many; omega
      have HH : Hid (hullTo ((pre ++ [x]).map f) = if (pre.map f).isEmpty = true then bAt yl n0 else (min (hullTo (pre.map f)).1 (bAt yl n0).1, max (hullTo (pre.map f)).2 (bAt yl n0).2)) := Lib.hid (by rw [List.map_append, List.map_singleton, hull_snoc, HF0.out]; simp only [hyl, hn0, Option.getD_some, Int.toNat_natCast])
      have HNE1 : Hid ((pre ++ [x]).isEmpty = false) := Lib.hid (by simp)
      have YE := Lib.hid (fun (U : World) (h : TownW U bt bc bk a1 a2 a3 a4 k1 k2 k3 k4 t 0) => (show Calls Tryz.prog 82 #[.pointer (some ⟨bt, 0, none⟩), psV x.1] U fun e w' => e = .returned (.tuple #[bnV yl, .bool true]) ∧ Lrn bc bk U w' ∧ TownW w' bt bc bk a1 a2 a3 a4 k1 k2 k3 k4 t 0 from by
        have := PYears_any a1 a2 a3 a4 k1 k2 k3 k4 t bt bc bk 0 (padP x.1) U h HV.out.ok hxq
        rw [psV_ext (padP_at x.1), yearsN_pad (padP_at x.1), hyl] at this
        exact this.mono fun e w' ⟨L, h1, h2, h3⟩ => ⟨by rw [h1, h2 _ rfl]; rfl, h3⟩))
      obtain ⟨xp, xm⟩ := x
      simp only at HH YE hn0
      simp only [encP, psV]
      clear hxt hxo hxq hyl hpre
      generalize hullTo (pre.map f) = s at *
      generalize (pre.map f).isEmpty = fi at *
      obtain ⟨sl, sh⟩ := s
      have HI := Lib.hid hI
      clear hI
      gi_wp2
      have hbV : Below V.heap.size V (V.alloc (.cells #[.int .i64 (pAt xp 0), .int .i64 (pAt xp 1), .int .i64 (pAt xp 2), .int .i64 (pAt xp 3), .int .i64 (pAt xp 4), .int .i64 (pAt xp 5)] 109)) := (Below.refl _ _).alloc (Nat.le_refl _) _
      have hI2 : TwP w (V.alloc (.cells #[.int .i64 (pAt xp 0), .int .i64 (pAt xp 1), .int .i64 (pAt xp 2), .int .i64 (pAt xp 3), .int .i64 (pAt xp 4), .int .i64 (pAt xp 5)] 109)) bt bc bk a1 a2 a3 a4 k1 k2 k3 k4 t ∧ BorO (V.alloc (.cells #[.int .i64 (pAt xp 0), .int .i64 (pAt xp 1), .int .i64 (pAt xp 2), .int .i64 (pAt xp 3), .int .i64 (pAt xp 4), .int .i64 (pAt xp 5)] 109)) w.heap.size w3.heap.size bt m (sl, sh) fi := ⟨HI.out.1.belowB hbV (by omega) (by omega) (by omega) (by omega), HI.out.2.below hbV (by omega) (by omega)⟩
      refine ⟨Above.of_below hbV, hI2, ?_⟩
      intro Wb hs2 hblk hG1 hO1
      have hP1 : Wb.heap[V.heap.size]? = some (.cells (psCells xp) 109 (0, 0)) := (hblk _ (by omega)).trans (alloc_atE _ _ rfl)
      have hz1 : Wb.heap.size = V.heap.size + 1 := by rw [hs2]
      clear hblk hs2 hbV hI2 HI
      have ht1 := hG1.town HM.out
      have YW := Lib.hid (YE.out Wb ht1)
      have hXW : X.heap.size ≤ Wb.heap.size := by omega
      have t0 := blk_cell 0 hO1.ft rfl
      have tz := lt_of_block hO1.ft
      have c0 := blk_cell 0 hP1 rfl
      have c1 := blk_cell 1 hP1 rfl
      have c2 := blk_cell 2 hP1 rfl
      have c3 := blk_cell 3 hP1 rfl
      have c4 := blk_cell 4 hP1 rfl
      have c5 := blk_cell 5 hP1 rfl
      have cz := lt_of_block hP1
      simp only [psCells, List.getElem_toArray, List.getElem_cons_zero, List.getElem_cons_succ] at t0 c0 c1 c2 c3 c4 c5
      have HT1 := Lib.hid ht1
      have HG1 := Lib.hid hG1
      have HO1 := Lib.hid hO1
      have HP1 := Lib.hid hP1
      clear ht1 hG1 hO1 hP1 YE
      gi_wp2
      refine ⟨trivial, rfl, ((CallsIn.inRound l (callsIn_wide.2 YW.out)).mono ?_)⟩
      rintro e w5 ⟨rfl, hl5, ht5⟩
      have hO5 := HO1.out.lrn hl5 (by omega) (by omega) (by omega) (by omega)
      have hG5 := HG1.out.step hl5 ht5
      have hP5 := hl5.cellsB HT1.out HP1.out
      have hA5 : Above X.heap.size Wb w5 := hl5.above (by omega) (by omega)
      have hs5 := hl5.size
      clear t0 tz c0 c1 c2 c3 c4 c5 cz hl5 ht5 HO1 HG1 HP1 HT1 YW
      gi_upto_region 8 with (fail)
      obtain ⟨Z, hZ⟩ : ∃ Z : World, Z = w5.alloc (.cells (bnCells yl) 154) := ⟨_, rfl⟩
      rw [show w5.alloc (.cells #[.int .i64 (bAt yl 0).1, .int .i64 (bAt yl 0).2, .int .i64 (bAt yl 1).1, .int .i64 (bAt yl 1).2, .int .i64 (bAt yl 2).1, .int .i64 (bAt yl 2).2, .int .i64 (bAt yl 3).1, .int .i64 (bAt yl 3).2, .int .i64 (bAt yl 4).1, .int .i64 (bAt yl 4).2, .int .i64 (bAt yl 5).1, .int .i64 (bAt yl 5).2] 154) = Z from hZ.symm]
      have hbZ : Below w5.heap.size w5 Z := by rw [hZ]; exact (Below.refl _ _).alloc (Nat.le_refl _) _
      have hBN : Z.heap[w5.heap.size]? = some (.cells (bnCells yl) 154 (0, 0)) := by rw [hZ]; exact alloc_atE _ _ rfl
      clear hZ
      have hO6 := hO5.below hbZ (by omega) (by omega)
      have hG6 := hG5.belowB hbZ (by omega) (by omega) (by omega) (by omega)
      have hP6 := (hbZ.block _ (lt_of_block hP5)).trans hP5
      have hA6 := hA5.trans (Above.of_below hbZ)
      have hs6 := hbZ.size
      clear hO5 hG5 hP5 hA5 hbZ
      have hy6 := bn_cell hBN n0 hn6
      have hp6 := ps_cell hP6 m (by omega)
      rw [hn0] at hp6
      generalize hbn : bAt yl n0 = yy at hy6 HH
      obtain ⟨yo, yh⟩ := yy
      simp only at hy6 HH
      clear hbn
      have hm6 : (m : Int) < 6 := by omega
      have hm0 : (0 : Int) ≤ (m : Int) := by omega
      have hn6i : (n0 : Int) < 6 := by omega
      have hn0i : (0 : Int) ≤ (n0 : Int) := by omega
      have KZ := Lib.hid (fun (U : World) (h : Below Z.heap.size Z U) => (show Below Z.heap.size Z U ∧ U.cell? ⟨w.heap.size + 1 + 1, 0, none⟩ = some (.int .i64 sl) ∧ U.cell? ⟨w.heap.size + 1 + 1, 1, none⟩ = some (.int .i64 sh) ∧ U.cell? ⟨w.heap.size + 1, 0, none⟩ = some (.int .i64 (m : Int)) ∧ U.cell? ⟨V.heap.size, m, none⟩ = some (.int .i64 (n0 : Int)) ∧ U.cell? ⟨w5.heap.size, n0 * 2, none⟩ = some (.int .i64 yo) ∧ U.cell? ⟨w5.heap.size, n0 * 2 + 1, none⟩ = some (.int .i64 yh) ∧ U.cell? ⟨w3.heap.size + 1, 0, none⟩ = some (.bool fi) ∧ w.heap.size + 1 + 1 < U.heap.size ∧ V.heap.size < U.heap.size ∧ w5.heap.size < U.heap.size ∧ w3.heap.size + 1 < U.heap.size from by
        have q1 := (h.block _ (lt_of_block hO6.fs)).trans hO6.fs
        have q2 := (h.block _ (lt_of_block hO6.fm)).trans hO6.fm
        have q3 := (h.block _ (lt_of_block hO6.ff)).trans hO6.ff
        have z1 := lt_of_block hP6
        have z2 := lt_of_block hBN
        exact ⟨h, blk_cell 0 q1 rfl, blk_cell 1 q1 rfl, blk_cell 0 q2 rfl, cell_below h hp6, cell_below h hy6.1, cell_below h hy6.2, blk_cell 0 q3 rfl, lt_of_block q1, Nat.lt_of_lt_of_le z1 h.size, Nat.lt_of_lt_of_le z2 h.size, lt_of_block q3⟩))
      have hZ0 := below_drew' (Below.refl Z.heap.size Z)
      have HO6 := Lib.hid hO6
      have HG6 := Lib.hid hG6
      have HP6 := Lib.hid hP6
      have HA6 := Lib.hid hA6
      clear hO6 hG6 hP6 hBN hy6 hp6 hn0 hA6
      cases fi
      · have HR2 := Lib.hid (show hullTo ((pre ++ [(xp, xm)]).map f) = (min sl yo, max sh yh) from by rw [HH.out]; rfl)
        apply wpIn_mid _ (fun U => ∃ U5, Below Z.heap.size Z U5 ∧ U = (U5.setCell ⟨w.heap.size + 1 + 1, 0, none⟩ (.int .i64 (min sl yo))).setCell ⟨w.heap.size + 1 + 1, 1, none⟩ (.int .i64 (max sh yh)))
        · refine wpIn_region_roundZ (fun U => Below Z.heap.size Z U ∧ U.cell? ⟨w.heap.size + 1 + 1, 0, none⟩ = some (.int .i64 sl) ∧ U.cell? ⟨w.heap.size + 1 + 1, 1, none⟩ = some (.int .i64 sh) ∧ U.cell? ⟨w.heap.size + 1, 0, none⟩ = some (.int .i64 (m : Int)) ∧ U.cell? ⟨V.heap.size, m, none⟩ = some (.int .i64 (n0 : Int)) ∧ U.cell? ⟨w5.heap.size, n0 * 2, none⟩ = some (.int .i64 yo) ∧ U.cell? ⟨w5.heap.size, n0 * 2 + 1, none⟩ = some (.int .i64 yh) ∧ U.cell? ⟨w3.heap.size + 1, 0, none⟩ = some (.bool false) ∧ w.heap.size + 1 + 1 < U.heap.size ∧ V.heap.size < U.heap.size ∧ w5.heap.size < U.heap.size ∧ w3.heap.size + 1 < U.heap.size) 8 ?_ (by kernel_rfl) (noDefer_spec (by kernel_rfl)) (KZ.out _ hZ0) (fun hHeld => ?_)
          · intro h
            obtain ⟨_, _, h⟩ := h
            exact h
          (refine wpZ_take (i := 0) (v := ?_) rfl (by kernel_rfl) (by kernel_rfl) (by kernel_rfl) (by kernel_rfl) (fun _ _ _ h => h) (Or.inl ⟨by kernel_rfl, ?_⟩) (by assumption) ?_; rotate_left 1; (focus (intro w hSw; (try dsimp only at hSw); go_simp; first | done | with_reducible rfl)); simp only [Act.put, List.getElem_toArray, List.getElem_cons_succ, List.getElem_cons_zero, List.setIfInBounds_toArray, List.set_cons_succ, List.set_cons_zero])
          (refine wpZ_take (i := 1) (v := ?_) rfl (by kernel_rfl) (by kernel_rfl) (by kernel_rfl) (by kernel_rfl) (fun _ _ _ h => h) (Or.inl ⟨by kernel_rfl, ?_⟩) (by assumption) ?_; rotate_left 1; (focus (intro w hSw; (try dsimp only at hSw); go_simp; first | done | with_reducible rfl)); simp only [Act.put, List.getElem_toArray, List.getElem_cons_succ, List.getElem_cons_zero, List.setIfInBounds_toArray, List.set_cons_succ, List.set_cons_zero])
          (refine wpZ_take (i := 2) (v := ?_) rfl (by kernel_rfl) (by kernel_rfl) (by kernel_rfl) (by kernel_rfl) (fun _ _ _ h => h) (Or.inl ⟨by kernel_rfl, ?_⟩) (by assumption) ?_; rotate_left 1; (focus (intro w hSw; (try dsimp only at hSw); go_simp; first | done | with_reducible rfl)); simp only [Act.put, List.getElem_toArray, List.getElem_cons_succ, List.getElem_cons_zero, List.setIfInBounds_toArray, List.set_cons_succ, List.set_cons_zero])
          (refine wpZ_take (i := 3) (v := ?_) rfl (by kernel_rfl) (by kernel_rfl) (by kernel_rfl) (by kernel_rfl) (fun _ _ _ h => h) (Or.inl ⟨by kernel_rfl, ?_⟩) (by assumption) ?_; rotate_left 1; (focus (intro w hSw; (try dsimp only at hSw); go_simp; first | done | with_reducible rfl)); simp only [Act.put, List.getElem_toArray, List.getElem_cons_succ, List.getElem_cons_zero, List.setIfInBounds_toArray, List.set_cons_succ, List.set_cons_zero])
          (refine wpZ_take (i := 4) (v := ?_) rfl (by kernel_rfl) (by kernel_rfl) (by kernel_rfl) (by kernel_rfl) (fun _ _ _ h => h) (Or.inl ⟨by kernel_rfl, ?_⟩) (by assumption) ?_; rotate_left 1; (focus (intro w hSw; (try dsimp only at hSw); go_simp; first | done | with_reducible rfl)); simp only [Act.put, List.getElem_toArray, List.getElem_cons_succ, List.getElem_cons_zero, List.setIfInBounds_toArray, List.set_cons_succ, List.set_cons_zero])
          (refine wpZ_take (i := 5) (v := ?_) rfl (by kernel_rfl) (by kernel_rfl) (by kernel_rfl) (by kernel_rfl) (fun _ _ _ h => h) (Or.inl ⟨by kernel_rfl, ?_⟩) (by assumption) ?_; rotate_left 1; (focus (intro w hSw; (try dsimp only at hSw); go_simp; first | done | with_reducible rfl)); simp only [Act.put, List.getElem_toArray, List.getElem_cons_succ, List.getElem_cons_zero, List.setIfInBounds_toArray, List.set_cons_succ, List.set_cons_zero])
          (refine wpZ_take (i := 6) (v := ?_) rfl (by kernel_rfl) (by kernel_rfl) (by kernel_rfl) (by kernel_rfl) (fun _ _ _ h => h) (Or.inl ⟨by kernel_rfl, ?_⟩) (by assumption) ?_; rotate_left 1; (focus (intro w hSw; (try dsimp only at hSw); go_simp; first | done | with_reducible rfl)); simp only [Act.put, List.getElem_toArray, List.getElem_cons_succ, List.getElem_cons_zero, List.setIfInBounds_toArray, List.set_cons_succ, List.set_cons_zero])
          refine wpZ_ready (rs := [7]) (by kernel_rfl) (by simp) (AllZ.cons rfl (fun K hK => ?_) AllZ.nil)
          go_simp
          refine (WI0.out sl sh yo yh _).mono ?_
          rintro e w6 ⟨rfl, hb6⟩
          dsimp only
          have hZ6 := hZ0.trans (hb6.mono hZ0.size)
          have hHeld6 := KZ.out _ hZ6
          refine hK.out _ _ (fun _ => hHeld6) ?_
          (try simp only [Act.put, List.getElem_toArray, List.getElem_cons_succ, List.getElem_cons_zero, List.setIfInBounds_toArray, List.set_cons_succ, List.set_cons_zero])
          clear hK
          have kk2 := blk_free 0 ((hZ6.block _ (lt_of_block HO6.out.fs)).trans HO6.out.fs)
          have kk3 := blk_free 1 ((hZ6.block _ (lt_of_block HO6.out.fs)).trans HO6.out.fs)
          obtain ⟨-, kk0, kk1, -, -, -, -, -, kkz, -⟩ := hHeld6
          refine wpZ_ready (rs := [8]) (by kernel_rfl) (by simp) (AllZ.cons rfl (fun K hK => ?_) AllZ.nil)
          (go_simp; refine hK.out _ _ (fun h => absurd rfl h) ?_; (try simp only [Act.put, List.getElem_toArray, List.getElem_cons_succ, List.getElem_cons_zero, List.setIfInBounds_toArray, List.set_cons_succ, List.set_cons_zero]); clear hK; refine wpZ_done (by kernel_rfl) ?_ _)
          exact ⟨rfl, _, hZ6, rfl⟩
        rintro U ⟨U5, hU5, hUe⟩
        have hO7 := ((HO6.out.below hU5 (by omega) (by omega)).sets (by omega) (min sl yo, max sh yh))
        rw [← hUe] at hO7
        have hG7 := (((HG6.out.belowB hU5 (by omega) (by omega) (by omega) (by omega)).set (w.heap.size + 1 + 1) 0 (.int .i64 (min sl yo)) (by omega) (by omega) (by omega) (by omega)).set (w.heap.size + 1 + 1) 1 (.int .i64 (max sh yh)) (by omega) (by omega) (by omega) (by omega))
        rw [← hUe] at hG7
        have hA7 := ((HA6.out.trans (Above.of_below hU5)).trans (Above.of_set X.heap.size U5 (w.heap.size + 1 + 1) 0 (.int .i64 (min sl yo)) (by omega))).trans (Above.of_set X.heap.size _ (w.heap.size + 1 + 1) 1 (.int .i64 (max sh yh)) (by omega))
        rw [← hUe] at hA7
        have b0 := blk_cell 0 hO7.ff rfl
        have bz := lt_of_block hO7.ff
        have bf := blk_free 0 hO7.ff
        simp only [List.getElem_toArray, List.getElem_cons_zero] at b0
        have HO8 := Lib.hid (hO7.setf (by omega) false)
        have HG8 := Lib.hid (hG7.set (w3.heap.size + 1) 0 (.bool false) (by omega) (by omega) (by omega) (by omega))
        have HA8 := Lib.hid (hA7.trans (Above.of_set X.heap.size U (w3.heap.size + 1) 0 (.bool false) (by omega)))
        clear hUe hU5 hO7 hG7 hA7 KZ hZ0
        gi_wp2
        exact ⟨by rw [← hsz]; exact HA8.out, HG8.out, by rw [HR2.out, HNE1.out]; exact HO8.out⟩
      · have HR2 := Lib.hid (show hullTo ((pre ++ [(xp, xm)]).map f) = (yo, yh) from by rw [HH.out]; rfl)
        apply wpIn_mid _ (fun U => ∃ U5, Below Z.heap.size Z U5 ∧ U = (U5.setCell ⟨w.heap.size + 1 + 1, 0, none⟩ (.int .i64 (yo))).setCell ⟨w.heap.size + 1 + 1, 1, none⟩ (.int .i64 (yh)))
        · refine wpIn_region_roundZ (fun U => Below Z.heap.size Z U ∧ U.cell? ⟨w.heap.size + 1 + 1, 0, none⟩ = some (.int .i64 sl) ∧ U.cell? ⟨w.heap.size + 1 + 1, 1, none⟩ = some (.int .i64 sh) ∧ U.cell? ⟨w.heap.size + 1, 0, none⟩ = some (.int .i64 (m : Int)) ∧ U.cell? ⟨V.heap.size, m, none⟩ = some (.int .i64 (n0 : Int)) ∧ U.cell? ⟨w5.heap.size, n0 * 2, none⟩ = some (.int .i64 yo) ∧ U.cell? ⟨w5.heap.size, n0 * 2 + 1, none⟩ = some (.int .i64 yh) ∧ U.cell? ⟨w3.heap.size + 1, 0, none⟩ = some (.bool true) ∧ w.heap.size + 1 + 1 < U.heap.size ∧ V.heap.size < U.heap.size ∧ w5.heap.size < U.heap.size ∧ w3.heap.size + 1 < U.heap.size) 8 ?_ (by kernel_rfl) (noDefer_spec (by kernel_rfl)) (KZ.out _ hZ0) (fun hHeld => ?_)
          · intro h
            obtain ⟨_, _, h⟩ := h
            exact h
          (refine wpZ_take (i := 0) (v := ?_) rfl (by kernel_rfl) (by kernel_rfl) (by kernel_rfl) (by kernel_rfl) (fun _ _ _ h => h) (Or.inl ⟨by kernel_rfl, ?_⟩) (by assumption) ?_; rotate_left 1; (focus (intro w hSw; (try dsimp only at hSw); go_simp; first | done | with_reducible rfl)); simp only [Act.put, List.getElem_toArray, List.getElem_cons_succ, List.getElem_cons_zero, List.setIfInBounds_toArray, List.set_cons_succ, List.set_cons_zero])
          (refine wpZ_take (i := 1) (v := ?_) rfl (by kernel_rfl) (by kernel_rfl) (by kernel_rfl) (by kernel_rfl) (fun _ _ _ h => h) (Or.inl ⟨by kernel_rfl, ?_⟩) (by assumption) ?_; rotate_left 1; (focus (intro w hSw; (try dsimp only at hSw); go_simp; first | done | with_reducible rfl)); simp only [Act.put, List.getElem_toArray, List.getElem_cons_succ, List.getElem_cons_zero, List.setIfInBounds_toArray, List.set_cons_succ, List.set_cons_zero])
          (refine wpZ_take (i := 2) (v := ?_) rfl (by kernel_rfl) (by kernel_rfl) (by kernel_rfl) (by kernel_rfl) (fun _ _ _ h => h) (Or.inl ⟨by kernel_rfl, ?_⟩) (by assumption) ?_; rotate_left 1; (focus (intro w hSw; (try dsimp only at hSw); go_simp; first | done | with_reducible rfl)); simp only [Act.put, List.getElem_toArray, List.getElem_cons_succ, List.getElem_cons_zero, List.setIfInBounds_toArray, List.set_cons_succ, List.set_cons_zero])
          (refine wpZ_take (i := 3) (v := ?_) rfl (by kernel_rfl) (by kernel_rfl) (by kernel_rfl) (by kernel_rfl) (fun _ _ _ h => h) (Or.inl ⟨by kernel_rfl, ?_⟩) (by assumption) ?_; rotate_left 1; (focus (intro w hSw; (try dsimp only at hSw); go_simp; first | done | with_reducible rfl)); simp only [Act.put, List.getElem_toArray, List.getElem_cons_succ, List.getElem_cons_zero, List.setIfInBounds_toArray, List.set_cons_succ, List.set_cons_zero])
          (refine wpZ_take (i := 4) (v := ?_) rfl (by kernel_rfl) (by kernel_rfl) (by kernel_rfl) (by kernel_rfl) (fun _ _ _ h => h) (Or.inl ⟨by kernel_rfl, ?_⟩) (by assumption) ?_; rotate_left 1; (focus (intro w hSw; (try dsimp only at hSw); go_simp; first | done | with_reducible rfl)); simp only [Act.put, List.getElem_toArray, List.getElem_cons_succ, List.getElem_cons_zero, List.setIfInBounds_toArray, List.set_cons_succ, List.set_cons_zero])
          (refine wpZ_take (i := 5) (v := ?_) rfl (by kernel_rfl) (by kernel_rfl) (by kernel_rfl) (by kernel_rfl) (fun _ _ _ h => h) (Or.inl ⟨by kernel_rfl, ?_⟩) (by assumption) ?_; rotate_left 1; (focus (intro w hSw; (try dsimp only at hSw); go_simp; first | done | with_reducible rfl)); simp only [Act.put, List.getElem_toArray, List.getElem_cons_succ, List.getElem_cons_zero, List.setIfInBounds_toArray, List.set_cons_succ, List.set_cons_zero])
          (refine wpZ_take (i := 6) (v := ?_) rfl (by kernel_rfl) (by kernel_rfl) (by kernel_rfl) (by kernel_rfl) (fun _ _ _ h => h) (Or.inl ⟨by kernel_rfl, ?_⟩) (by assumption) ?_; rotate_left 1; (focus (intro w hSw; (try dsimp only at hSw); go_simp; first | done | with_reducible rfl)); simp only [Act.put, List.getElem_toArray, List.getElem_cons_succ, List.getElem_cons_zero, List.setIfInBounds_toArray, List.set_cons_succ, List.set_cons_zero])
          refine wpZ_ready (rs := [7]) (by kernel_rfl) (by simp) (AllZ.cons rfl (fun K hK => ?_) AllZ.nil)
          go_simp
          refine (WI1.out sl sh yo yh _).mono ?_
          rintro e w6 ⟨rfl, hb6⟩
          dsimp only
          have hZ6 := hZ0.trans (hb6.mono hZ0.size)
          have hHeld6 := KZ.out _ hZ6
          refine hK.out _ _ (fun _ => hHeld6) ?_
          (try simp only [Act.put, List.getElem_toArray, List.getElem_cons_succ, List.getElem_cons_zero, List.setIfInBounds_toArray, List.set_cons_succ, List.set_cons_zero])
          clear hK
          have kk2 := blk_free 0 ((hZ6.block _ (lt_of_block HO6.out.fs)).trans HO6.out.fs)
          have kk3 := blk_free 1 ((hZ6.block _ (lt_of_block HO6.out.fs)).trans HO6.out.fs)
          obtain ⟨-, kk0, kk1, -, -, -, -, -, kkz, -⟩ := hHeld6
          refine wpZ_ready (rs := [8]) (by kernel_rfl) (by simp) (AllZ.cons rfl (fun K hK => ?_) AllZ.nil)
          (go_simp; refine hK.out _ _ (fun h => absurd rfl h) ?_; (try simp only [Act.put, List.getElem_toArray, List.getElem_cons_succ, List.getElem_cons_zero, List.setIfInBounds_toArray, List.set_cons_succ, List.set_cons_zero]); clear hK; refine wpZ_done (by kernel_rfl) ?_ _)
          exact ⟨rfl, _, hZ6, rfl⟩
        rintro U ⟨U5, hU5, hUe⟩
        have hO7 := ((HO6.out.below hU5 (by omega) (by omega)).sets (by omega) (yo, yh))
        rw [← hUe] at hO7
        have hG7 := (((HG6.out.belowB hU5 (by omega) (by omega) (by omega) (by omega)).set (w.heap.size + 1 + 1) 0 (.int .i64 (yo)) (by omega) (by omega) (by omega) (by omega)).set (w.heap.size + 1 + 1) 1 (.int .i64 (yh)) (by omega) (by omega) (by omega) (by omega))
        rw [← hUe] at hG7
        have hA7 := ((HA6.out.trans (Above.of_below hU5)).trans (Above.of_set X.heap.size U5 (w.heap.size + 1 + 1) 0 (.int .i64 (yo)) (by omega))).trans (Above.of_set X.heap.size _ (w.heap.size + 1 + 1) 1 (.int .i64 (yh)) (by omega))
        rw [← hUe] at hA7
        have b0 := blk_cell 0 hO7.ff rfl
        have bz := lt_of_block hO7.ff
        have bf := blk_free 0 hO7.ff
        simp only [List.getElem_toArray, List.getElem_cons_zero] at b0
        have HO8 := Lib.hid (hO7.setf (by omega) false)
        have HG8 := Lib.hid (hG7.set (w3.heap.size + 1) 0 (.bool false) (by omega) (by omega) (by omega) (by omega))
        have HA8 := Lib.hid (hA7.trans (Above.of_set X.heap.size U (w3.heap.size + 1) 0 (.bool false) (by omega)))
        clear hUe hU5 hO7 hG7 hA7 KZ hZ0
        gi_wp2
        exact ⟨by rw [← hsz]; exact HA8.out, HG8.out, by rw [HR2.out, HNE1.out]; exact HO8.out⟩
    case done =>
      intro D V hD hI hK
      obtain ⟨hG1, hO1⟩ := hI
      rw [← HS0.out] at hO1
      have s0 := blk_cell 0 hO1.fs rfl
      have s1 := blk_cell 1 hO1.fs rfl
      have sz := lt_of_block hO1.fs
      have f0 := blk_free 0 hO1.fs
      have f1 := blk_free 1 hO1.fs
      simp only [List.getElem_toArray, List.getElem_cons_zero, List.getElem_cons_succ] at s0 s1
      have h4 := blk_set 1 (.int .i64 q.2) (blk_set 0 (.int .i64 q.1) hO1.fs)
      simp only [List.setIfInBounds_toArray, List.set_cons_zero, List.set_cons_succ] at h4
      obtain ⟨Z, hZ⟩ : ∃ Z : World, Z = (V.setCell ⟨w.heap.size + 1 + 1, 0, none⟩ (.int .i64 q.1)).setCell ⟨w.heap.size + 1 + 1, 1, none⟩ (.int .i64 q.2) := ⟨_, rfl⟩
      have HZ := Lib.hid hZ
      have hKs : Z.heap[D]? = some (.deferred (some [])) := by rw [hZ, setP_other (by omega), setP_other (by omega)]; exact hK
      have hBZ : Below w.heap.size w Z := by rw [hZ]; exact (hG1.below.setCell (by simp; omega) _).setCell (by simp; omega) _
      have hE : Below w.heap.size w (Z.putObj D (.deferred none)) := hBZ.trans (below_putP _ _ _ _ (by omega))
      rw [← hZ] at h4
      have h5 := (show (Z.putObj D (.deferred none)).heap[w.heap.size + 1 + 1]? = _ from World.putObj_heap_other (by omega)).trans h4
      clear hZ hO1 hG1 h4 hBZ
      go_wp2
      rw [← HZ.out]
      refine ⟨by simp, .inl ⟨_, _, rfl, run_takeDeferred hKs, ?_⟩⟩
      clear s0 s1 f0 f1 sz
      have s0 := blk_cell 0 h5 rfl
      have s1 := blk_cell 1 h5 rfl
      simp only [List.getElem_toArray, List.getElem_cons_zero, List.getElem_cons_succ] at s0 s1
      refine ⟨.tuple #[.agg #[.int .i64 q.1, .int .i64 q.2], .int .i64 0], ?_, rfl, hE⟩
      rw [results_cell_tmp rfl]
      go_simp
end Go.Proofs.YtklconegomgjaaaGreat
