/- What is proved here: the contract of First of layer 3. Conditions: the town is valid. -/
import Derived.Test.YtklconegomgjaaaGreatEndGG
import Derived.Laws.CopyRow
import Derived.Laws.MakeOwn
set_option linter.unusedVariables false
set_option linter.unusedSimpArgs false
namespace Go.Proofs.YtklconegomgjaaaGreat
open Go Go.RowKit Go.Shelf
attribute [local go_sem] Oper.semAt_some

/-- What First keeps. -/
structure FirP (A : World) (w0 b0 bt : Nat) (a1 a2 a3 a4 : Option Addr) (k1 k2 k3 k4 : Nat) (t : PeW) (pre : List (List Int × Nat)) : Prop where
  fb : A.heap[w0]? = some (.cells #[.int .i64 t.ear.sounds, .slice a1 t.ear.alphas.length k1, .slice a2 t.ear.spells.length k2, .int .i64 t.vills, .slice a3 t.ments.length k3, .slice a4 t.ties.length k4] 29 (0, 0))
  fn : A.heap[w0 + 1 + 1]? = some (.cells #[.int .i64 (pre.length : Int)] 3 (0, 0))
  fc : A.heap[b0]? = some (.cells #[.pointer (some ⟨bt, 0, none⟩)] 100 (0, 0))
  fl : (pre = [] ∧ A.heap[w0 + 1]? = some (.cells #[.slice none 0 0] 57 (0, 0))) ∨ ∃ x r g, pre = x :: r ∧ A.heap[w0 + 1]? = some (.cells #[.slice (some ⟨g, 0, none⟩) t.ments.length t.ments.length] 57 (0, 0)) ∧ b0 < g ∧ A.heap[g]? = some (.cells (x.1.map (Value.int .i64)).toArray 3 (0, 0))
section
variable {A A' : World} {w0 b0 bt bc bk B : Nat} {a1 a2 a3 a4 : Option Addr} {k1 k2 k3 k4 : Nat} {t : PeW} {pre : List (List Int × Nat)}
theorem FirP.bel (h : FirP A w0 b0 bt a1 a2 a3 a4 k1 k2 k3 k4 t pre) (hb : Bel 3 B A A') (h1 : w0 + 1 + 1 < b0) (h2 : b0 < B) : FirP A' w0 b0 bt a1 a2 a3 a4 k1 k2 k3 k4 t pre := by
  refine ⟨(hb.below.block _ (by omega)).trans h.fb, (hb.below.block _ (by omega)).trans h.fn, (hb.below.block _ (by omega)).trans h.fc, ?_⟩
  rcases h.fl with ⟨e, h3⟩ | ⟨x, r, g, e, h3, h4, h5⟩
  · exact .inl ⟨e, (hb.below.block _ (by omega)).trans h3⟩
  · exact .inr ⟨x, r, g, e, (hb.below.block _ (by omega)).trans h3, h4, hb.keep _ _ _ h5⟩
theorem FirP.lrn (h : FirP A w0 b0 bt a1 a2 a3 a4 k1 k2 k3 k4 t pre) {but : Nat} (k : TownW A bt bc bk a1 a2 a3 a4 k1 k2 k3 k4 t but) (hb : Lrn bc bk A A') : FirP A' w0 b0 bt a1 a2 a3 a4 k1 k2 k3 k4 t pre := by
  refine ⟨hb.cellsB k h.fb, hb.cellsB k h.fn, hb.cellsB k h.fc, ?_⟩
  rcases h.fl with ⟨e, h3⟩ | ⟨x, r, g, e, h3, h4, h5⟩
  · exact .inl ⟨e, hb.cellsB k h3⟩
  · exact .inr ⟨x, r, g, e, hb.cellsB k h3, h4, hb.cellsB k h5⟩
end
theorem made_int (n : Nat) (hn : n ≤ 6) (V : World) : (Instr.makeSlice 57 (.int .i64 (n : Int)) (.int .i64 (n : Int))).run Tryz.prog V = .ok (.slice (some ⟨V.heap.size, 0, none⟩) n n) (V.alloc (.cells (madeCells #[.int .i64 0] n) 3)) := by
  obtain ⟨i, hi, hz, hsz, hby⟩ := info_parts E_int.info
  have := run_makeSlice (P := Tryz.prog) (w := V) 57 3 i _ E_int.und hi hz .i64 .i64 n n (by omega) (Int.le_refl _) (by rw [hsz, Int.toNat_natCast]; omega) (by rw [hby]; omega) (by omega)
  rw [hsz, Int.toNat_natCast, Nat.mul_one] at this
  exact this
theorem copy_ps {V : World} {g P n : Nat} {x : List Int} {T : TypeId} (hx : x.length = n) (hn : n ≤ 6) (hg : V.heap[g]? = some (.cells (madeCells #[.int .i64 0] n) 3 (0, 0))) (hP : V.heap[P]? = some (.cells (psCells x) T (0, 0))) (ty : TypeId) :
    (Builtin.copy_ #[57, 57] ty #[.slice (some ⟨g, 0, none⟩) n n, .slice (some ⟨P, 0, none⟩) 6 6]).run Tryz.prog V = .ok (goInt n) (V.setRow g (x.map (Value.int .i64)).toArray) := by
  obtain ⟨i, hi, hz, hsz, hby⟩ := info_parts E_int.info
  have hl : (x.map (Value.int .i64)).length = n := by rw [List.length_map, hx]
  have := run_copy_row (P := Tryz.prog) V 57 57 ty 3 g 0 n n ⟨P, 0, none⟩ 6 6 (madeCells #[.int .i64 0] n) 3 (x.map (Value.int .i64)) E_int.und (by rw [hi]; simp [hsz]) hg (by rw [hl]; exact (Nat.min_eq_right hn).symm) (fun j v hj => by
    rw [List.getElem?_map] at hj
    obtain ⟨y, hy, rfl⟩ := Option.map_eq_some_iff.1 hj
    obtain ⟨hlt, rfl⟩ := List.getElem?_eq_some_iff.1 hy
    have h1 := ps_cell hP j (by omega)
    unfold pAt at h1
    rw [List.getElem?_eq_getElem hlt, Option.getD_some] at h1
    rw [Addr.add_lit, Nat.zero_add]
    exact h1) (by rw [hl, size_madeCells]; omega) (fun v hv => by obtain ⟨y, _, rfl⟩ := List.mem_map.1 hv; rfl)
  rw [hl] at this
  rw [this]
  have e : (madeCells #[Value.int .i64 0] n).toList.take 0 ++ x.map (Value.int .i64) ++ (madeCells #[Value.int .i64 0] n).toList.drop (0 + n) = x.map (Value.int .i64) := by
    rw [List.take_zero, List.nil_append, List.drop_eq_nil_of_le (by rw [Array.length_toList, size_madeCells]; omega), List.append_nil]
  rw [e]
theorem results_cct {fn : Func} {p q u : Tmp} {ty tz : TypeId} (h : fn.results = #[.cell p ty, .cell q tz, .tmp u]) (tmps : Array Value) (P : Program) (w : World) :
    (results fn tmps).run P w =
      ((asAddr (tmps.getD p undef)).run P w).andThen fun a w₁ => ((loadVar ty a).run P w₁).andThen fun x w₂ => ((asAddr (tmps.getD q undef)).run P w₂).andThen fun b w₃ => ((loadVar tz b).run P w₃).andThen fun y w₄ => .ok (.tuple #[x, y, tmps.getD u undef]) w₄ := by
  simp only [results, h]
  simp [Sem.run_bind, Result.andThen]
set_option maxRecDepth 100000 in
set_option maxHeartbeats 4000000 in
theorem PFirst_any (a1 a2 a3 a4 : Option Addr) (k1 k2 k3 k4 : Nat) (t : PeW) (w : World) (hm : TownC w a1 a2 a3 a4 k1 k2 k3 k4 t) (hv : PeValid t) :
    Calls Tryz.prog 31 #[(.agg #[.int .i64 t.ear.sounds, .slice a1 t.ear.alphas.length k1, .slice a2 t.ear.spells.length k2, .int .i64 t.vills, .slice a3 t.ments.length k3, .slice a4 t.ties.length k4])] w fun e w' => ((fairL t 0 = [] ∧ e = .returned (.tuple #[.slice none 0 0, .int .i64 0, .int .i64 8])) ∨ (∃ x r g, fairL t 0 = x :: r ∧ e = .returned (.tuple #[.slice (some ⟨g, 0, none⟩) t.ments.length t.ments.length, .int .i64 ((fairL t 0).length : Int), .int .i64 0]) ∧ w'.heap[g]? = some (.cells (x.1.map (Value.int .i64)).toArray 3 (0, 0)))) ∧ Below w.heap.size w w' := by
  have hnm := hv.nm
  have hlm := hm.okm.len
  obtain ⟨Y, hY⟩ : ∃ Y : World, Y = ((w.alloc (.cells #[.int .i64 t.ear.sounds, .slice a1 t.ear.alphas.length k1, .slice a2 t.ear.spells.length k2, .int .i64 t.vills, .slice a3 t.ments.length k3, .slice a4 t.ties.length k4] 29)).alloc (.cells #[.slice none 0 0] 57)).alloc (.cells #[.int .i64 0] 3) := ⟨_, rfl⟩
  have hbY : Below w.heap.size w Y := by rw [hY]; exact (((Below.refl _ _).alloc (Nat.le_refl _) _).alloc (by simp) _).alloc (by simp; omega) _
  have h1 : Y.heap[w.heap.size]? = some (.cells #[.int .i64 t.ear.sounds, .slice a1 t.ear.alphas.length k1, .slice a2 t.ear.spells.length k2, .int .i64 t.vills, .slice a3 t.ments.length k3, .slice a4 t.ties.length k4] 29 (0, 0)) := by rw [hY]; exact (heap_alloc_old _ _ (by simp; omega)).trans ((heap_alloc_old _ _ (by simp)).trans (alloc_atE _ _ rfl))
  have h2 : Y.heap[w.heap.size + 1]? = some (.cells #[.slice none 0 0] 57 (0, 0)) := by rw [hY]; exact (heap_alloc_old _ _ (by simp)).trans (alloc_atE _ _ (by simp))
  have h3 : Y.heap[w.heap.size + 1 + 1]? = some (.cells #[.int .i64 0] 3 (0, 0)) := by rw [hY]; exact alloc_atE _ _ (by simp)
  have HY := Lib.hid hY
  clear hY
  have x0 := blk_cell 0 h1 rfl
  have x1 := blk_cell 1 h1 rfl
  have x2 := blk_cell 2 h1 rfl
  have x3 := blk_cell 3 h1 rfl
  have x4 := blk_cell 4 h1 rfl
  have x5 := blk_cell 5 h1 rfl
  have xz := lt_of_block h1
  simp only [List.getElem_toArray, List.getElem_cons_zero, List.getElem_cons_succ] at x0 x1 x2 x3 x4 x5
  have HBY := Lib.hid hbY
  have HB1 := Lib.hid h1
  have HB2 := Lib.hid h2
  have HB3 := Lib.hid h3
  have hmY := hm.mono hbY
  have HM := Lib.hid hm
  have HV := Lib.hid hv
  have hOT : ∀ U, Below Y.heap.size Y U → Calls Tryz.prog 78 #[] U fun e w' => e = .returned (.int .i64 0) ∧ Below U.heap.size U w' := fun U _ => (PFine_any U).mono fun e w' ⟨h1, h2⟩ => ⟨h1, by rw [h2]; exact Below.refl _ _⟩
  by_cases hne : fairL t 0 = []
  · have EN := Lib.hid (PEnter_none a1 a2 a3 a4 k1 k2 k3 k4 t 78 #[] Y hmY hv (enters_of Tryz.func78 (by kernel_rfl) rfl) hOT hne)
    have HNE := Lib.hid hne
    clear hne hm hmY h1 h2 h3 hbY hOT hv
    go_enter Tryz.func31, Tryz.ntmps31
    go_upto_region 1 with (fail)
    rw [← HY.out]
    go_upto_region 3 with (go_at_call 43; go_must ((with_reducible refine EN.out.mono ?_); rintro e w3 ⟨rfl, hb3⟩; dsimp only))
    have h2 := (hb3.block _ (lt_of_block HB2.out)).trans HB2.out
    have h3 := (hb3.block _ (lt_of_block HB3.out)).trans HB3.out
    have hbX := HBY.out.trans (hb3.mono HBY.out.size)
    have s0 := blk_cell 0 h2 rfl
    have s1 := blk_cell 0 h3 rfl
    have f0 := blk_free 0 h2
    have f1 := blk_free 0 h3
    have sz := lt_of_block h3
    simp only [List.getElem_toArray, List.getElem_cons_zero, List.getElem_cons_succ] at s0 s1
    have HE := Lib.hid ((hbX.setCell (p := ⟨w.heap.size + 1, 0, none⟩) (by simp) (.slice none 0 0)).setCell (p := ⟨w.heap.size + 1 + 1, 0, none⟩) (by simp; omega) (.int .i64 0))
    have h4 : ((w3.setCell ⟨w.heap.size + 1, 0, none⟩ (.slice none 0 0)).setCell ⟨w.heap.size + 1 + 1, 0, none⟩ (.int .i64 0)).heap[w.heap.size + 1]? = some (.cells #[.slice none 0 0] 57 (0, 0)) := by rw [setP_other (by omega)]; exact blk_set 0 _ h2
    have h5 : ((w3.setCell ⟨w.heap.size + 1, 0, none⟩ (.slice none 0 0)).setCell ⟨w.heap.size + 1 + 1, 0, none⟩ (.int .i64 0)).heap[w.heap.size + 1 + 1]? = some (.cells #[.int .i64 0] 3 (0, 0)) := blk_set 0 _ ((setP_other (by omega)).trans h3)
    clear h2 h3 hbX x0 x1 x2 x3 x4 x5 xz hb3
    go_wp2
    obtain ⟨Z, hZ⟩ : ∃ Z : World, Z = (w3.setCell ⟨w.heap.size + 1, 0, none⟩ (.slice none 0 0)).setCell ⟨w.heap.size + 1 + 1, 0, none⟩ (.int .i64 0) := ⟨_, rfl⟩
    rw [← hZ] at h4 h5 HE ⊢
    clear hZ s0 s1 f0 f1 sz
    have s0 := blk_cell 0 h4 rfl
    have s1 := blk_cell 0 h5 rfl
    simp only [List.getElem_toArray, List.getElem_cons_zero, List.getElem_cons_succ] at s0 s1
    refine bodyPost_ret (v := .tuple #[.slice none 0 0, .int .i64 0, .int .i64 8]) ?_ rfl ⟨.inl ⟨HNE.out, rfl⟩, HE.out⟩
    rw [results_cct rfl]
    go_simp
  · have EN := Lib.hid (PEnter_some a1 a2 a3 a4 k1 k2 k3 k4 t 78 #[] Y hmY hv (enters_of Tryz.func78 (by kernel_rfl) rfl) hOT hne)
    have FR := Lib.hid (fun (bt : Nat) (W : World) => PFair_any bt W)
    have HNE := Lib.hid hne
    clear hne hm hmY h1 h2 h3 hbY hOT hv
    refine (callsIn_wide (n := 0)).1 ?_
    refine callsIn_of_wp_marks Tryz.func31 rfl trivial ?_ rfl
    simp only [Tryz.ntmps31, List.size_toArray, List.length_cons, List.length_nil, Nat.reduceAdd, Nat.reduceSub, Array.replicate_succ, Array.replicate_zero, List.push_toArray, List.append_toArray, List.nil_append, List.cons_append]
    refine (wpIn_wide (n := 0)).2 ?_
    go_upto_region 1 with (fail)
    rw [← HY.out]
    go_wp2_with (first
      | (go_at_call 44; go_must ((with_reducible refine (FR.out _ _).mono ?_); rintro e w4 ⟨rfl, rfl⟩; dsimp only))
      | (go_at_call 43; go_must ((with_reducible refine EN.out.mono ?_); rintro e w3 ⟨bt, bc, bk, rfl, ht3, hb3, g1, g2, g3⟩; dsimp only)))
    have hbw3 := HBY.out.trans (hb3.mono HBY.out.size)
    have h1 := (hb3.block _ (lt_of_block HB1.out)).trans HB1.out
    have h2 := (hb3.block _ (lt_of_block HB2.out)).trans HB2.out
    have h3 := (hb3.block _ (lt_of_block HB3.out)).trans HB3.out
    have hlt1 := lt_of_block HB3.out
    have hlo0 := ht3.bt_lt
    have hlo1 := ht3.bc_lt
    have hlo2 := ht3.bk_lt
    have hyz := HBY.out.size
    have hzb := hb3.size
    have hP3 := TwP.of hbw3 ht3 (by omega) (by omega) (by omega)
    have hSE := PFair_seq a1 a2 a3 a4 k1 k2 k3 k4 t bt bc bk 0 w3.heap.size HV.out.ok (by omega)
    have hfm := fair_many (t := t) (by omega) 0
    clear EN x0 x1 x2 x3 x4 x5 xz
    obtain ⟨X, hX⟩ : ∃ X : World, X = w3.alloc (.cells #[.pointer (some ⟨bt, 0, none⟩)] 100) := ⟨_, rfl⟩
    have hsz : X.heap.size = w3.heap.size + 1 := by rw [hX]; simp
    have hb0 : Below w3.heap.size w3 X := by rw [hX]; exact (Below.refl _ w3).alloc (Nat.le_refl _) _
    have hO0 : FirP X w.heap.size w3.heap.size bt a1 a2 a3 a4 k1 k2 k3 k4 t [] := by
      refine ⟨(hb0.block _ (by omega)).trans h1, (hb0.block _ (by omega)).trans h3, ?_, .inl ⟨rfl, (hb0.block _ (by omega)).trans h2⟩⟩
      rw [hX]; exact alloc_atE _ _ rfl
    rw [← hX]
    clear hX
    refine (wpIn_wide (n := 0)).1 ?_
    refine wpIn_rangeFunc_Y (gf := 93) (lb := #[.pointer (some ⟨w3.heap.size, 0, none⟩)]) (by go_simp) (enters_of Tryz.func93 (by kernel_rfl) rfl) hSE (Nat.le_refl X.heap.size)
      (fun A A' h => h.1.above (by omega) (by omega)) (fun _ => rfl)
      (fun pre A => TwP w A bt bc bk a1 a2 a3 a4 k1 k2 k3 k4 t ∧ FirP A w.heap.size w3.heap.size bt a1 a2 a3 a4 k1 k2 k3 k4 t pre)
      (fun c pre A => False)
      (fun s A A' h hb => ⟨h.1.belowB hb.below (by omega) (by omega) (by omega) (by omega), h.2.bel hb (by omega) (by omega)⟩)
      (fun c s A A' h hb => h.elim)
      (fun s A A' h hR => ⟨h.1.step hR.1 hR.2, h.2.lrn (h.1.town HM.out) hR.1⟩)
      (fun s A h => ⟨h.1.town HM.out, h.2.fc⟩)
      ⟨hP3.belowB hb0 (by omega) (by omega) (by omega) (by omega), hO0⟩ ?round ?done ?stop
    case stop =>
      intro D c pre V hD hI hK
      exact hI.elim
    case round =>
      intro l pre x V hl1 hl2 hI hpre
      have hxt : x ∈ truthsT t := (List.mem_filter.1 (hpre.subset (by simp : x ∈ pre ++ [x]))).1
      have hxo := truths_ok hxt
      have hxl := hxo.len
      have hlen := hpre.length_le
      rw [List.length_append, List.length_singleton] at hlen
      have HI := Lib.hid hI
      obtain ⟨xp, xm⟩ := x
      simp only at hxl
      simp only [encP, psV]
      clear hxt hxo hpre hI
      gi_wp2
      have hbV : Below V.heap.size V (V.alloc (.cells #[.int .i64 (pAt xp 0), .int .i64 (pAt xp 1), .int .i64 (pAt xp 2), .int .i64 (pAt xp 3), .int .i64 (pAt xp 4), .int .i64 (pAt xp 5)] 109)) := (Below.refl _ _).alloc (Nat.le_refl _) _
      refine ⟨Above.of_below hbV, ⟨HI.out.1.belowB hbV (by omega) (by omega) (by omega) (by omega), HI.out.2.bel (Bel.grow hbV (Nat.le_refl _)) (by omega) (by omega)⟩, ?_⟩
      intro Wb hs2 hblk hIb
      obtain ⟨hG1, hO1⟩ := hIb
      have hP1 : Wb.heap[V.heap.size]? = some (.cells (psCells xp) 109 (0, 0)) := (hblk _ (by omega)).trans (alloc_atE _ _ rfl)
      have hz1 : Wb.heap.size = V.heap.size + 1 := by rw [hs2]; simp
      clear hblk hs2 hbV HI
      have r0 := blk_cell 0 hO1.fn rfl
      have rz := lt_of_block hO1.fn
      have rf := blk_free 0 hO1.fn
      simp only [List.getElem_toArray, List.getElem_cons_zero] at r0
      have HL1 : Hid ((pre ++ [(xp, xm)]).length = pre.length + 1) := Lib.hid (by simp)
      have HG1 := Lib.hid hG1
      have HO1 := Lib.hid hO1
      have HP1 := Lib.hid hP1
      have hfl := hO1.fl
      have hfb := hO1.fb
      clear hO1 hG1 hP1
      rcases hfl with ⟨rfl, hl⟩ | ⟨y, rr, g, rfl, hl, hgb, hgl⟩
      · have r1 : Wb.cell? ⟨w.heap.size + 1 + 1, 0, none⟩ = some (.int .i64 0) := r0
        clear r0
        gi_upto_region 8 with (fail)
        obtain ⟨Z1, hZ1⟩ : ∃ Z1 : World, Z1 = Wb.setCell ⟨w.heap.size + 1 + 1, 0, none⟩ (.int .i64 1) := ⟨_, rfl⟩
        rw [← hZ1]
        have hB1 : Below (w.heap.size + 1) Wb Z1 := by rw [hZ1]; exact (Below.refl _ _).setCell (by simp) _
        have hE1 : ∀ b, b ≠ w.heap.size + 1 + 1 → Z1.heap[b]? = Wb.heap[b]? := fun b hb => by rw [hZ1]; exact setP_other hb
        have hN1 : Z1.heap[w.heap.size + 1 + 1]? = some (.cells #[.int .i64 1] 3 (0, 0)) := by rw [hZ1]; exact blk_set 0 _ HO1.out.fn
        have hT1 := HG1.out.set (w.heap.size + 1 + 1) 0 (.int .i64 1) (by omega) (by omega) (by omega) (by omega)
        rw [← hZ1] at hT1
        clear hZ1 r1 rz rf
        have hfb1 := (hE1 w.heap.size (by omega)).trans hfb
        have hl1' := (hE1 (w.heap.size + 1) (by omega)).trans hl
        have hP1 := (hE1 V.heap.size (by omega)).trans HP1.out
        have hs1 := hB1.size
        have b4 := blk_cell 4 hfb1 rfl
        have bz := lt_of_block hfb1
        have l0 := blk_cell 0 hl1' rfl
        have lz := lt_of_block hl1'
        have lf := blk_free 0 hl1'
        simp only [List.getElem_toArray, List.getElem_cons_zero, List.getElem_cons_succ] at b4 l0
        have hmk := made_int t.ments.length (by omega) Z1
        gi_upto_region 9 with (fail)
        obtain ⟨Z2, hZ2⟩ : ∃ Z2 : World, Z2 = (Z1.setCell ⟨w.heap.size + 1, 0, none⟩ (.slice (some ⟨Z1.heap.size, 0, none⟩) t.ments.length t.ments.length)).alloc (.cells (madeCells #[.int .i64 0] t.ments.length) 3) := ⟨_, rfl⟩
        rw [← hZ2]
        have hB2 : Below (w.heap.size + 1) Wb Z2 := by rw [hZ2]; exact (hB1.setCell (by simp) _).alloc (by simp; omega) _
        have hE2 : ∀ b, b < Z1.heap.size → b ≠ w.heap.size + 1 → Z2.heap[b]? = Z1.heap[b]? := fun b h1 h2 => by rw [hZ2]; exact (heap_alloc_old _ _ (by simpa using h1)).trans (setP_other h2)
        have hg2 : Z2.heap[Z1.heap.size]? = some (.cells (madeCells #[.int .i64 0] t.ments.length) 3 (0, 0)) := by rw [hZ2]; exact alloc_atE _ _ (by simp)
        have hl2 : Z2.heap[w.heap.size + 1]? = some (.cells #[.slice (some ⟨Z1.heap.size, 0, none⟩) t.ments.length t.ments.length] 57 (0, 0)) := by rw [hZ2]; exact (heap_alloc_old _ _ (by simpa using lz)).trans (blk_set 0 _ hl1')
        have hT2 := (hT1.set (w.heap.size + 1) 0 (.slice (some ⟨Z1.heap.size, 0, none⟩) t.ments.length t.ments.length) (by omega) (by omega) (by omega) (by omega)).belowB (Below.alloc (Below.refl Z1.heap.size (Z1.setCell ⟨w.heap.size + 1, 0, none⟩ (.slice (some ⟨Z1.heap.size, 0, none⟩) t.ments.length t.ments.length))) (by simp) (.cells (madeCells #[.int .i64 0] t.ments.length) 3)) (by omega) (by omega) (by omega) (by omega)
        rw [← hZ2] at hT2
        clear hZ2 b4 bz l0 lz lf hmk
        have hP2 := (hE2 V.heap.size (by omega) (by omega)).trans hP1
        have l0 := blk_cell 0 hl2 rfl
        have lz := lt_of_block hl2
        simp only [List.getElem_toArray, List.getElem_cons_zero] at l0
        have hcp := fun ty => copy_ps (V := Z2.drew) hxl (by omega) hg2 hP2 ty
        have hU0 : Below (w.heap.size + 1) Wb (Z2.drew.setRow Z1.heap.size (xp.map (Value.int .i64)).toArray) := below_setRow (below_drew' hB2) (by omega) _
        have hgU := setRow_heap Z2.drew Z1.heap.size _ (xp.map (Value.int .i64)).toArray _ _ hg2
        have hbU : Below Z1.heap.size Z2 (Z2.drew.setRow Z1.heap.size (xp.map (Value.int .i64)).toArray) := below_setRow (below_drew' (Below.refl _ _)) (Nat.le_refl _) _
        apply wpIn_mid _ (fun U => U = Z2.drew.setRow Z1.heap.size (xp.map (Value.int .i64)).toArray)
        · refine wpIn_region_round (fun U => U.cell? ⟨w.heap.size + 1, 0, none⟩ = some (.slice (some ⟨Z1.heap.size, 0, none⟩) t.ments.length t.ments.length) ∧ w.heap.size + 1 < U.heap.size) ?_ (by kernel_rfl) (noDefer_spec (by kernel_rfl)) ⟨l0, lz⟩ (fun hHeld => ?_)
          · intro h
            obtain ⟨_, _, h⟩ := h
            exact h
          (refine wpAnyH_take (i := 0) (v := ?_) rfl (by kernel_rfl) (by kernel_rfl) (by kernel_rfl) (fun _ _ _ h => h) (Or.inl ⟨by kernel_rfl, ?_⟩) (by assumption) ?_; rotate_left 1; (focus (intro w hSw; (try dsimp only at hSw); go_simp; first | done | with_reducible rfl)); simp only [Act.put, List.getElem_toArray, List.getElem_cons_succ, List.getElem_cons_zero, List.setIfInBounds_toArray, List.set_cons_succ, List.set_cons_zero])
          (refine wpAnyH_take (i := 1) (v := ?_) rfl (by kernel_rfl) (by kernel_rfl) (by kernel_rfl) (fun _ _ _ h => h) (Or.inl ⟨by kernel_rfl, ?_⟩) (by assumption) ?_; rotate_left 1; (focus (intro w hSw; (try dsimp only at hSw); go_simp; first | done | with_reducible rfl)); simp only [Act.put, List.getElem_toArray, List.getElem_cons_succ, List.getElem_cons_zero, List.setIfInBounds_toArray, List.set_cons_succ, List.set_cons_zero])
          (refine wpAnyH_ready (rs := [2]) (by kernel_rfl) (by simp) ?_; refine AllReadyH.cons rfl (fun K hK => ?_) AllReadyH.nil; go_simp)
          have hl3 := (hbU.block _ (show w.heap.size + 1 < Z1.heap.size by omega)).trans hl2
          refine hK.out _ _ ⟨blk_cell 0 hl3 rfl, lt_of_block hl3⟩ (fun hHeld => ?_)
          (try simp only [Act.put, List.getElem_toArray, List.getElem_cons_succ, List.getElem_cons_zero, List.setIfInBounds_toArray, List.set_cons_succ, List.set_cons_zero])
          exact wpAnyH_done (by kernel_rfl) ⟨rfl, rfl⟩ _
        rintro U hUe
        rw [← hUe] at hU0 hgU hbU
        have hTU := hT2.belowB hbU (by omega) (by omega) (by omega) (by omega)
        have hEU : ∀ b, b < Wb.heap.size → b ≠ w.heap.size + 1 → b ≠ w.heap.size + 1 + 1 → U.heap[b]? = Wb.heap[b]? := fun b h1 h2 h3 => (hbU.block _ (by omega)).trans ((hE2 b (by omega) h2).trans (hE1 b h3))
        have hFU : Hid (FirP U w.heap.size w3.heap.size bt a1 a2 a3 a4 k1 k2 k3 k4 t ([] ++ [(xp, xm)])) := Lib.hid ⟨(hEU _ (lt_of_block hfb) (by omega) (by omega)).trans hfb, (hbU.block _ (by omega)).trans ((hE2 _ (by omega) (by omega)).trans hN1), (hEU _ (lt_of_block HO1.out.fc) (by omega) (by omega)).trans HO1.out.fc, .inr ⟨(xp, xm), [], Z1.heap.size, rfl, (hbU.block _ (by omega)).trans hl2, by omega, hgU⟩⟩
        have hAU : Above X.heap.size Wb U := ⟨hU0.os, hU0.tape, hU0.output, hU0.size, fun b h1 h2 => hEU b h2 (by omega) (by omega)⟩
        have HTU := Lib.hid hTU
        have HAU := Lib.hid hAU
        clear hcp hU0 hgU hbU hUe hTU hEU hAU l0 lz hT2 hP2 hl2 hg2 hE2 hB2 hE1 hB1 hN1 hT1 hfb1 hl1' hP1 hfb hl
        gi_wp2
        exact ⟨HAU.out, HTU.out, hFU.out⟩
      · have e1 : (((y :: rr).length : Int) + 1 == 1) = false := by simp; omega
        have hS : Hid (FirP (Wb.setCell ⟨w.heap.size + 1 + 1, 0, none⟩ (.int .i64 (((y :: rr).length : Int) + 1))) w.heap.size w3.heap.size bt a1 a2 a3 a4 k1 k2 k3 k4 t ((y :: rr) ++ [(xp, xm)])) := Lib.hid ⟨(setP_other (by omega)).trans HO1.out.fb, by rw [HL1.out]; exact blk_set 0 _ HO1.out.fn, (setP_other (by omega)).trans HO1.out.fc, .inr ⟨y, rr ++ [(xp, xm)], g, rfl, (setP_other (by omega)).trans hl, hgb, (setP_other (by omega)).trans hgl⟩⟩
        have hal : (0 : Int) ≤ (((y :: rr).length : Nat) : Int) ∧ (((y :: rr).length : Nat) : Int) ≤ 117649 := ⟨by omega, by omega⟩
        clear hlen HL1
        generalize (((y :: rr).length : Nat) : Int) = al at *
        obtain ⟨hal1, hal2⟩ := hal
        have hGS := Lib.hid (HG1.out.set (w.heap.size + 1 + 1) 0 (.int .i64 (al + 1)) (by omega) (by omega) (by omega) (by omega))
        clear hfb hl hgl
        gi_wp2
        exact ⟨Above.of_set _ _ _ _ _ (by omega), hGS.out, hS.out⟩
    case done =>
      intro D V hD hI hK
      obtain ⟨hG1, hO1⟩ := hI
      have hfl := hO1.fl
      have hfn := hO1.fn
      have hgb := hG1.below
      have hHE : ∃ x r g, fairL t 0 = x :: r ∧ V.heap[w.heap.size + 1]? = some (.cells #[.slice (some ⟨g, 0, none⟩) t.ments.length t.ments.length] 57 (0, 0)) ∧ w3.heap.size < g ∧ V.heap[g]? = some (.cells (x.1.map (Value.int .i64)).toArray 3 (0, 0)) := hfl.elim (fun h => absurd h.1 HNE.out) (fun h => h)
      obtain ⟨x, r, g, he, hl, hg, hgl⟩ := hHE
      have HEE := Lib.hid he
      clear hfl hG1 hO1 he
      obtain ⟨al, hal0⟩ : ∃ al, al = (fairL t 0).length := ⟨_, rfl⟩
      have hal : (al : Int) ≤ 117649 := by omega
      rw [← hal0] at hfn
      have HAL := Lib.hid hal0
      clear hal0 hfm
      have s0 := blk_cell 0 hl rfl
      have s1 := blk_cell 0 hfn rfl
      have sz := lt_of_block hfn
      have f0 := blk_free 0 hl
      have f1 := blk_free 0 hfn
      simp only [List.getElem_toArray, List.getElem_cons_zero] at s0 s1
      have hDg : D ≠ g := fun e => by rw [e, hgl] at hK; cases hK
      go_upto_region 10 with (fail)
      apply wp_mid _ (fun U => ((U.heap[w.heap.size + 1]? = some (.cells #[.slice (some ⟨g, 0, none⟩) t.ments.length t.ments.length] 57 (0, 0)) ∧ U.heap[w.heap.size + 1 + 1]? = some (.cells #[.int .i64 (al : Int)] 3 (0, 0))) ∧ U.heap[g]? = some (.cells (x.1.map (Value.int .i64)).toArray 3 (0, 0)) ∧ U.heap[D]? = some (.deferred (some []))) ∧ Below w.heap.size w U)
      · (focus go_region)
        all_goals
          refine ⟨rfl, ⟨⟨?_, ?_⟩, ?_, ?_⟩, ?_⟩
          · first | exact (setP_other (by omega)).trans (blk_set 0 _ hl) | exact blk_set 0 _ ((setP_other (by omega)).trans hl)
          · first | exact (setP_other (by omega)).trans (blk_set 0 _ hfn) | exact blk_set 0 _ ((setP_other (by omega)).trans hfn)
          · exact (setP_other (by omega)).trans ((setP_other (by omega)).trans hgl)
          · exact (setP_other (by omega)).trans ((setP_other (by omega)).trans hK)
          · exact below_drew' ((hgb.setCell (by simp <;> omega) _).setCell (by simp <;> omega) _)
      rintro U ⟨⟨⟨u1, u2⟩, u3, u4⟩, u5⟩
      clear s0 s1 sz f0 f1 hl hfn hgl hK hgb
      go_wp2
      refine ⟨by simp, .inl ⟨_, _, rfl, run_takeDeferred u4, ?_⟩⟩
      have v1 := (show (U.putObj D (.deferred none)).heap[w.heap.size + 1]? = _ from World.putObj_heap_other (by omega)).trans u1
      have v2 := (show (U.putObj D (.deferred none)).heap[w.heap.size + 1 + 1]? = _ from World.putObj_heap_other (by omega)).trans u2
      have v3 := (show (U.putObj D (.deferred none)).heap[g]? = _ from World.putObj_heap_other (fun e => hDg e.symm)).trans u3
      have v5 := u5.trans (below_putP U w.heap.size D (.deferred none) (by omega))
      clear u1 u2 u3 u4 u5
      have s0 := blk_cell 0 v1 rfl
      have s1 := blk_cell 0 v2 rfl
      simp only [List.getElem_toArray, List.getElem_cons_zero] at s0 s1
      refine ⟨.tuple #[.slice (some ⟨g, 0, none⟩) t.ments.length t.ments.length, .int .i64 (al : Int), .int .i64 0], ?_, .inr ⟨x, r, g, HEE.out, by rw [← HAL.out], v3⟩, v5⟩
      rw [results_cct rfl]
      go_simp
end Go.Proofs.YtklconegomgjaaaGreat
