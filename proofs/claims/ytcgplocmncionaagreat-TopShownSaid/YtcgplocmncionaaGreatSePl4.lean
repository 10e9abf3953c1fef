/- What is proved here: the contract of the search for a plan, and of Plan. Conditions: the room lies in memory. -/
import Derived.Test.YtcgplocmncionaaGreatSePl3
set_option linter.unusedVariables false
set_option linter.unusedSimpArgs false
namespace Go.Proofs.YtcgplocmncionaaGreat
open Go Go.RowKit Go.Shelf

theorem SNext_any {w0 : World} {B : PlB} {a1 a2 a3 a4 a5 : Option Addr} {k1 k2 k3 k4 k5 : Nat} {r : SeRoom} (hm : RoomC w0 a1 a2 a3 a4 a5 k1 k2 k3 k4 k5 r) (hv : SeValid r) : ∀ j, NextJ w0 B a1 a2 a3 a4 a5 k1 k2 k3 k4 k5 r j := by
  have N : ∀ j (p L : List Int) (best : Option (List Int)) (W : World), PlanC w0 W B a1 a2 a3 a4 a5 k1 k2 k3 k4 k5 r L best → L.take p.length = p → noBetter best (waitingOf p) = true →
      Calls Tryz.prog 69 #[.int .i64 (p.length : Int), .int .i64 (waitingOf p : Int), .pointer (some ⟨B.bf, 0, none⟩), .pointer (some ⟨B.bwt, 0, none⟩), .pointer (some ⟨B.bp, 0, none⟩), .pointer (some ⟨B.bwr, 0, none⟩), .pointer (some ⟨B.bx, 0, none⟩), .pointer (some ⟨B.bmy, 0, none⟩), .pointer (some ⟨B.bn, 0, none⟩)] W (NextPost w0 W B a1 a2 a3 a4 a5 k1 k2 k3 k4 k5 r p (dfs r (seTruths r []) j p best)) := by
    intro j p L best W h hL hq
    cases best with
    | none => exact absurd hq (by simp [noBetter])
    | some q => exact SNext_no j p q L W h hL (by simpa [noBetter] using hq)
  intro j
  induction j with
  | zero =>
    intro p L best W hp h hL
    by_cases hq : noBetter best (waitingOf p) = true
    · exact N 0 p L best W h hL hq
    · have hq2 : noBetter best (waitingOf p) = false := by simpa using hq
      have e : dfs r (seTruths r []) 0 p best = some p := by rw [dfs, if_neg hq]
      rw [e]
      exact SNext_end p L best W hm hv (by omega) h hL hq2
  | succ j ih =>
    intro p L best W hp h hL
    by_cases hq : noBetter best (waitingOf p) = true
    · exact N (j + 1) p L best W h hL hq
    · exact SNext_step hm hv j ih p L best W hp h hL (by simpa using hq)

theorem results_cells2 {fn : Func} {p q u : Tmp} {ty tz : TypeId} (h : fn.results = #[.cell p ty, .cell q tz, .tmp u]) (tmps : Array Value) (P : Program) (w : World) :
    (results fn tmps).run P w =
      ((asAddr (tmps.getD p undef)).run P w).andThen fun a w₁ => ((loadVar ty a).run P w₁).andThen fun x w₂ => ((asAddr (tmps.getD q undef)).run P w₂).andThen fun b w₃ => ((loadVar tz b).run P w₃).andThen fun y w₄ => .ok (.tuple #[x, y, tmps.getD u undef]) w₄ := by
  simp only [results, h]
  simp [Sem.run_bind, Result.andThen]
theorem store_fn (P : Program) (w : World) (a : Addr) (m : Mode) (fn : Fn) (first captured : Array Value) : (store a (.func fn first captured) m).run P w = stored P w a (.func fn first captured) m := run_store P w a _ m rfl
attribute [local go_sem] store_fn
theorem zeros_made (n : Nat) (h : n ≤ 4) : madeCells #[Value.int .i64 0] n = ((List.replicate n (0 : Int)).map (Value.int .i64)).toArray := by
  unfold madeCells
  apply Array.ext
  · simp
  · intro i h1 h2
    simp [Nat.mod_one]
theorem plan_no {r : SeRoom} (h : planErr r ≠ 0) : planOf r = ([], 0, planErr r) := by unfold planOf; rw [if_neg h]
theorem plan_none {r : SeRoom} (h : planErr r = 0) (h2 : bestPlan r (seTruths r []) = none) : planOf r = ([], 0, 9) := by unfold planOf; rw [if_pos h, h2]
theorem plan_some {r : SeRoom} (h : planErr r = 0) {q : List Int} (h2 : bestPlan r (seTruths r []) = some q) : planOf r = (q, (waitingOf q : Int), 0) := by unfold planOf; rw [if_pos h, h2]
theorem plan_valid {r : SeRoom} (h : planErr r = 0) : SeValid r := by
  unfold planErr knownErr at h
  by_cases h2 : seErr r = 0
  · exact seValid_of h2
  · rw [if_neg h2] at h; exact absurd h h2

set_option maxRecDepth 100000 in
set_option maxHeartbeats 4000000 in
theorem SPlanF_any (a1 a2 a3 a4 a5 : Option Addr) (k1 k2 k3 k4 k5 : Nat) (r : SeRoom) (w : World) (hm : RoomC w a1 a2 a3 a4 a5 k1 k2 k3 k4 k5 r) :
    Calls Tryz.prog 37 #[(.agg #[.slice a1 r.writers.length k1, .slice a2 r.kept.length k2, .slice a3 r.leaks.length k3, .slice a4 r.letters.length k4, .slice a5 r.heard.length k5])] w fun e w' => ∃ v, e = .returned (.tuple #[v, .int .i64 (planOf r).2.1, .int .i64 (planOf r).2.2]) ∧ IntsV w' v (planOf r).1 ∧ Below w.heap.size w w' := by
  have l4 := hm.ok4.len
  obtain ⟨X, hX⟩ : ∃ X : World, X = (((w.alloc (.cells #[.slice a1 r.writers.length k1, .slice a2 r.kept.length k2, .slice a3 r.leaks.length k3, .slice a4 r.letters.length k4, .slice a5 r.heard.length k5] 28)).alloc (.cells #[.slice none 0 0] 23)).alloc (.cells #[.int .i64 0] 3)) := ⟨_, rfl⟩
  have hXs : X.heap.size = w.heap.size + 1 + 1 + 1 := by rw [hX]; simp
  have hXb : Below w.heap.size w X := by rw [hX]; exact (by (repeat' (first | assumption | exact Below.refl _ _ | refine below_drew' ?_ | refine Below.setCell ?_ (by first | omega | (simp <;> omega)) _ | refine Below.alloc ?_ (by first | omega | (simp <;> omega)) _)))
  have hX0 : X.heap[w.heap.size]? = some (.cells #[.slice a1 r.writers.length k1, .slice a2 r.kept.length k2, .slice a3 r.leaks.length k3, .slice a4 r.letters.length k4, .slice a5 r.heard.length k5] 28 (0, 0)) := by rw [hX]; exact (heap_alloc_old _ _ (by simp <;> omega)).trans ((heap_alloc_old _ _ (by simp)).trans (alloc_at _ _ rfl))
  have hX1 : X.heap[w.heap.size + 1]? = some (.cells #[.slice none 0 0] 23 (0, 0)) := by rw [hX]; exact (heap_alloc_old _ _ (by simp)).trans (alloc_at _ _ (by simp))
  have hX2 : X.heap[w.heap.size + 1 + 1]? = some (.cells #[.int .i64 0] 3 (0, 0)) := by rw [hX]; exact alloc_at _ _ (by simp)
  have EN := SEnter_any a1 a2 a3 a4 a5 k1 k2 k3 k4 k5 r 0 none [] 0 X (hm.mono hXb) ⟨by simp, by omega, fun _ => rfl⟩ (IntsC.nil _ _) (by simp) (by simp) (fun j h => by simp at h)
  rw [enterErr_none, List.length_nil] at EN
  change Calls _ _ _ _ (fun e w' => ∃ v, e = .returned (.tuple #[v, .int .i64 (planErr r)]) ∧ EnterV _ w' v (planErr r) a1 a2 a3 a4 a5 k1 k2 k3 k4 k5 r ∧ Below _ _ w') at EN
  have HV := Lib.hid (fun h : planErr r = 0 => plan_valid h)
  have HNO := Lib.hid (fun h => plan_no (r := r) h)
  have HNN := Lib.hid (fun h h2 => plan_none (r := r) h h2)
  have HNS := Lib.hid (fun h q h2 => plan_some (r := r) h (q := q) h2)
  generalize planOf r = res at HNO HNN HNS ⊢
  generalize planErr r = er at EN HV HNO HNN HNS
  have EN := Lib.hid EN
  go_enter Tryz.func37, Tryz.ntmps37
  go_upto_region 1 with (fail)
  rw [← hX]
  clear hX
  have x0 := blk_cell 0 hX0 rfl
  have x1 := blk_cell 1 hX0 rfl
  have x2 := blk_cell 2 hX0 rfl
  have x3 := blk_cell 3 hX0 rfl
  have x4 := blk_cell 4 hX0 rfl
  simp only [List.getElem_toArray, List.getElem_cons_zero, List.getElem_cons_succ] at x0 x1 x2 x3 x4
  have xz := lt_of_block hX0
  by_cases her : er = 0
  · have HER := Lib.hid her
    have hv := HV.out her
    have vt := hv.nt
    have g1 := nei_f her
    clear her HV HNO
    replace hXs := Lib.hid hXs
    go_upto_region 5 with (go_at_call 23; go_must ((with_reducible refine EN.out.mono ?_); rintro e w3 ⟨v3, rfl, h3, hb3⟩; obtain ⟨bm, bo, rfl, hR, hbo⟩ := h3.1 HER.out; dsimp only))
    obtain ⟨Y4, hY4⟩ : ∃ Y4 : World, Y4 = w3.alloc (.cells #[.func (.func 47) #[.pointer (some ⟨bm, 0, none⟩)] #[]] 47) := ⟨_, rfl⟩
    rw [← hY4]
    have h4s : Y4.heap.size = w3.heap.size + 1 := by rw [hY4]; simp
    have h4b : Below w3.heap.size w3 Y4 := by rw [hY4]; exact (Below.refl _ _).alloc (Nat.le_refl _) _
    have h4m : Y4.heap[w3.heap.size]? = some (.cells #[.func (.func 47) #[.pointer (some ⟨bm, 0, none⟩)] #[]] 47 (0, 0)) := by rw [hY4]; exact alloc_at _ _ rfl
    clear hY4 x0 x1 x2 x3 x4 xz
    have hb4 : Below X.heap.size X Y4 := hb3.trans (h4b.mono hb3.size)
    have h40 := (hb4.block _ (lt_of_block hX0)).trans hX0
    have h41 := (hb4.block _ (lt_of_block hX1)).trans hX1
    have h42 := (hb4.block _ (lt_of_block hX2)).trans hX2
    have x3 := blk_cell 3 h40 rfl
    simp only [List.getElem_toArray, List.getElem_cons_zero, List.getElem_cons_succ] at x3
    have xz := lt_of_block h40
    obtain ⟨i, hi, hz, hsz, hby⟩ := info_parts E_int.info
    replace h4s := Lib.hid h4s
    go_upto_region 9 with (refine wpList_make_row _ rfl (.tmp 22) (.tmp 22) _ rfl 3 i (.int .i64 0) E_int.und hi hz hsz rfl .i64 .i64 r.letters.length rfl rfl (by rw [hby]; omega) (by omega) ?_; go_frame)
    obtain ⟨N, hN⟩ : ∃ N : World, N = (((Y4.alloc (.cells (madeCells #[Value.int .i64 0] r.letters.length) 3)).alloc (.cells #[.slice (some ⟨Y4.heap.size, 0, none⟩) r.letters.length r.letters.length] 23)).alloc (.cells #[.bool false] 4)).alloc (.cells #[.func (.func 69) #[] #[.pointer (some ⟨Y4.heap.size + 1 + 1, 0, none⟩), .pointer (some ⟨w.heap.size + 1 + 1, 0, none⟩), .pointer (some ⟨Y4.heap.size + 1, 0, none⟩), .pointer (some ⟨w.heap.size + 1, 0, none⟩), .pointer (some ⟨w.heap.size, 0, none⟩), .pointer (some ⟨w3.heap.size, 0, none⟩), .pointer (some ⟨Y4.heap.size + 1 + 1 + 1, 0, none⟩)]] 123) := ⟨_, rfl⟩
    rw [← hN]
    have hNb : Below Y4.heap.size Y4 N := by rw [hN]; exact (by (repeat' (first | assumption | exact Below.refl _ _ | refine below_drew' ?_ | refine Below.setCell ?_ (by first | omega | (simp <;> omega)) _ | refine Below.alloc ?_ (by first | omega | (simp <;> omega)) _)))
    have n0 : N.heap[Y4.heap.size]? = some (.cells (madeCells #[Value.int .i64 0] r.letters.length) 3 (0, 0)) := by rw [hN]; exact (heap_alloc_old _ _ (by simp <;> omega)).trans ((heap_alloc_old _ _ (by simp <;> omega)).trans ((heap_alloc_old _ _ (by simp <;> omega)).trans (alloc_at _ _ rfl)))
    have n1 : N.heap[Y4.heap.size + 1]? = some (.cells #[.slice (some ⟨Y4.heap.size, 0, none⟩) r.letters.length r.letters.length] 23 (0, 0)) := by rw [hN]; exact (heap_alloc_old _ _ (by simp <;> omega)).trans ((heap_alloc_old _ _ (by simp <;> omega)).trans (alloc_at _ _ (by simp)))
    have n2 : N.heap[Y4.heap.size + 1 + 1]? = some (.cells #[.bool false] 4 (0, 0)) := by rw [hN]; exact (heap_alloc_old _ _ (by simp <;> omega)).trans (alloc_at _ _ (by simp))
    have n3 : N.heap[Y4.heap.size + 1 + 1 + 1]? = some (.cells #[.func (.func 69) #[] #[.pointer (some ⟨Y4.heap.size + 1 + 1, 0, none⟩), .pointer (some ⟨w.heap.size + 1 + 1, 0, none⟩), .pointer (some ⟨Y4.heap.size + 1, 0, none⟩), .pointer (some ⟨w.heap.size + 1, 0, none⟩), .pointer (some ⟨w.heap.size, 0, none⟩), .pointer (some ⟨w3.heap.size, 0, none⟩), .pointer (some ⟨Y4.heap.size + 1 + 1 + 1, 0, none⟩)]] 123 (0, 0)) := by rw [hN]; exact alloc_at _ _ (by simp)
    clear hN
    have e4 := h4s.out
    have eX := hXs.out
    have z3 := hb3.size
    have hbml := hR.bm_lt
    have hbol := hR.bo_lt
    have hRN := hR.below (h4b.trans (hNb.mono h4b.size))
    have y1 := (hb3.block _ (lt_of_block hX1)).trans hX1
    have y2 := (hb3.block _ (lt_of_block hX2)).trans hX2
    have m1 : w.heap.size + 1 ≠ bm := fun e => by
      have := hR.blk
      unfold RBlk at this
      rw [← e, y1] at this
      simp at this
    have m2 : w.heap.size + 1 + 1 ≠ bm := fun e => by
      have := hR.blk
      unfold RBlk at this
      rw [← e, y2] at this
      simp at this
    have hbN : Below w.heap.size w N := hXb.trans ((hb4.trans (hNb.mono hb4.size)).mono hXb.size)
    have hPC : PlanC w N ⟨bm, bo, w.heap.size, w.heap.size + 1, w.heap.size + 1 + 1, w3.heap.size, Y4.heap.size, Y4.heap.size + 1, Y4.heap.size + 1 + 1, Y4.heap.size + 1 + 1 + 1⟩ a1 a2 a3 a4 a5 k1 k2 k3 k4 k5 r (List.replicate r.letters.length 0) none := by
      refine ⟨⟨hRN, hbN⟩, ?_, (hNb.block _ (lt_of_block h40)).trans h40, ⟨_, (hNb.block _ (lt_of_block h41)).trans h41, rfl⟩, (hNb.block _ (lt_of_block h42)).trans h42, (hNb.block _ (lt_of_block h4m)).trans h4m, ?_, by simp, n1, n2, n3⟩
      · unfold PlB.ok
        simp only
        omega
      · unfold BlkI
        rw [← zeros_made _ vt]
        exact n0
    have hI := SNext_any hm hv r.letters.length [] (List.replicate r.letters.length 0) none N (by simp) hPC rfl
    rw [← bestPlan_dfs] at hI
    change Calls Tryz.prog 69 #[.int .i64 0, .int .i64 0, .pointer (some ⟨Y4.heap.size + 1 + 1, 0, none⟩), .pointer (some ⟨w.heap.size + 1 + 1, 0, none⟩), .pointer (some ⟨Y4.heap.size + 1, 0, none⟩), .pointer (some ⟨w.heap.size + 1, 0, none⟩), .pointer (some ⟨w.heap.size, 0, none⟩), .pointer (some ⟨w3.heap.size, 0, none⟩), .pointer (some ⟨Y4.heap.size + 1 + 1 + 1, 0, none⟩)] N _ at hI
    have c9 := blk_cell 0 n3 rfl
    simp only [List.getElem_toArray, List.getElem_cons_zero, List.getElem_cons_succ] at c9
    have z9 := lt_of_block n3
    have HNN2 := Lib.hid (HNN.out HER.out)
    have HNS2 := Lib.hid (HNS.out HER.out)
    clear HNN HNS
    generalize bestPlan r (seTruths r []) = best at hI HNN2 HNS2
    replace hI := Lib.hid hI
    clear hPC n0 n1 n2 n3 hNb hbN x3 xz h40 h41 h42 h4m y1 y2 hX0 hX1 hX2 hRN
    have m3 : w.heap.size + 1 ≠ w.heap.size + 1 + 1 := by omega
    have m4 : w.heap.size + 1 + 1 ≠ w.heap.size + 1 := by omega
    have hw1 : w.heap.size + 1 + 1 < Y4.heap.size := by omega
    clear e4 eX m1 m2
    go_upto_region 10 with (go_at_call 69; go_must ((with_reducible refine hI.out.mono ?_); rintro e w5 ⟨⟨v5, rfl⟩, ⟨L5, hP5, -⟩, hF5⟩; dsimp only))
    cases best with
    | none =>
      have hr := Lib.hid (HNN2.out rfl)
      have q0 : w5.cell? ⟨Y4.heap.size + 1 + 1, 0, none⟩ = some (.bool false) := blk_cell 0 hP5.f rfl
      obtain ⟨v, y1, rfl⟩ := hP5.wr
      have y2 := hP5.wt
      simp only at y1 y2
      have q1 := blk_cell 0 y1 rfl
      have q2 := blk_cell 0 y2 rfl
      have f1 := blk_free 0 y1
      have f2 := blk_free 0 y2
      have z0 := lt_of_cell q0
      have z1 := lt_of_block y1
      have z2 := lt_of_block y2
      simp only [List.getElem_toArray, List.getElem_cons_zero, List.getElem_cons_succ] at q1 q2
      have hbw := hP5.keep.2
      clear hP5 hF5 y1 y2
      go_wp2
      (try simp only [Exit.inBlock, Exit.then])
      refine bodyPost_ret (v := .tuple #[.slice none 0 0, .int .i64 0, .int .i64 9]) ?_ rfl ⟨.slice none 0 0, ?_, ?_, ?_⟩
      · rw [results_cells2 rfl]
        go_simp
      · rw [hr.out]
      · rw [hr.out]
        exact ⟨none, 0, rfl, ⟨by simp, by omega, fun _ => rfl⟩, IntsC.nil _ _⟩
      · exact (hbw.setCell (by simp) _).setCell (by simp; omega) _
    | some q =>
      have hr := Lib.hid (HNS2.out q rfl)
      have q0 : w5.cell? ⟨Y4.heap.size + 1 + 1, 0, none⟩ = some (.bool true) := blk_cell 0 hP5.f rfl
      obtain ⟨v, y1, g, rfl, hgq, hgl, hgb⟩ := hP5.wr
      have y2 := hP5.wt
      simp only [waitCell] at y1 y2
      simp only at hgb
      have q1 := blk_cell 0 y1 rfl
      have q2 := blk_cell 0 y2 rfl
      have f1 := blk_free 0 y1
      have f2 := blk_free 0 y2
      have z0 := lt_of_cell q0
      have z1 := lt_of_block y1
      have z2 := lt_of_block y2
      simp only [List.getElem_toArray, List.getElem_cons_zero, List.getElem_cons_succ] at q1 q2
      have hbw := hP5.keep.2
      have hg1 : g ≠ w.heap.size + 1 := by omega
      have hg2 : g ≠ w.heap.size + 1 + 1 := by omega
      have HGI : Hid (∀ V : World, V.heap[g]? = w5.heap[g]? → IntsV V (.slice (some ⟨g, 0, none⟩) r.letters.length r.letters.length) q) := Lib.hid (fun V h => ⟨some ⟨g, 0, none⟩, r.letters.length, by rw [hgl], ⟨by rw [hgl]; simp, by omega, by simp⟩, blkI_ints (hgq.same h)⟩)
      clear hP5 hF5 y1 y2 hgq
      go_upto_region 12 with (fail)
      (focus go_region)
      all_goals
        go_wp2
        (try simp only [Exit.inBlock, Exit.then])
        refine bodyPost_ret (v := .tuple #[.slice (some ⟨g, 0, none⟩) r.letters.length r.letters.length, .int .i64 (waitingOf q : Int), .int .i64 0]) ?_ rfl ⟨.slice (some ⟨g, 0, none⟩) r.letters.length r.letters.length, ?_, ?_, ?_⟩
        · rw [results_cells2 rfl]
          go_simp
        · rw [hr.out]
        · rw [hr.out]
          refine HGI.out _ ?_
          (repeat' (first | rfl | rw [drew_heap] | rw [Below.heap_setCell _ _ _ _ hg1] | rw [Below.heap_setCell _ _ _ _ hg2]))
        · exact (by (repeat' (first | assumption | exact Below.refl _ _ | refine below_drew' ?_ | refine Below.setCell ?_ (by first | omega | (simp <;> omega)) _ | refine Below.alloc ?_ (by first | omega | (simp <;> omega)) _)))
  · have HER := Lib.hid her
    have g1 := nei_t her
    replace HNO := Lib.hid (HNO.out her)
    clear her HV HNN HNS
    replace hXs := Lib.hid hXs
    go_upto_region 3 with (go_at_call 23; go_must ((with_reducible refine EN.out.mono ?_); rintro e w3 ⟨v3, rfl, h3, hb3⟩; obtain rfl := h3.2 HER.out; dsimp only))
    have y1 := (hb3.block _ (lt_of_block hX1)).trans hX1
    have y2 := (hb3.block _ (lt_of_block hX2)).trans hX2
    have q1 := blk_cell 0 y1 rfl
    have q2 := blk_cell 0 y2 rfl
    have f1 := blk_free 0 y1
    have f2 := blk_free 0 y2
    have z1 := lt_of_block y1
    have z2 := lt_of_block y2
    have hbw := hXb.trans (hb3.mono hXb.size)
    clear x0 x1 x2 x3 x4 xz hX0 hX1 hX2
    go_wp2
    (try simp only [Exit.inBlock, Exit.then])
    refine bodyPost_ret (v := .tuple #[.slice none 0 0, .int .i64 0, .int .i64 er]) ?_ rfl ⟨.slice none 0 0, ?_, ?_, ?_⟩
    · rw [results_cells2 rfl]
      go_simp
    · rw [HNO.out]
    · rw [HNO.out]
      exact ⟨none, 0, rfl, ⟨by simp, by omega, fun _ => rfl⟩, IntsC.nil _ _⟩
    · exact (hbw.setCell (by simp) _).setCell (by simp; omega) _
end Go.Proofs.YtcgplocmncionaaGreat
