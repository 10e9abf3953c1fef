/- What is proved here: what the moves of Best's plan are when put into rows: plain facts, and the rows in memory. No condition. -/
/- What is proved here: the contract of Best. Condition: the hall lies in memory. -/
/- What is proved here: how plans lie in memory: slices of slices of slices of ints, the blocks by their types; a growing slice of plans. No condition. -/
import Derived.Test.YtelmponkmmfffaaGreatDeBest2G
import Derived.Deep.OwnRows
import Derived.Test.YtelmponkmmfffaaGreatDrHG
set_option linter.unusedVariables false
set_option linter.unusedSimpArgs false
namespace Go.Proofs.YtelmponkmmfffaaGreat
open Go Go.RowKit Go.Shelf

theorem place_len (s : List (List Int) × Nat) (c : Int) : (placeStep s c).1.length = s.1.length := by
  unfold placeStep
  split <;> simp
theorem place_fold_len : ∀ (l : List Int) (s : List (List Int) × Nat), (l.foldl placeStep s).1.length = s.1.length
  | [], _ => rfl
  | c :: l, s => by rw [List.foldl_cons, place_fold_len l, place_len]
theorem place_fold_two : ∀ (l : List Int) (s : List (List Int) × Nat), (l.foldl placeStep s).2 = s.2 + l.countP fun c => decide (c < 0)
  | [], _ => rfl
  | c :: l, s => by
    rw [List.foldl_cons, place_fold_two l, List.countP_cons]
    unfold placeStep
    by_cases hc : c < 0
    · rw [if_pos hc]; simp [hc]; omega
    · rw [if_neg hc]; simp [hc]
theorem place_short (m : Nat) (s : List (List Int) × Nat) (c : Int) (h : ∀ r ∈ s.1, r.length ≤ m) : ∀ r ∈ (placeStep s c).1, r.length ≤ m + 1 := by
  unfold placeStep
  split
  · intro r hr; have := h r hr; omega
  · intro r hr
    rw [List.mem_iff_getElem] at hr
    obtain ⟨i, hi, rfl⟩ := hr
    have hi2 : i < s.1.length := by simpa using hi
    simp only [List.getElem_modify]
    have := h _ (List.getElem_mem hi2)
    split
    · rw [List.length_append]; simp only [List.length_cons, List.length_nil]; omega
    · omega
theorem place_fold_short : ∀ (l : List Int) (m : Nat) (s : List (List Int) × Nat), (∀ r ∈ s.1, r.length ≤ m) → ∀ r ∈ (l.foldl placeStep s).1, r.length ≤ m + l.length
  | [], _, _, h => h
  | c :: l, m, s, h => by
    rw [List.foldl_cons, List.length_cons]
    intro r hr
    have := place_fold_short l (m + 1) (placeStep s c) (place_short m s c h) r hr
    omega
theorem seq_last : ∀ (q : List (List Int)), q ≠ [] → (seqOf q).getLast? = some (-1)
  | [], h => absurd rfl h
  | [l], _ => by rw [seqOf_cons]; simp [seqOf]
  | l :: l2 :: q, _ => by
    rw [seqOf_cons]
    have := seq_last (l2 :: q) (by simp)
    have hne : seqOf (l2 :: q) ≠ [] := by intro e; rw [e] at this; cases this
    rw [List.getLast?_append, List.getLast?_cons]
    simp [this]
/-- Where the plan stands after k moves. -/
def placeAt (q : List (List Int)) (k : Nat) : List (List Int) × Nat := ((seqOf q).take k).foldl placeStep (List.replicate q.length [], 0)
theorem placeAt_zero (q : List (List Int)) : placeAt q 0 = (List.replicate q.length [], 0) := by simp [placeAt]
theorem placeAt_succ (q : List (List Int)) {k : Nat} (hk : k < (seqOf q).length) : placeAt q (k + 1) = placeStep (placeAt q k) (seqOf q)[k] := by
  unfold placeAt
  rw [List.take_succ_eq_append_getElem hk, List.foldl_append]
  rfl
theorem placeAt_all (q : List (List Int)) (hq : ∀ c ∈ q.flatten, 0 ≤ c) : placeAt q (seqOf q).length = (q, q.length) := by
  unfold placeAt
  rw [List.take_of_length_le (Nat.le_refl _)]
  have := place_seq q [] hq
  simpa using this
theorem placeAt_len (q : List (List Int)) (k : Nat) : (placeAt q k).1.length = q.length := by
  unfold placeAt
  rw [place_fold_len]
  simp
theorem placeAt_short (q : List (List Int)) (k : Nat) : ∀ r ∈ (placeAt q k).1, r.length ≤ k := by
  intro r hr
  have := place_fold_short ((seqOf q).take k) 0 _ (fun r hr => by have := List.eq_of_mem_replicate hr; subst this; simp) r hr
  simp only [List.length_take] at this
  omega
theorem placeAt_lt (q : List (List Int)) (hq : ∀ c ∈ q.flatten, 0 ≤ c) {k : Nat} (hk : k < (seqOf q).length) (hc : 0 ≤ (seqOf q)[k]) : (placeAt q k).2 < q.length := by
  have hne : q ≠ [] := by rintro rfl; simp [seqOf] at hk
  have h1 := congrArg Prod.snd (placeAt_all q hq)
  unfold placeAt at h1
  rw [List.take_of_length_le (Nat.le_refl _), place_fold_two] at h1
  have h2 : (placeAt q k).2 = ((seqOf q).take k).countP fun c => decide (c < 0) := by unfold placeAt; rw [place_fold_two]; simp
  rw [h2]
  have h3 : (seqOf q).countP (fun c => decide (c < 0)) = ((seqOf q).take k).countP (fun c => decide (c < 0)) + ((seqOf q).drop k).countP fun c => decide (c < 0) := by
    rw [← List.countP_append, List.take_append_drop]
  have h4 : 0 < ((seqOf q).drop k).countP fun c => decide (c < 0) := by
    rw [List.countP_pos_iff]
    refine ⟨-1, ?_, by decide⟩
    have hl := seq_last q hne
    rw [← List.take_append_drop k (seqOf q), List.getLast?_append] at hl
    have hdn : (seqOf q).drop k ≠ [] := by simp; omega
    cases e : ((seqOf q).drop k).getLast? with
    | none => exact absurd (List.getLast?_eq_none_iff.1 e) hdn
    | some z =>
      rw [e] at hl
      have hz : z = -1 := by simpa using hl
      rw [← hz]
      exact List.mem_of_getLast? e
  simp only [Nat.zero_add] at h1
  omega
theorem placeAt_two_le (q : List (List Int)) (k : Nat) : (placeAt q k).2 ≤ k := by
  unfold placeAt
  rw [place_fold_two]
  have := List.countP_le_length (p := fun c => decide (c < 0)) (l := (seqOf q).take k)
  have h2 : ((seqOf q).take k).length ≤ k := by simp [List.length_take]; omega
  omega

/-- The rows under way: the row of cells at G, each its own slice. -/
structure PlI (W : World) (G : Nat) (vs : List Value) (rows : List (List Int)) : Prop where
  len : vs.length = rows.length
  blk : W.heap[G]? = some (.cells vs.toArray 35 (0, 0))
  own : ∀ i (h1 : i < vs.length) (h2 : i < rows.length), W.ownsRow (G + 1) 3 1 vs[i] rows[i].length (rows[i].map (Value.int .i64))
  off : ∀ i j (h1 : i < vs.length) (h2 : j < vs.length), i ≠ j → vs[i].ownBlock = none ∨ vs[i].ownBlock ≠ vs[j].ownBlock
theorem PlI.start {W : World} {G n : Nat} (h : W.heap[G]? = some (.cells (madeCells #[.slice none 0 0] n) 35 (0, 0))) : PlI W G (List.replicate n (.slice none 0 0)) (List.replicate n []) := by
  refine ⟨by simp, ?_, fun i h1 h2 => ?_, fun i j h1 h2 _ => .inl ?_⟩
  · rw [h]
    congr 2
    unfold madeCells
    apply Array.ext
    · simp
    · intro i h1 h2
      simp [Nat.mod_one]
  · simp only [List.getElem_replicate, List.length_nil, List.map_nil]
    exact World.ownsRow_nil _ _ _ _
  · simp only [List.getElem_replicate]
    rfl
theorem PlI.alloc {W : World} {G : Nat} {vs : List Value} {rows : List (List Int)} (k : PlI W G vs rows) (o : Obj) : PlI (W.alloc o) G vs rows :=
  ⟨k.len, (heap_alloc_old _ _ (Array.getElem?_eq_some_iff.1 k.blk).1).trans k.blk, fun i h1 h2 => (k.own i h1 h2).alloc o, k.off⟩
theorem PlI.same {W W' : World} {G : Nat} {vs : List Value} {rows : List (List Int)} (k : PlI W G vs rows) (h : ∀ b, G ≤ b → W'.heap[b]? = W.heap[b]?) : PlI W' G vs rows := by
  refine ⟨k.len, (h G (Nat.le_refl _)).trans k.blk, fun i h1 h2 => ?_, k.off⟩
  have ho := k.own i h1 h2
  refine ⟨ho.1, ?_⟩
  rcases ho.2 with e | ⟨g, cap, cur, e1, e2, e3, e4⟩
  · exact .inl e
  · exact .inr ⟨g, cap, cur, e1, e2, (h g (by omega)).trans e3, e4⟩
theorem PlI.app {A W W' : World} {G : Nat} {vs : List Value} {rows : List (List Int)} {j : Nat} {v' : Value} {c : Int} (k : PlI W G vs rows) (hj : j < vs.length) (hj2 : j < rows.length) (hW : W = A.alloc (.cells #[.int .i64 c] 3)) (hA : PlI A G vs rows)
    (hn : W'.ownsRow (G + 1) 3 1 v' (rows[j].length + 1) (rows[j].map (Value.int .i64) ++ [.int .i64 c])) (hg : W.grownBy W' vs[j].ownBlock) (hat : v'.ownBlock = vs[j].ownBlock ∨ v'.ownBlock = some W.heap.size) :
    PlI (W'.setCell ⟨G, j, none⟩ v') G (vs.set j v') (rows.modify j (· ++ [c])) := by
  have hGW := (Array.getElem?_eq_some_iff.1 k.blk).1
  have hG' : W'.heap[G]? = some (.cells vs.toArray 35 (0, 0)) := (hg.block _ hGW (fun e => by have := ((k.own j hj hj2).lt _ e.symm).1; omega)).trans k.blk
  refine ⟨by simp [k.len], ?_, fun i h1 h2 => ?_, fun i l h1 h2 hne => ?_⟩
  · rw [blk_set j _ hG']
    simp
  · have h1' : i < vs.length := by simpa using h1
    have h2' : i < rows.length := by simpa using h2
    simp only [List.getElem_set, List.getElem_modify]
    by_cases e : j = i
    · subst e
      rw [if_pos rfl, if_pos rfl, List.length_append, List.map_append]
      exact ownsRow_setCell_other hn (fun e => by have := (hn.lt _ e).1; simp only at this; omega) _
    · rw [if_neg e, if_neg e]
      refine ownsRow_setCell_other ((k.own i h1' h2').kept hg (k.off i j h1' hj (fun e2 => e e2.symm))) (fun e => by have := ((k.own i h1' h2').lt _ e).1; simp only at this; omega) _
  · have h1' : i < vs.length := by simpa using h1
    have h2' : l < vs.length := by simpa using h2
    have hlt : ∀ i (h : i < vs.length), ∀ b, vs[i].ownBlock = some b → b < W.heap.size := fun i h b e => ((k.own i h (by rw [← k.len]; exact h)).lt b e).2
    simp only [List.getElem_set]
    by_cases e1 : j = i
    · subst e1
      rw [if_pos rfl, if_neg hne]
      rcases hat with e | e
      · rw [e]; exact k.off j l h1' h2' hne
      · refine .inr fun e2 => ?_
        rw [e] at e2
        have := hlt l h2' _ e2.symm
        omega
    · rw [if_neg e1]
      by_cases e2 : j = l
      · subst e2
        rw [if_pos rfl]
        rcases hat with e | e
        · rw [e]; exact k.off i j h1' h2' hne
        · refine .inr fun e3 => ?_
          rw [e] at e3
          have := hlt i h1' _ e3
          omega
      · rw [if_neg e2]; exact k.off i l h1' h2' hne
theorem PlI.rows {W : World} {G : Nat} {vs : List Value} {rows : List (List Int)} (k : PlI W G vs rows) (n c : Nat) (hn : n = rows.length) (hc : n ≤ c ∧ c ≤ 9223372036854775807) : RowsV W (.slice (some ⟨G, 0, none⟩) n c) rows := by
  subst hn
  refine ⟨_, c, rfl, ⟨hc.1, hc.2, fun e => by cases e⟩, fun i hi => ?_⟩
  have hi' : i < vs.length := by rw [k.len]; exact hi
  obtain ⟨a, c', e1, e2, e3⟩ := IntsV.of_own (k.own i (by rw [k.len]; exact hi) hi)
  refine ⟨G, 0, a, c', rfl, (Array.getElem?_eq_some_iff.1 k.blk).1, ?_, e2, e3⟩
  have hb := blk_cell i k.blk (show vs.toArray[i]? = some vs[i] from by simp [k.len, hi])
  rw [e1] at hb
  simpa using hb
end Go.Proofs.YtelmponkmmfffaaGreat
namespace Go.Proofs.YtelmponkmmfffaaGreat
open Go Go.RowKit Go.Shelf
attribute [local go_sem] store_fnD
attribute [local go_sem] Oper.semAt_some
theorem results_tct {fn : Func} {p q u : Tmp} {tz : TypeId} (h : fn.results = #[.tmp p, .cell q tz, .tmp u]) (tmps : Array Value) (P : Program) (w : World) :
    (results fn tmps).run P w =
      ((asAddr (tmps.getD q undef)).run P w).andThen fun b w₃ => ((loadVar tz b).run P w₃).andThen fun y w₄ => .ok (.tuple #[tmps.getD p undef, y, tmps.getD u undef]) w₄ := by
  simp only [results, h]
  simp [Sem.run_bind, Result.andThen]
theorem left_le {h : DeH} (hv : DeValid h) (x : DeSt) : leftD h x ≤ 8 := by
  unfold leftD
  have := List.countP_le_length (p := fun c => !x.done.testBit c) (l := List.range h.customers.length)
  have h1 := hv.nw
  have h2 := hv.nc
  simp only [List.length_range] at this
  omega
theorem overB_ge {h : DeH} (wm cm : Nat) : -1 ≤ overB h wm cm := over_ge (h := h) (wm := wm) (cm := cm) (x := beginD h) (Nat.zero_le _)
set_option maxRecDepth 100000 in
set_option maxHeartbeats 8000000 in
theorem DBest_any (aw ac : Option Addr) (kw kc : Nat) (h : DeH) (w : World) (hm : HallC w aw ac kw kc h) :
    Calls Tryz.prog 12 #[(.agg #[.int .i64 h.wax, .slice aw h.writers.length kw, .slice ac h.customers.length kc])] w fun e w' => ∃ v, e = .returned (.tuple #[v, .int .i64 (deBest h).2.1, .int .i64 (deBest h).2.2]) ∧ RowsV w' v (deBest h).1 ∧ Below w.heap.size w w' := by
  obtain ⟨Q, hQ⟩ : ∃ Q : World, Q = (w.alloc (.cells #[.int .i64 h.wax, .slice aw h.writers.length kw, .slice ac h.customers.length kc] 28)).alloc (.cells #[.int .i64 0] 3) := ⟨_, rfl⟩
  have hQb : Below w.heap.size w Q := by rw [hQ]; exact (by (repeat' (first | assumption | exact Below.refl _ _ | refine below_drew' ?_ | refine Below.setCell ?_ (by first | omega | (simp <;> omega)) _ | refine Below.alloc ?_ (by first | omega | (simp <;> omega)) _)))
  have hQs : Q.heap.size = w.heap.size + 1 + 1 := by rw [hQ]; simp
  have hQ0 : Q.heap[w.heap.size]? = some (.cells #[.int .i64 h.wax, .slice aw h.writers.length kw, .slice ac h.customers.length kc] 28 (0, 0)) := by rw [hQ]; exact (heap_alloc_old _ _ (by simp)).trans (alloc_at _ _ rfl)
  have hQ1 : Q.heap[w.heap.size + 1]? = some (.cells #[.int .i64 0] 3 (0, 0)) := by rw [hQ]; exact alloc_at _ _ (by simp)
  have CK := DCheck_any aw ac kw kc h Q (hm.mono hQb)
  have HV := Lib.hid (fun h : deErr h = 0 => deValid_of h)
  have HNO := Lib.hid (fun (e : deErr h ≠ 0) => show deBest h = ([], 0, deErr h) by unfold deBest; rw [if_neg e])
  have HNF := Lib.hid (fun (e : deErr h = 0) (hv : DeValid h) (e2 : overB h (fullW h) (fullC h) = -1) => show deBest h = ([], 0, 9) by unfold deBest; rw [if_pos e, best_none hv e2])
  have HFD := Lib.hid (fun (e : deErr h = 0) (hv : DeValid h) (e2 : 0 ≤ overB h (fullW h) (fullC h)) => show ∃ q, PlanOk h h.customers.length q ∧ seqOf q = fD h (fullW h) (fullC h) (overB h (fullW h) (fullC h)) (beginD h) ∧ deBest h = (q, overB h (fullW h) (fullC h), 0) by
    obtain ⟨q, h1, _, h3, h4⟩ := best_some hv e2
    exact ⟨q, h1, h3, by unfold deBest; rw [if_pos e, h4]⟩)
  have e0 : (deCheck h).2.2 = deErr h := rfl
  rw [e0] at CK
  generalize (deCheck h).1 = q1 at CK
  generalize (deCheck h).2.1 = q2 at CK
  obtain ⟨er, her0⟩ : ∃ er, er = deErr h := ⟨_, rfl⟩
  rw [← her0] at CK HV HNO HNF HFD
  clear her0 e0
  generalize deBest h = res at HNO HNF HFD ⊢
  replace CK := Lib.hid CK
  have x0 := blk_cell 0 hQ0 rfl
  have x1 := blk_cell 1 hQ0 rfl
  have x2 := blk_cell 2 hQ0 rfl
  have xz := lt_of_block hQ0
  simp only [List.getElem_toArray, List.getElem_cons_zero, List.getElem_cons_succ] at x0 x1 x2
  replace hQs := Lib.hid hQs
  by_cases her : er = 0
  · have hv := HV.out her
    replace HNF := Lib.hid (HNF.out her hv)
    replace HFD := Lib.hid (HFD.out her hv)
    have g1 := nei_f her
    have hHer := Lib.hid her
    clear her HV HNO
    have hnw := hv.nw
    have hnc := hv.nc
    have hbok := begin_ok hv
    have hlf := left_le hv (beginD h)
    have LK := Lib.hid (fun (W : World) (hb : Below w.heap.size w W) => DLook_any aw ac kw kc h W (hm.mono hb) hv)
    go_enter Tryz.func12, Tryz.ntmps12
    go_upto_region 1 with (fail)
    rw [← hQ]
    clear hQ
    go_upto_region 4 with (go_at_call 52; go_must ((with_reducible refine CK.out.mono ?_); rintro e w2 ⟨rfl, hb2⟩; dsimp only))
    have hw2 : Below w.heap.size w w2 := hQb.trans (hb2.mono hQb.size)
    have h20 := (hb2.block _ (lt_of_block hQ0)).trans hQ0
    have h21 := (hb2.block _ (lt_of_block hQ1)).trans hQ1
    have hz2 := hb2.size
    clear x0 x1 x2 xz
    have x0 := blk_cell 0 h20 rfl
    have x1 := blk_cell 1 h20 rfl
    have x2 := blk_cell 2 h20 rfl
    have xz := lt_of_block h20
    simp only [List.getElem_toArray, List.getElem_cons_zero, List.getElem_cons_succ] at x0 x1 x2
    go_upto_region 7 with (go_at_call 53; go_must ((with_reducible refine (LK.out _ hw2).mono ?_); rintro e w3 ⟨bm, bo, rfl, hK, hb3, hbo, hbm⟩; dsimp only))
    have hz3 := hb3.size
    obtain ⟨Y, hY⟩ : ∃ Y : World, Y = ((w3.alloc (.cells #[.pointer (some ⟨bm, 0, none⟩)] 109)).alloc (.cells #[.slice none 0 0] 35)).alloc (.cells #[.nilFunc] 111) := ⟨_, rfl⟩
    rw [← hY]
    have hYb : Below w3.heap.size w3 Y := by rw [hY]; exact (by (repeat' (first | assumption | exact Below.refl _ _ | refine below_drew' ?_ | refine Below.setCell ?_ (by first | omega | (simp <;> omega)) _ | refine Below.alloc ?_ (by first | omega | (simp <;> omega)) _)))
    have hYs : Y.heap.size = w3.heap.size + 1 + 1 + 1 := by rw [hY]; simp
    have hYh : Y.heap[w3.heap.size]? = some (.cells #[.pointer (some ⟨bm, 0, none⟩)] 109 (0, 0)) := by rw [hY]; exact (heap_alloc_old _ _ (by simp <;> omega)).trans ((heap_alloc_old _ _ (by simp)).trans (alloc_at _ _ rfl))
    have hYa : Y.heap[w3.heap.size + 1]? = some (.cells #[.slice none 0 0] 35 (0, 0)) := by rw [hY]; exact (heap_alloc_old _ _ (by simp)).trans (alloc_at _ _ (by simp))
    have hYf : Y.heap[w3.heap.size + 1 + 1]? = some (.cells #[.nilFunc] 111 (0, 0)) := by rw [hY]; exact alloc_at _ _ (by simp)
    clear hY
    have hb2Y : Below w2.heap.size w2 Y := hb3.trans (hYb.mono hz3)
    have hY0 := (hb2Y.block _ (lt_of_block h20)).trans h20
    have hY1 := (hb2Y.block _ (lt_of_block h21)).trans h21
    have hwY : Below w.heap.size w Y := hw2.trans (hb2Y.mono hw2.size)
    have hYK := hK.below hYb
    have kbm := hK.bm_lt
    have kbo := hK.bo_lt
    have l20 := lt_of_block h20
    have l21 := lt_of_block h21
    have hwz := hw2.size
    clear hb2 hb3 hK h20 h21 hQ0 hQ1 hQb hQs x0 x1 x2 xz hYb hb2Y CK LK hw2
    have BG := Lib.hid (DBegin_any aw ac kw kc h bm bo _ _ Y hYK hv)
    have y0 := blk_cell 0 hYh rfl
    have yz := lt_of_block hYh
    simp only [List.getElem_toArray, List.getElem_cons_zero] at y0
    replace hYs := Lib.hid hYs
    go_upto_region 8 with (go_at_call 54; go_must ((with_reducible refine BG.out.mono ?_); rintro e w4 ⟨rfl, hb4⟩; dsimp only))
    obtain ⟨X, hX⟩ : ∃ X : World, X = w4.alloc (.cells #[.int .i64 ((beginD h).writer : Int), .int .i64 ((beginD h).done : Int), .int .i64 (minuteAt (beginD h) 0), .int .i64 (minuteAt (beginD h) 1), .int .i64 (minuteAt (beginD h) 2)] 115) := ⟨_, rfl⟩
    rw [← hX]
    have hXS : StB X w4.heap.size (beginD h) := by rw [hX]; exact alloc_at _ _ rfl
    have hXb : Below Y.heap.size Y X := by rw [hX]; exact hb4.alloc hb4.size _
    have hXs : X.heap.size = w4.heap.size + 1 := by rw [hX]; simp
    have h4z := hb4.size
    have hXK := hYK.below hXb
    have hX0 := (hXb.block _ (lt_of_block hY0)).trans hY0
    have hX1 := (hXb.block _ (lt_of_block hY1)).trans hY1
    have hXh := (hXb.block _ (lt_of_block hYh)).trans hYh
    have hXa := (hXb.block _ (lt_of_block hYa)).trans hYa
    have hXf := (hXb.block _ (lt_of_block hYf)).trans hYf
    have hwX : Below w.heap.size w X := hwY.trans (hXb.mono hwY.size)
    have eY := hYs.out
    clear hX hb4 hY0 hY1 hYh hYa hYf y0 yz BG hYK hwY hYs hXb
    have y0 := blk_cell 0 hXh rfl
    have yz := lt_of_block hXh
    simp only [List.getElem_toArray, List.getElem_cons_zero] at y0
    have hwmx : fullW h < 8 := by have := two_pow_le3 hnw; have := pow_pred h.writers.length; show 2 ^ _ - 1 < 8; omega
    have hcmx : fullC h < 32 := by have := two_pow_le5 hnc; have := pow_pred h.customers.length; show 2 ^ _ - 1 < 32; omega
    have OV := Lib.hid (DOver_any aw ac kw kc h bm bo (fullW h) (fullC h) hv hwmx hcmx _ (beginD h) (Nat.le_refl _) hbok X hXK)
    have HG5 := Lib.hid (fun (V : World) (hg : X.grownBy V (some bo)) => (show V.heap[w.heap.size + 1]? = some (.cells #[.int .i64 0] 3 (0, 0)) from grown_keep hg hX1 (hXK.other hX1)))
    obtain ⟨x0, x1, x2, x3, x4, xz⟩ := StB.cells hXS
    have hov : ovD h (fullW h) (fullC h) (beginD h) = overB h (fullW h) (fullC h) := rfl
    rw [hov] at OV
    have hge := overB_ge (h := h) (fullW h) (fullC h)
    obtain ⟨n, hn⟩ : ∃ n, n = overB h (fullW h) (fullC h) := ⟨_, rfl⟩
    rw [← hn] at OV hge HNF HFD
    replace hn := Lib.hid hn
    clear hov
    go_upto_region 9 with (go_at_call 55; go_must ((with_reducible refine OV.out.mono ?_); rintro e w5 ⟨rfl, hg5, hK5, -⟩; have h51 := HG5.out _ hg5; have z0 := blk_cell 0 h51 rfl; have zf := blk_free 0 h51; have zz := lt_of_block h51; dsimp only))
    have hgz := hg5.size
    have k0 := grown_keep hg5 hX0 (hXK.other hX0)
    have kh := grown_keep hg5 hXh (hXK.other hXh)
    have ka := grown_keep hg5 hXa (hXK.other hXa)
    have kf := grown_keep hg5 hXf (hXK.other hXf)
    have kS : StB w5 w4.heap.size (beginD h) := grown_keep hg5 hXS (hXK.other hXS)
    have hw5 : Below w.heap.size w w5 := hwX.grown hg5 hwX.size (fun j e => by have := Option.some.inj e; omega)
    clear hg5 OV HG5 hXK hX0 hX1 hXh hXa hXf hwX x0 x1 x2 x3 x4 xz y0 yz z0 zf zz hXS
    obtain ⟨V, hV⟩ : ∃ V : World, V = w5.setCell ⟨w.heap.size + 1, 0, none⟩ (.int .i64 n) := ⟨_, rfl⟩
    rw [← hV]
    have hVo : ∀ b, b ≠ w.heap.size + 1 → V.heap[b]? = w5.heap[b]? := fun b hb => by rw [hV]; exact Below.heap_setCell _ _ _ _ hb
    have hV1 : V.heap[w.heap.size + 1]? = some (.cells #[.int .i64 n] 3 (0, 0)) := by rw [hV]; exact blk_set 0 _ h51
    have hVs : V.heap.size = w5.heap.size := by rw [hV]; simp
    have hwV : Below w.heap.size w V := by rw [hV]; exact hw5.setCell (by simp) _
    clear hV
    have z0 := blk_cell 0 hV1 rfl
    have zf := blk_free 0 hV1
    have zz := lt_of_block hV1
    simp only [List.getElem_toArray, List.getElem_cons_zero] at z0
    by_cases hneg : n < 0
    · have e1 : n = -1 := by omega
      have hr := HNF.out e1
      subst hr
      clear HNF HFD
      go_wp2
      (try simp only [Exit.inBlock, Exit.then])
      refine bodyPost_ret (v := .tuple #[.slice none 0 0, .int .i64 0, .int .i64 9]) ?_ rfl ⟨.slice none 0 0, rfl, ⟨none, 0, rfl, ⟨by simp, by omega, fun _ => rfl⟩, RowsC.nil _ _⟩, hwV.setCell (by simp) _⟩
      rw [results_tct rfl]
      go_simp
    · obtain ⟨q, hq, hqs, hres⟩ := HFD.out (by omega)
      subst hres
      clear HNF HFD hge
      have hZf0 := (hVo (w3.heap.size + 1 + 1) (by omega)).trans kf
      have p0 := blk_free 0 hZf0
      have p1 := blk_cell 0 hZf0 rfl
      have pz := lt_of_block hZf0
      simp only [List.getElem_toArray, List.getElem_cons_zero] at p1
      go_upto_region 12 with (fail)
      obtain ⟨Z, hZ⟩ : ∃ Z : World, Z = V.setCell ⟨w3.heap.size + 1 + 1, 0, none⟩ (.func (.func 56) #[] #[.pointer (some ⟨w.heap.size, 0, none⟩), .pointer (some ⟨w3.heap.size, 0, none⟩), .pointer (some ⟨w.heap.size + 1, 0, none⟩), .pointer (some ⟨w3.heap.size + 1, 0, none⟩), .pointer (some ⟨w3.heap.size + 1 + 1, 0, none⟩)]) := ⟨_, rfl⟩
      rw [← hZ]
      have hZo : ∀ b, b ≠ w.heap.size + 1 → b ≠ w3.heap.size + 1 + 1 → Z.heap[b]? = w5.heap[b]? := fun b h1 h2 => by rw [hZ]; exact (Below.heap_setCell _ _ _ _ h2).trans (hVo b h1)
      have hZ1 : Z.heap[w.heap.size + 1]? = some (.cells #[.int .i64 n] 3 (0, 0)) := by rw [hZ]; exact (Below.heap_setCell _ _ _ _ (by simp only; omega)).trans hV1
      have hZf : Z.heap[w3.heap.size + 1 + 1]? = some (.cells #[.func (.func 56) #[] #[.pointer (some ⟨w.heap.size, 0, none⟩), .pointer (some ⟨w3.heap.size, 0, none⟩), .pointer (some ⟨w.heap.size + 1, 0, none⟩), .pointer (some ⟨w3.heap.size + 1, 0, none⟩), .pointer (some ⟨w3.heap.size + 1 + 1, 0, none⟩)]] 111 (0, 0)) := by rw [hZ]; exact blk_set 0 _ hZf0
      have hwZ : Below w.heap.size w Z := by rw [hZ]; exact hwV.setCell (by simp only; omega) _
      have hZs : Z.heap.size = w5.heap.size := by rw [hZ]; simpa using hVs
      clear hZ hVo hV1 hwV z0 zf zz p0 p1 pz hZf0
      obtain ⟨B, hB⟩ : ∃ B : FiB, B = ⟨w.heap.size, w.heap.size + 1, bm, bo, w3.heap.size, w3.heap.size + 1, w3.heap.size + 1 + 1⟩ := ⟨_, rfl⟩
      have hZ0 := (hZo w.heap.size (by omega) (by omega)).trans k0
      have hZh := (hZo w3.heap.size (by omega) (by omega)).trans kh
      have hZa := (hZo (w3.heap.size + 1) (by omega) (by omega)).trans ka
      have hZB := hK5.blk.same (hZo bm (by omega) (by omega))
      have hZM : ∃ T, MapV Z Tryz.prog 115 bo T ∧ MemoD h (fullW h) (fullC h) T := by
        obtain ⟨T, hT, hM⟩ := hK5.map
        exact ⟨T, hT.same (hZo bo (by omega) (by omega)), hM⟩
      have kZ : FindI w Z B (B.fp + 1) aw ac kw kc h n (.slice none 0 0) [] := by
        subst hB
        refine ⟨?_, hwZ, hZM, hZB, hZ0, hZh, hZ1, hZa, hZf, World.ownsRow_nil _ _ _ _⟩
        unfold FiB.ok
        simp only
        omega
      have hFC := (DFind_any aw ac kw kc h w hm hv B n _ (beginD h) (Nat.le_refl _) hbok Z _ [] (by simp only [List.length_nil]; omega) kZ)
      have hZS : StB Z w4.heap.size (beginD h) := kS.same (hZo _ (by omega) (by omega))
      clear kZ k0 kh ka kf kS hw5 hK5 hZo hZ1 h51 hZ0 hZh hZa hZB hZM
      have f0 := blk_cell 0 hZf rfl
      have fz := lt_of_block hZf
      simp only [List.getElem_toArray, List.getElem_cons_zero] at f0
      obtain ⟨x0, x1, x2, x3, x4, xz⟩ := StB.cells hZS
      rw [hB] at hFC
      simp only [standV] at hFC
      replace hFC := Lib.hid hFC
      go_upto_region 13 with ((with_reducible refine hFC.out.mono ?_); rintro e w6 ⟨⟨b, rfl⟩, ⟨v6, hI6⟩, hF6⟩; dsimp only)
      rw [List.nil_append, ← hqs] at hI6
      have h60 := hI6.c
      have h61 := hI6.oc
      have h6a := hI6.ac
      have hw6 := hI6.below
      obtain ⟨a6, c6, rfl, hs6, hc6⟩ := IntsV.of_own hI6.own
      simp only at h60 h61 h6a
      clear hI6 hF6 hFC x0 x1 x2 x3 x4 xz f0 fz hZf hB hZS
      have x1 := blk_cell 1 h60 rfl
      have xz := lt_of_block h60
      have n0 := blk_cell 0 h61 rfl
      have nf := blk_free 0 h61
      have nz := lt_of_block h61
      have a0 := blk_cell 0 h6a rfl
      have az := lt_of_block h6a
      simp only [List.getElem_toArray, List.getElem_cons_zero, List.getElem_cons_succ] at x1 n0 a0
      obtain ⟨i, hi, hz, hsz, hby⟩ := info_parts E_ints.info
      go_upto_region 14 with (refine wpList_make_row _ rfl (.tmp 36) (.tmp 36) _ rfl 35 i (.slice none 0 0) E_ints.und hi hz hsz rfl .i64 .i64 h.writers.length rfl rfl (by rw [hby]; omega) (by omega) ?_; go_frame)
      obtain ⟨N, hN⟩ : ∃ N : World, N = w6.alloc (.cells (madeCells #[.slice none 0 0] h.writers.length) 35) := ⟨_, rfl⟩
      rw [← hN]
      have hNG : N.heap[w6.heap.size]? = some (.cells (madeCells #[.slice none 0 0] h.writers.length) 35 (0, 0)) := by rw [hN]; exact alloc_at _ _ rfl
      have hNb : Below w6.heap.size w6 N := by rw [hN]; exact (by (repeat' (first | assumption | exact Below.refl _ _ | refine below_drew' ?_ | refine Below.setCell ?_ (by first | omega | (simp <;> omega)) _ | refine Below.alloc ?_ (by first | omega | (simp <;> omega)) _)))
      have hPN := PlI.start hNG
      have hl6 : (seqOf q).length ≤ 8 := by rw [hqs]; exact Nat.le_trans (fD_len (leftD h (beginD h)) (beginD h) hbok.w (Nat.le_refl _)) hlf
      have hq0 : ∀ c ∈ q.flatten, 0 ≤ c := fun c hc => ((hq.mem c).1 hc).1
      have hql := hq.len
      replace hqs := Lib.hid hqs
      have HB6 := Lib.hid (fun (V : World) (hb : Below w6.heap.size w6 V) => (⟨blk_cell 0 ((hb.block _ az).trans h6a) rfl, blk_cell 0 ((hb.block _ nz).trans h61) rfl, blk_free 0 ((hb.block _ nz).trans h61), Nat.lt_of_lt_of_le nz hb.size⟩ : V.cell? ⟨w3.heap.size + 1, 0, none⟩ = some (.slice a6 (seqOf q).length c6) ∧ V.cell? ⟨w.heap.size + 1, 0, none⟩ = some (.int .i64 n) ∧ V.frozen? ⟨w.heap.size + 1, 0, none⟩ = false ∧ w.heap.size + 1 < V.heap.size))
      have a1 := (HB6.out N hNb).1
      have az1 : w3.heap.size + 1 < N.heap.size := lt_of_cell a1
      clear hN x1 xz n0 nf nz a0 hi hz hsz hby hZs hNG
      go_wp2
      go_loopw [9, 40] (fun r i wr => ∃ k : Nat, k ≤ (seqOf q).length ∧ i = .int .i64 k ∧ r = .int .i64 ((placeAt q k).2 : Int) ∧ (∃ vs, PlI wr w6.heap.size vs (placeAt q k).1) ∧ Below w6.heap.size w6 wr) (fun _ i _ => (seqOf q).length - (intOf i).toNat)
      case atStart => exact ⟨0, Nat.zero_le _, rfl, by rw [placeAt_zero]; rfl, ⟨_, by rw [placeAt_zero, hql]; exact hPN⟩, hNb⟩
      case round =>
        clear a1 az1 hPN hNb
        obtain ⟨k, hk, rfl, rfl, ⟨vs, hP⟩, hb⟩ := hrel
        obtain ⟨a1, n0, nf, nz⟩ := HB6.out wr hb
        have hvl : vs.length = h.writers.length := by rw [hP.len, placeAt_len, hql]
        by_cases hlk : k < (seqOf q).length
        · have h8 := placeAt_two_le q k
          have hst := Lib.hid (placeAt_succ q hlk)
          obtain ⟨b6, o6, rfl, hb6, hci⟩ := hc6.mono hb k hlk
          have hci2 := hci
          generalize hcv : (seqOf q)[k] = c at hci hst
          by_cases hneg2 : c < 0
          · have hst2 : Hid (placeAt q (k + 1) = ((placeAt q k).1, (placeAt q k).2 + 1)) := Lib.hid (by rw [hst.out]; unfold placeStep; rw [if_pos hneg2])
            go_wp2
            go_roundw
            case rel => exact ⟨k + 1, by omega, by go_num, by rw [hst2.out]; go_num, ⟨vs, by rw [hst2.out]; exact hP⟩, hb⟩
            case measure => simp [intOf]; omega
          · have hlt := placeAt_lt q hq0 hlk (by rw [hcv]; omega)
            have hsh := placeAt_short q k
            have hpl := placeAt_len q k
            have hst2 : Hid (placeAt q (k + 1) = ((placeAt q k).1.modify (placeAt q k).2 (· ++ [c]), (placeAt q k).2)) := Lib.hid (by rw [hst.out]; unfold placeStep; rw [if_neg hneg2])
            clear hst
            generalize placeAt q k = pa at hst2 hlt hsh hpl h8 hP ⊢
            obtain ⟨rows, j⟩ := pa
            simp only at hst2 hlt hsh hpl h8 hP
            have hjv : j < vs.length := by omega
            have hjr : j < rows.length := by omega
            have hrl := hsh _ (List.getElem_mem hjr)
            have hown := hP.own j hjv hjr
            have g0 := blk_cell j hP.blk (v := vs[j]) (by simp [hjv])
            have gf := blk_free j hP.blk
            have gz := lt_of_block hP.blk
            have hPP := Lib.hid hP
            have hBZ := hb.size
            have hjn : j < h.writers.length := by omega
            have HAP := Lib.hid (fun (V2 : World) (v2 : Value) hn2 hg2 hat => (hP.alloc _).app (A := wr) (W := wr.alloc (.cells #[.int .i64 c] 3)) (W' := V2) (v' := v2) hjv hjr rfl hP hn2 hg2 hat)
            clear hP hown
            go_wp2_with (at_builtin; go_must (refine wpList_app (.tmp 53) (.tmp 55) E_int rfl rfl rfl rfl (w6.heap.size + 1) rows[j].length 1 (rows[j].map (Value.int .i64)) [.int .i64 c] ((hPP.out.own j hjv hjr).alloc _) (SrcAt.one _ _ _ rfl) (by omega) (by decide) (by have := hPP.out.blk; simp; omega) ?_; intro v2 w7 ho2 hg2 hat; (obtain ⟨g7, cap7, rfl⟩ := ownsRow_succ ho2); have hG7 := (hg2.block w6.heap.size (by simp; omega) (fun e => by have := ((hPP.out.own j hjv hjr).lt _ e.symm).1; omega)).trans ((heap_alloc_old _ _ gz).trans hPP.out.blk); have q0 := blk_cell j hG7 (v := vs[j]) (by simp [hjv]); have qf := blk_free j hG7; have qz := lt_of_block hG7; simp only [Act.put, List.setIfInBounds_toArray, List.set_cons_succ, List.set_cons_zero]))
            go_roundw
            case rel => exact ⟨k + 1, by omega, by go_num, by rw [hst2.out], ⟨vs.set j (.slice (some ⟨g7, 0, none⟩) (rows[j].length + 1) cap7), by rw [hst2.out]; exact HAP.out _ _ ho2 hg2 hat⟩, ((hb.alloc hb.size _).grown hg2 (by simp; omega) (fun l e => by have := ((hPP.out.own j hjv hjr).lt _ e).1; omega)).setCell (by simp) _⟩
            case measure => simp [intOf]; omega
        · obtain rfl : k = (seqOf q).length := by omega
          have e9 := placeAt_all q hq0
          rw [e9] at hP ⊢
          have hR := Lib.hid (fun (V : World) (hV : ∀ b, w6.heap.size ≤ b → V.heap[b]? = wr.heap[b]?) => (hP.same hV).rows h.writers.length h.writers.length hql.symm ⟨Nat.le_refl _, by omega⟩)
          have hwr : Below w.heap.size w wr := hw6.trans (hb.mono hw6.size)
          clear hP hvl
          go_upto_region 22 with (fail)
          (focus go_region)
          all_goals
            go_wp2
            (try simp only [Exit.inBlock, Exit.then])
            refine bodyPost_ret (v := .tuple #[.slice (some ⟨w6.heap.size, 0, none⟩) h.writers.length h.writers.length, .int .i64 n, .int .i64 0]) ?_ rfl ⟨_, rfl, hR.out _ ?_, (by (repeat' (first | assumption | exact Below.refl _ _ | refine below_drew' ?_ | refine Below.setCell ?_ (by first | omega | (simp <;> omega)) _ | refine Below.alloc ?_ (by first | omega | (simp <;> omega)) _)))⟩
            · rw [results_tct rfl]
              go_simp
            · intro b hb
              exact Below.heap_setCell _ _ _ _ (by simp only; omega)
  · replace HNO := HNO.out her
    subst HNO
    have g1 := nei_t her
    clear her HV HNF HFD
    go_enter Tryz.func12, Tryz.ntmps12
    go_upto_region 1 with (fail)
    rw [← hQ]
    clear hQ
    go_wp2_with (go_at_call 52; go_must ((with_reducible refine CK.out.mono ?_); rintro e w2 ⟨rfl, hb2⟩; have h21 := (hb2.block _ (lt_of_block hQ1)).trans hQ1; have hw2 : Below w.heap.size w w2 := hQb.trans (hb2.mono hQb.size); have z0 := blk_cell 0 h21 rfl; have zf := blk_free 0 h21; have zz := lt_of_block h21; dsimp only))
    (try simp only [Exit.inBlock, Exit.then])
    refine bodyPost_ret (v := .tuple #[.slice none 0 0, .int .i64 0, .int .i64 er]) ?_ rfl ⟨.slice none 0 0, rfl, ⟨none, 0, rfl, ⟨by simp, by omega, fun _ => rfl⟩, RowsC.nil _ _⟩, hw2.setCell (by simp) _⟩
    rw [results_tct rfl]
    go_simp
end Go.Proofs.YtelmponkmmfffaaGreat
namespace Go.Proofs.YtelmponkmmfffaaGreat
open Go Go.RowKit Go.Shelf

def IntsT (w : World) (a : Option Addr) (l : List Int) : Prop :=
  ∀ i (_ : i < l.length), ∃ b off, a = some ⟨b, off, none⟩ ∧ (∃ cs z, w.heap[b]? = some (.cells cs 3 z)) ∧ w.cell? ⟨b, off + i, none⟩ = some (.int .i64 l[i])
def RowT (w : World) (v : Value) (l : List Int) : Prop := ∃ a c, v = .slice a l.length c ∧ SlOk a l.length c ∧ IntsT w a l
def PlanT (w : World) (a : Option Addr) (vs : List Value) (L : List (List Int)) : Prop :=
  vs.length = L.length ∧ (∀ i (_ : i < vs.length), ∃ b off, a = some ⟨b, off, none⟩ ∧ (∃ cs z, w.heap[b]? = some (.cells cs 35 z)) ∧ w.cell? ⟨b, off + i, none⟩ = some vs[i]) ∧ ∀ i (h1 : i < vs.length) (h2 : i < L.length), RowT w vs[i] L[i]
def PlanV (w : World) (v : Value) (L : List (List Int)) : Prop := ∃ a c vs, v = .slice a L.length c ∧ SlOk a L.length c ∧ PlanT w a vs L
def PlansC (w : World) (a : Option Addr) (LL : List (List (List Int))) : Prop :=
  ∀ i (_ : i < LL.length), ∃ b off v, a = some ⟨b, off, none⟩ ∧ b < w.heap.size ∧ w.cell? ⟨b, off + i, none⟩ = some v ∧ PlanV w v LL[i]
/-- Blocks of cells that are no plans' stay. -/
def SameT (w W : World) : Prop := ∀ (b : Nat) (cs : Array Value) (t : TypeId) (z : Nat × Nat), w.heap[b]? = some (.cells cs t z) → t ≠ 51 → W.heap[b]? = some (.cells cs t z)
theorem SameT.of_below {w W : World} (h : Below w.heap.size w W) : SameT w W := fun b cs t z e _ => (h.block b (lt_of_block e)).trans e
theorem SameT.trans {w W V : World} (h : SameT w W) (k : SameT W V) : SameT w V := fun b cs t z e ht => k b cs t z (h b cs t z e ht) ht
theorem SameT.of_row {w W : World} {base size n : Nat} {v : Value} {xs : List Value} (ho : w.ownsRow base 51 size v n xs) (hg : w.grownBy W v.ownBlock) : SameT w W := fun b cs t z e ht =>
  (hg.block b (lt_of_block e) (fun e2 => by
    obtain ⟨c, fz, e3⟩ := Lib.ownsRow_kind ho b e2.symm
    rw [e] at e3
    injection e3 with e3
    injection e3 with _ e4 _
    exact ht e4)).trans e
theorem IntsT.same {w W : World} {a : Option Addr} {l : List Int} (h : IntsT w a l) (k : SameT w W) : IntsT W a l := fun i hi => by
  obtain ⟨b, off, e, ⟨cs, z, hb⟩, hc⟩ := h i hi
  have hb2 := k b cs _ z hb (by decide)
  exact ⟨b, off, e, ⟨cs, z, hb2⟩, (World.cell?_of_block (a := ⟨b, off + i, none⟩) (hb2.trans hb.symm)).trans hc⟩
theorem IntsT.ints {w : World} {a : Option Addr} {l : List Int} (h : IntsT w a l) : IntsC w a l := fun i hi => by
  obtain ⟨b, off, e, ⟨cs, z, hb⟩, hc⟩ := h i hi
  exact ⟨b, off, e, lt_of_block hb, hc⟩
theorem RowT.same {w W : World} {v : Value} {l : List Int} (h : RowT w v l) (k : SameT w W) : RowT W v l := by
  obtain ⟨a, c, e, h1, h2⟩ := h; exact ⟨a, c, e, h1, h2.same k⟩
theorem PlanV.same {w W : World} {v : Value} {L : List (List Int)} (h : PlanV w v L) (k : SameT w W) : PlanV W v L := by
  obtain ⟨a, c, vs, e, h1, h2, h3, h4⟩ := h
  refine ⟨a, c, vs, e, h1, h2, fun i hi => ?_, fun i h1 h2 => (h4 i h1 h2).same k⟩
  obtain ⟨b, off, e, ⟨cs, z, hb⟩, hc⟩ := h3 i hi
  have hb2 := k b cs _ z hb (by decide)
  exact ⟨b, off, e, ⟨cs, z, hb2⟩, (World.cell?_of_block (a := ⟨b, off + i, none⟩) (hb2.trans hb.symm)).trans hc⟩
theorem PlanV.rows {w : World} {v : Value} {L : List (List Int)} (h : PlanV w v L) : RowsV w v L := by
  obtain ⟨a, c, vs, e, h1, h2, h3, h4⟩ := h
  refine ⟨a, c, e, h1, fun i hi => ?_⟩
  obtain ⟨b, off, e, ⟨cs, z, hb⟩, hc⟩ := h3 i (by omega)
  obtain ⟨a', c', e2, h5, h6⟩ := h4 i (by omega) hi
  exact ⟨b, off, a', c', e, lt_of_block hb, by rw [hc, e2], h5, h6.ints⟩
theorem PlansC.mono {w W : World} {a : Option Addr} {LL : List (List (List Int))} (h : PlansC w a LL) (hb : Below w.heap.size w W) : PlansC W a LL := fun i hi => by
  obtain ⟨b, off, v, e, hlt, hc, hp⟩ := h i hi
  exact ⟨b, off, v, e, Nat.lt_of_lt_of_le hlt hb.size, cell_below hb hc, hp.same (.of_below hb)⟩
theorem RowT.of_own {w : World} {base n : Nat} {v : Value} {l : List Int} (h : w.ownsRow base 3 1 v n (l.map (Value.int .i64))) : RowT w v l := by
  obtain ⟨a, c, e, h1, h2⟩ := IntsV.of_own h
  refine ⟨a, c, e, h1, fun i hi => ?_⟩
  obtain ⟨b, off, e2, hlt, hc⟩ := h2 i hi
  have hob : v.ownBlock = some b := by
    rcases h.2 with ⟨h9, _⟩ | ⟨g, cap, cur, h9, _⟩
    · rw [e, e2] at h9; cases h9
    · rw [e, e2] at h9; injection h9 with h9 _ _; injection h9 with h9; injection h9 with h9 h10 _; rw [e, e2, h9, h10]; rfl
  obtain ⟨cs, z, hb⟩ := Lib.ownsRow_kind h b hob
  exact ⟨b, off, e2, ⟨cs, z, hb⟩, hc⟩
theorem RowT.nil (w : World) : RowT w (.slice none 0 0) [] := ⟨none, 0, rfl, ⟨by simp, by omega, fun _ => rfl⟩, fun i hi => absurd hi (Nat.not_lt_zero i)⟩
/-- A growing slice of plans: the call's own. -/
def OwnP (w : World) (base : Nat) (v : Value) (LL : List (List (List Int))) : Prop :=
  ∃ vs : List Value, w.ownsRow base 51 1 v LL.length vs ∧ vs.length = LL.length ∧ ∀ i (h1 : i < vs.length) (h2 : i < LL.length), PlanV w vs[i] LL[i]
theorem OwnP.nil (w : World) (base : Nat) : OwnP w base (.slice none 0 0) [] := ⟨[], World.ownsRow_nil _ _ _ _, rfl, fun i hi => absurd hi (Nat.not_lt_zero i)⟩
theorem OwnP.push {w w1 w2 : World} {base : Nat} {v v' u : Value} {vs : List Value} {LL : List (List (List Int))} {p : List (List Int)} {o : Obj}
    (ho : w.ownsRow base 51 1 v LL.length vs) (hl : vs.length = LL.length) (hp : ∀ i (h1 : i < vs.length) (h2 : i < LL.length), PlanV w vs[i] LL[i])
    (hb : Below w.heap.size w w1) (hu : PlanV w1 u p) (hn : w2.ownsRow base 51 1 v' (LL.length + 1) (vs ++ [u])) (hg : (w1.alloc o).grownBy w2 v.ownBlock) : OwnP w2 base v' (LL ++ [p]) := by
  have hs1 : SameT w1 w2 := (SameT.of_below ((Below.refl _ _).alloc (Nat.le_refl _) o)).trans (.of_row ((own_below ho hb).alloc o) hg)
  have hs0 : SameT w w2 := (SameT.of_below hb).trans hs1
  refine ⟨vs ++ [u], by rw [List.length_append]; exact hn, by simp [hl], fun i h1 h2 => ?_⟩
  by_cases h : i < vs.length
  · rw [List.getElem_append_left h, List.getElem_append_left (by omega)]
    exact (hp i h (by omega)).same hs0
  · have e : i = vs.length := by simp at h1; omega
    subst e
    simp only [List.getElem_append_right (Nat.le_refl _), Nat.sub_self, List.getElem_cons_zero]
    have e2 : (LL ++ [p])[vs.length] = p := by simp [hl]
    rw [e2]
    exact hu.same hs1
theorem OwnP.keep {w W : World} {base : Nat} {v : Value} {LL : List (List (List Int))} (h : OwnP w base v LL) (hb : Below w.heap.size w W) : OwnP W base v LL := by
  obtain ⟨vs, h1, h2, h3⟩ := h
  exact ⟨vs, own_below h1 hb, h2, fun i h4 h5 => (h3 i h4 h5).same (.of_below hb)⟩
theorem OwnP.plans {w : World} {base : Nat} {v : Value} {LL : List (List (List Int))} (h : OwnP w base v LL) : ∃ a c, v = .slice a LL.length c ∧ SlOk a LL.length c ∧ PlansC w a LL := by
  obtain ⟨vs, h1, h2, h3⟩ := h
  have hm : maxLen = 9223372036854775807 := rfl
  rcases h1.2 with ⟨rfl, h0⟩ | ⟨g, cap, cur, rfl, _, hg, h4, h5, h6, h7⟩
  · refine ⟨none, 0, by rw [h0], ⟨by omega, by omega, fun _ => rfl⟩, fun i hi => absurd hi (by omega)⟩
  · refine ⟨some ⟨g, 0, none⟩, cap, rfl, ⟨h4, by omega, fun h => by cases h⟩, fun i hi => ?_⟩
    have hi' : i < vs.length := by omega
    refine ⟨g, 0, vs[i], rfl, lt_of_block hg, ?_, h3 i hi' hi⟩
    have := h1.cells (g := g) rfl i vs[i] (by simp [hi'])
    simpa [Addr.add_lit] using this
/-- A plan of which one row is put anew. -/
theorem PlanV.put {W : World} {base g cap n j : Nat} {vs : List Value} {u : Value} {L : List (List Int)} {r : List Int} (ho : W.ownsRow base 35 1 (.slice (some ⟨g, 0, none⟩) n cap) n vs) (hn : n = L.length) (hl : vs.length = L.length) (hj : j < n)
    (hu : RowT W u r) (hr : ∀ i (h1 : i < vs.length) (h2 : i < L.length), i ≠ j → RowT W vs[i] L[i]) : PlanV (W.setCell ⟨g, j, none⟩ u) (.slice (some ⟨g, 0, none⟩) n cap) (L.set j r) := by
  have hm : maxLen = 9223372036854775807 := rfl
  rcases ho.2 with ⟨h9, _⟩ | ⟨g', cap', cur, h9, _, hg, h4, h5, h6, h7⟩
  · cases h9
  · cases h9
    have hset : (W.setCell ⟨g, j, none⟩ u).heap[g]? = some (.cells (cur.setIfInBounds j u) 35 (0, 0)) := blk_set j u hg
    have hs : ∀ {v : Value} {l : List Int}, RowT W v l → RowT (W.setCell ⟨g, j, none⟩ u) v l := fun {v l} h => by
      obtain ⟨a, c, e, h1, h2⟩ := h
      refine ⟨a, c, e, h1, fun i hi => ?_⟩
      obtain ⟨b, off, e2, ⟨cs, z, hb⟩, hc⟩ := h2 i hi
      have hne : b ≠ g := fun e3 => by
        rw [e3, hg] at hb
        injection hb with hb
        injection hb with _ hb _
        exact absurd hb (by decide)
      have hb2 : (W.setCell ⟨g, j, none⟩ u).heap[b]? = W.heap[b]? := Below.heap_setCell _ _ _ _ hne
      exact ⟨b, off, e2, ⟨cs, z, hb2.trans hb⟩, (World.cell?_of_block (a := ⟨b, off + i, none⟩) hb2).trans hc⟩
    have hln : vs.length = n := by omega
    refine ⟨some ⟨g, 0, none⟩, cap, vs.set j u, by rw [List.length_set, hn], ⟨by rw [List.length_set, ← hn]; exact h4, by omega, fun h => by cases h⟩, by simp [hl], fun i hi => ?_, fun i h1 h2 => ?_⟩
    · have hi2 : i < vs.length := by simpa using hi
      refine ⟨g, 0, rfl, ⟨_, _, hset⟩, ?_⟩
      have hcs : cur.size = cap := by omega
      have hic : i < cur.size := by omega
      have hcur : cur[i]? = some vs[i] := by
        have := congrArg (fun l : List Value => l[i]?) h7
        simp only [List.getElem?_take] at this
        rw [if_pos (by omega)] at this
        rw [← Array.getElem?_toList, this]
        simp [hi2]
      refine blk_cell (0 + i) hset ?_
      rw [Nat.zero_add, List.getElem_set]
      by_cases e : j = i
      · subst e; simp [hic]
      · rw [if_neg e, Array.getElem?_setIfInBounds, if_neg e]; exact hcur
    · simp only [List.getElem_set]
      by_cases e : j = i
      · rw [if_pos e, if_pos e]; exact hs hu
      · rw [if_neg e, if_neg e]
        exact hs (hr i (by simpa using h1) (by simpa using h2) (fun e2 => e e2.symm))
theorem SrcAt.plan {w : World} {a : Option Addr} {vs : List Value} {L : List (List Int)} {n c : Nat} (hn : a = none → c = 0) (hL : n = L.length) (hc : n ≤ c) (h : PlanT w a vs L) : SrcAt w (.slice a n c) n 1 vs := by
  obtain ⟨h1, h2, h3⟩ := h
  subst hL
  refine ⟨by omega, fun u hu => ?_, ?_⟩
  · obtain ⟨i, hi, rfl⟩ := List.getElem_of_mem hu
    obtain ⟨a', c', e, _⟩ := h3 i hi (by omega)
    rw [e]; rfl
  · cases a with
    | none =>
      have : L.length = 0 := by have := hn rfl; omega
      refine .inl ⟨?_, this⟩
      rw [hn rfl, this]
    | some ad =>
      refine .inr ⟨ad, c, rfl, fun j u hu => ?_⟩
      obtain ⟨hj, rfl⟩ := List.getElem?_eq_some_iff.1 hu
      obtain ⟨b, off, e, _, hc⟩ := h2 j hj
      cases e
      simpa [Addr.add_lit] using hc
end Go.Proofs.YtelmponkmmfffaaGreat
