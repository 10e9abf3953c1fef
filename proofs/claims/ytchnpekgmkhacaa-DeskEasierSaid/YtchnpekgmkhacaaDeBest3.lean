/- What is proved here: what the moves of Best's plan are when put into rows: plain facts, and the rows in memory. No condition. -/
import Derived.Test.YtchnpekgmkhacaaDeBest2
set_option linter.unusedVariables false
set_option linter.unusedSimpArgs false
namespace Go.Proofs.Ytchnpekgmkhacaa
open Go Go.RowKit Go.Shelf

theorem place_len (s : List (List Int) × Nat) (c : Int) : (placeStep s c).1.length = s.1.length := by
  unfold placeStep
  split <;> simp
theorem place_fold_len : ∀ (l : List Int) (s : List (List Int) × Nat), (l.foldl placeStep s).1.length = s.1.length
  | [], _ => rfl
  | c :: l, s => by rw [List.foldl_cons, place_fold_len l, place_len]
theorem place_fold_two : ∀ (l : List Int) (s : List (List Int) × Nat), (l.foldl placeStep s).2 = s.2 + l.countP fun c => decide (c < 0)
  | [], _ => rfl
  | c :: l, s => by
    rw [List.foldl_cons, place_fold_two l, List.countP_cons]
    unfold placeStep
    by_cases hc : c < 0
    · rw [if_pos hc]; simp [hc]; omega
    · rw [if_neg hc]; simp [hc]
theorem place_short (m : Nat) (s : List (List Int) × Nat) (c : Int) (h : ∀ r ∈ s.1, r.length ≤ m) : ∀ r ∈ (placeStep s c).1, r.length ≤ m + 1 := by
  unfold placeStep
  split
  · intro r hr; have := h r hr; omega
  · intro r hr
    rw [List.mem_iff_getElem] at hr
    obtain ⟨i, hi, rfl⟩ := hr
    have hi2 : i < s.1.length := by simpa using hi
    simp only [List.getElem_modify]
    have := h _ (List.getElem_mem hi2)
    split
    · rw [List.length_append]; simp only [List.length_cons, List.length_nil]; omega
    · omega
theorem place_fold_short : ∀ (l : List Int) (m : Nat) (s : List (List Int) × Nat), (∀ r ∈ s.1, r.length ≤ m) → ∀ r ∈ (l.foldl placeStep s).1, r.length ≤ m + l.length
  | [], _, _, h => h
  | c :: l, m, s, h => by
    rw [List.foldl_cons, List.length_cons]
    intro r hr
    have := place_fold_short l (m + 1) (placeStep s c) (place_short m s c h) r hr
    omega
theorem seq_last : ∀ (q : List (List Int)), q ≠ [] → (seqOf q).getLast? = some (-1)
  | [], h => absurd rfl h
  | [l], _ => by rw [seqOf_cons]; simp [seqOf]
  | l :: l2 :: q, _ => by
    rw [seqOf_cons]
    have := seq_last (l2 :: q) (by simp)
    have hne : seqOf (l2 :: q) ≠ [] := by intro e; rw [e] at this; cases this
    rw [List.getLast?_append, List.getLast?_cons]
    simp [this]
/-- Where the plan stands after k moves. -/
def placeAt (q : List (List Int)) (k : Nat) : List (List Int) × Nat := ((seqOf q).take k).foldl placeStep (List.replicate q.length [], 0)
theorem placeAt_zero (q : List (List Int)) : placeAt q 0 = (List.replicate q.length [], 0) := by simp [placeAt]
theorem placeAt_succ (q : List (List Int)) {k : Nat} (hk : k < (seqOf q).length) : placeAt q (k + 1) = placeStep (placeAt q k) (seqOf q)[k] := by
  unfold placeAt
  rw [List.take_succ_eq_append_getElem hk, List.foldl_append]
  rfl
theorem placeAt_all (q : List (List Int)) (hq : ∀ c ∈ q.flatten, 0 ≤ c) : placeAt q (seqOf q).length = (q, q.length) := by
  unfold placeAt
  rw [List.take_of_length_le (Nat.le_refl _)]
  have := place_seq q [] hq
  simpa using this
theorem placeAt_len (q : List (List Int)) (k : Nat) : (placeAt q k).1.length = q.length := by
  unfold placeAt
  rw [place_fold_len]
  simp
theorem placeAt_short (q : List (List Int)) (k : Nat) : ∀ r ∈ (placeAt q k).1, r.length ≤ k := by
  intro r hr
  have := place_fold_short ((seqOf q).take k) 0 _ (fun r hr => by have := List.eq_of_mem_replicate hr; subst this; simp) r hr
  simp only [List.length_take] at this
  omega
theorem placeAt_lt (q : List (List Int)) (hq : ∀ c ∈ q.flatten, 0 ≤ c) {k : Nat} (hk : k < (seqOf q).length) (hc : 0 ≤ (seqOf q)[k]) : (placeAt q k).2 < q.length := by
  have hne : q ≠ [] := by rintro rfl; simp [seqOf] at hk
  have h1 := congrArg Prod.snd (placeAt_all q hq)
  unfold placeAt at h1
  rw [List.take_of_length_le (Nat.le_refl _), place_fold_two] at h1
  have h2 : (placeAt q k).2 = ((seqOf q).take k).countP fun c => decide (c < 0) := by unfold placeAt; rw [place_fold_two]; simp
  rw [h2]
  have h3 : (seqOf q).countP (fun c => decide (c < 0)) = ((seqOf q).take k).countP (fun c => decide (c < 0)) + ((seqOf q).drop k).countP fun c => decide (c < 0) := by
    rw [← List.countP_append, List.take_append_drop]
  have h4 : 0 < ((seqOf q).drop k).countP fun c => decide (c < 0) := by
    rw [List.countP_pos_iff]
    refine ⟨-1, ?_, by decide⟩
    have hl := seq_last q hne
    rw [← List.take_append_drop k (seqOf q), List.getLast?_append] at hl
    have hdn : (seqOf q).drop k ≠ [] := by simp; omega
    cases e : ((seqOf q).drop k).getLast? with
    | none => exact absurd (List.getLast?_eq_none_iff.1 e) hdn
    | some z =>
      rw [e] at hl
      have hz : z = -1 := by simpa using hl
      rw [← hz]
      exact List.mem_of_getLast? e
  simp only [Nat.zero_add] at h1
  omega
theorem placeAt_two_le (q : List (List Int)) (k : Nat) : (placeAt q k).2 ≤ k := by
  unfold placeAt
  rw [place_fold_two]
  have := List.countP_le_length (p := fun c => decide (c < 0)) (l := (seqOf q).take k)
  have h2 : ((seqOf q).take k).length ≤ k := by simp [List.length_take]; omega
  omega

/-- The rows under way: the row of cells at G, each its own slice. -/
structure PlI (W : World) (G : Nat) (vs : List Value) (rows : List (List Int)) : Prop where
  len : vs.length = rows.length
  blk : W.heap[G]? = some (.cells vs.toArray 42 (0, 0))
  own : ∀ i (h1 : i < vs.length) (h2 : i < rows.length), W.ownsRow (G + 1) 3 1 vs[i] rows[i].length (rows[i].map (Value.int .i64))
  off : ∀ i j (h1 : i < vs.length) (h2 : j < vs.length), i ≠ j → vs[i].ownBlock = none ∨ vs[i].ownBlock ≠ vs[j].ownBlock
theorem PlI.start {W : World} {G n : Nat} (h : W.heap[G]? = some (.cells (madeCells #[.slice none 0 0] n) 42 (0, 0))) : PlI W G (List.replicate n (.slice none 0 0)) (List.replicate n []) := by
  refine ⟨by simp, ?_, fun i h1 h2 => ?_, fun i j h1 h2 _ => .inl ?_⟩
  · rw [h]
    congr 2
    unfold madeCells
    apply Array.ext
    · simp
    · intro i h1 h2
      simp [Nat.mod_one]
  · simp only [List.getElem_replicate, List.length_nil, List.map_nil]
    exact World.ownsRow_nil _ _ _ _
  · simp only [List.getElem_replicate]
    rfl
theorem PlI.alloc {W : World} {G : Nat} {vs : List Value} {rows : List (List Int)} (k : PlI W G vs rows) (o : Obj) : PlI (W.alloc o) G vs rows :=
  ⟨k.len, (heap_alloc_old _ _ (Array.getElem?_eq_some_iff.1 k.blk).1).trans k.blk, fun i h1 h2 => (k.own i h1 h2).alloc o, k.off⟩
theorem PlI.same {W W' : World} {G : Nat} {vs : List Value} {rows : List (List Int)} (k : PlI W G vs rows) (h : ∀ b, G ≤ b → W'.heap[b]? = W.heap[b]?) : PlI W' G vs rows := by
  refine ⟨k.len, (h G (Nat.le_refl _)).trans k.blk, fun i h1 h2 => ?_, k.off⟩
  have ho := k.own i h1 h2
  refine ⟨ho.1, ?_⟩
  rcases ho.2 with e | ⟨g, cap, cur, e1, e2, e3, e4⟩
  · exact .inl e
  · exact .inr ⟨g, cap, cur, e1, e2, (h g (by omega)).trans e3, e4⟩
theorem PlI.app {A W W' : World} {G : Nat} {vs : List Value} {rows : List (List Int)} {j : Nat} {v' : Value} {c : Int} (k : PlI W G vs rows) (hj : j < vs.length) (hj2 : j < rows.length) (hW : W = A.alloc (.cells #[.int .i64 c] 3)) (hA : PlI A G vs rows)
    (hn : W'.ownsRow (G + 1) 3 1 v' (rows[j].length + 1) (rows[j].map (Value.int .i64) ++ [.int .i64 c])) (hg : W.grownBy W' vs[j].ownBlock) (hat : v'.ownBlock = vs[j].ownBlock ∨ v'.ownBlock = some W.heap.size) :
    PlI (W'.setCell ⟨G, j, none⟩ v') G (vs.set j v') (rows.modify j (· ++ [c])) := by
  have hGW := (Array.getElem?_eq_some_iff.1 k.blk).1
  have hG' : W'.heap[G]? = some (.cells vs.toArray 42 (0, 0)) := (hg.block _ hGW (fun e => by have := ((k.own j hj hj2).lt _ e.symm).1; omega)).trans k.blk
  refine ⟨by simp [k.len], ?_, fun i h1 h2 => ?_, fun i l h1 h2 hne => ?_⟩
  · rw [blk_set j _ hG']
    simp
  · have h1' : i < vs.length := by simpa using h1
    have h2' : i < rows.length := by simpa using h2
    simp only [List.getElem_set, List.getElem_modify]
    by_cases e : j = i
    · subst e
      rw [if_pos rfl, if_pos rfl, List.length_append, List.map_append]
      exact ownsRow_setCell_other hn (fun e => by have := (hn.lt _ e).1; simp only at this; omega) _
    · rw [if_neg e, if_neg e]
      refine ownsRow_setCell_other ((k.own i h1' h2').kept hg (k.off i j h1' hj (fun e2 => e e2.symm))) (fun e => by have := ((k.own i h1' h2').lt _ e).1; simp only at this; omega) _
  · have h1' : i < vs.length := by simpa using h1
    have h2' : l < vs.length := by simpa using h2
    have hlt : ∀ i (h : i < vs.length), ∀ b, vs[i].ownBlock = some b → b < W.heap.size := fun i h b e => ((k.own i h (by rw [← k.len]; exact h)).lt b e).2
    simp only [List.getElem_set]
    by_cases e1 : j = i
    · subst e1
      rw [if_pos rfl, if_neg hne]
      rcases hat with e | e
      · rw [e]; exact k.off j l h1' h2' hne
      · refine .inr fun e2 => ?_
        rw [e] at e2
        have := hlt l h2' _ e2.symm
        omega
    · rw [if_neg e1]
      by_cases e2 : j = l
      · subst e2
        rw [if_pos rfl]
        rcases hat with e | e
        · rw [e]; exact k.off i j h1' h2' hne
        · refine .inr fun e3 => ?_
          rw [e] at e3
          have := hlt i h1' _ e3
          omega
      · rw [if_neg e2]; exact k.off i l h1' h2' hne
theorem PlI.rows {W : World} {G : Nat} {vs : List Value} {rows : List (List Int)} (k : PlI W G vs rows) (n c : Nat) (hn : n = rows.length) (hc : n ≤ c ∧ c ≤ 9223372036854775807) : RowsV W (.slice (some ⟨G, 0, none⟩) n c) rows := by
  subst hn
  refine ⟨_, c, rfl, ⟨hc.1, hc.2, fun e => by cases e⟩, fun i hi => ?_⟩
  have hi' : i < vs.length := by rw [k.len]; exact hi
  obtain ⟨a, c', e1, e2, e3⟩ := IntsV.of_own (k.own i (by rw [k.len]; exact hi) hi)
  refine ⟨G, 0, a, c', rfl, (Array.getElem?_eq_some_iff.1 k.blk).1, ?_, e2, e3⟩
  have hb := blk_cell i k.blk (show vs.toArray[i]? = some vs[i] from by simp [k.len, hi])
  rw [e1] at hb
  simpa using hb
end Go.Proofs.Ytchnpekgmkhacaa
