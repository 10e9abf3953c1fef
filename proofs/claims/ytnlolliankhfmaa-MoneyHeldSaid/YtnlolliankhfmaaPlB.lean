/- What is proved here: plain facts on truths of a valid list: which claimants are one; when a list is valid. No program. No condition. -/
import Derived.Test.YtnlolliankhfmaaPlA
set_option linter.unusedVariables false
set_option linter.unusedSimpArgs false
namespace Go.Proofs.Ytnlolliankhfmaa

theorem errOf_of {m : MoList} (h1 : m.claimants.length ≤ 4) (h2 : ∀ i, i < m.claimants.length → claimErr m i = 0) (h3 : m.sums.length ≤ 5) (h4 : ∀ i, i < m.sums.length → sumErr m i = 0)
    (h5 : m.words.length ≤ 6) (h6 : ∀ i, i < m.words.length → wordErr m i = 0) (h7 : m.paid.length ≤ 5) (h8 : ∀ i, i < m.paid.length → paidErr m i = 0) : errOf m = 0 := by
  unfold errOf check
  rw [checkPart_ok h1 h2, checkPart_ok h3 h4, checkPart_ok h5 h6, checkPart_ok h7 h8]
theorem errOf_parts {m : MoList} (h : errOf m = 0) : (m.claimants.length ≤ 4 ∧ ∀ i, i < m.claimants.length → claimErr m i = 0) ∧ (m.sums.length ≤ 5 ∧ ∀ i, i < m.sums.length → sumErr m i = 0) ∧
    (m.words.length ≤ 6 ∧ ∀ i, i < m.words.length → wordErr m i = 0) ∧ m.paid.length ≤ 5 ∧ ∀ i, i < m.paid.length → paidErr m i = 0 := by
  unfold errOf check at h
  obtain ⟨a1, a2, h⟩ := checkPart_zero h
  obtain ⟨b1, b2, h⟩ := checkPart_zero h
  obtain ⟨c1, c2, h⟩ := checkPart_zero h
  obtain ⟨d1, d2, _⟩ := checkPart_zero h
  exact ⟨⟨a1, a2⟩, ⟨b1, b2⟩, ⟨c1, c2⟩, d1, d2⟩
theorem wordErrOf_zero {c s n i : Nat} {x : MoWord} (h : ValidWord c s n i x) : wordErrOf c s n i x = 0 := by
  unfold wordErrOf
  have h1 := h.says
  have h2 := h.sum
  have h3 := h.back
  rw [if_pos (inB_iff.2 h1)]
  have h4 : inB x.of 0 ((if 2 ≤ x.says then (s : Int) else c) - 1) = true := by
    rw [inB_iff]
    by_cases hs : 2 ≤ x.says
    · rw [if_pos hs]; have := h.of2 hs; omega
    · rw [if_neg hs]; have := h.of1 (by omega); omega
  rw [if_pos (by rw [h4, inB_iff.2 (show 0 ≤ x.sum ∧ x.sum ≤ (s : Int) - 1 by omega), inB_iff.2 (show -1 ≤ x.back ∧ x.back ≤ (n : Int) - 1 by omega)]; rfl)]
  rw [if_neg]
  rintro (h5 | ⟨h5, h6⟩)
  · exact h3.2.2 h5
  · exact (h.of2 h5).2.2 h6
theorem wordErr_at {m : MoList} {i : Nat} (hi : i < m.words.length) : wordErr m i = wordErrOf m.claimants.length m.sums.length m.words.length i m.words[i] := by
  unfold wordErr; rw [List.getElem?_eq_getElem hi]

theorem wordsSo_iff {m : MoList} {t : List Int} : wordsSo m t = true ↔ ∀ i (h : i < m.words.length), counts m i = true → so m.words[i] t = true := by
  unfold wordsSo
  rw [List.all_eq_true]
  constructor
  · intro h i hi hc
    have := h i (by simpa using hi)
    rw [List.getElem?_eq_getElem hi, hc] at this
    simpa using this
  · intro h i hi
    have hi' : i < m.words.length := by simpa using hi
    rw [List.getElem?_eq_getElem hi']
    cases hc : counts m i
    · rfl
    · simpa using h i hi' hc
theorem so_pre {c s n i : Nat} {w : MoWord} (hv : ValidWord c s n i w) (t : List Int) (x : Int) (h : so w (t ++ [x]) = true) : so w t = true := by
  have h1 := hv.says
  have h2 := hv.sum
  unfold so at h ⊢
  by_cases a : (t.length : Int) ≤ w.sum
  · rw [if_pos a]
  · rw [if_neg a]
    rw [if_neg (by simp; omega)] at h
    rw [List.getElem?_append_left (by omega : w.sum.toNat < t.length)] at h
    by_cases b0 : w.says = 0
    · rw [if_pos b0] at h ⊢; exact h
    · rw [if_neg b0] at h ⊢
      by_cases b1 : w.says = 1
      · rw [if_pos b1] at h ⊢; exact h
      · rw [if_neg b1] at h ⊢
        have h3 := hv.of2 (by omega)
        by_cases d : (t.length : Int) ≤ w.of
        · have e : decide ((t.length : Int) ≤ w.of) = true := by simpa using d
          rw [e]
          simp
        · have e : decide ((t.length : Int) ≤ w.of) = false := by simpa using d
          have e2 : decide (((t ++ [x]).length : Int) ≤ w.of) = false := by simp; omega
          rw [List.getElem?_append_left (by omega : w.of.toNat < t.length), e2] at h
          rw [e]
          exact h
theorem so_nil {c s n i : Nat} {w : MoWord} (hv : ValidWord c s n i w) : so w [] = true := by
  unfold so
  rw [if_pos (by have := hv.sum; simpa using this.1)]
theorem wordsSo_pre {m : MoList} (hv : Valid m) {t : List Int} {x : Int} (h : wordsSo m (t ++ [x]) = true) : wordsSo m t = true := by
  rw [wordsSo_iff] at h ⊢
  exact fun i hi hc => so_pre (hv.words i hi) t x (h i hi hc)
theorem wSo_nil {m : MoList} (hv : Valid m) : wordsSo m [] = true := by
  rw [wordsSo_iff]
  exact fun i hi _ => so_nil (hv.words i hi)
def forAt (m : MoList) (j : Nat) : Int := match m.sums[j]? with | some s => s.for_ | none => 0
theorem forAt_eq {m : MoList} {j : Nat} (h : j < m.sums.length) : forAt m j = m.sums[j].for_ := by unfold forAt; rw [List.getElem?_eq_getElem h]
/-- Claimants of the first n sums that all that came is so of. -/
structure Tru (m : MoList) (n : Nat) (t : List Int) : Prop where
  len : t.length = n
  at_ : ∀ j (_ : j < t.length), 0 ≤ t[j] ∧ t[j] < m.claimants.length ∧ bitB (forAt m j) t[j].toNat = true
  so : wordsSo m t = true
theorem truthsTo_iff {m : MoList} (hv : Valid m) : ∀ (n : Nat) (t : List Int), t ∈ truthsTo m n ↔ Tru m n t
  | 0, t => by
    show t ∈ [[]] ↔ _
    rw [List.mem_singleton]
    constructor
    · rintro rfl
      exact ⟨rfl, fun j h => absurd h (Nat.not_lt_zero j), wSo_nil hv⟩
    · rintro ⟨h, -, -⟩
      exact List.eq_nil_of_length_eq_zero h
  | n + 1, t => by
    show t ∈ (truthsTo m n).flatMap (truthStep m n) ↔ _
    rw [List.mem_flatMap]
    constructor
    · rintro ⟨u, hu, ht⟩
      obtain ⟨h1, h2, h3⟩ := (truthsTo_iff hv n u).1 hu
      unfold truthStep at ht
      obtain ⟨c, hc, rfl⟩ := List.mem_map.1 ht
      obtain ⟨hc1, hc2⟩ := List.mem_filter.1 hc
      have hc1 := List.mem_range.1 hc1
      unfold fine at hc2
      rw [Bool.and_eq_true] at hc2
      refine ⟨by simp [h1], fun j hj => ?_, hc2.2⟩
      by_cases e : j < u.length
      · rw [List.getElem_append_left e]
        exact h2 j e
      · have : j = u.length := by simp at hj; omega
        subst this
        rw [List.getElem_append_right (Nat.le_refl _)]
        simp only [Nat.sub_self, List.getElem_cons_zero]
        refine ⟨by omega, by omega, ?_⟩
        rw [h1]
        exact hc2.1
    · rintro ⟨h1, h2, h3⟩
      rcases nil_snoc t with rfl | ⟨u, x, rfl⟩
      · simp at h1
      · have hl : u.length = n := by simpa using h1
        have hx := h2 u.length (by simp)
        rw [List.getElem_append_right (Nat.le_refl _)] at hx
        simp only [Nat.sub_self, List.getElem_cons_zero] at hx
        refine ⟨u, (truthsTo_iff hv n u).2 ⟨hl, fun j hj => ?_, wordsSo_pre hv h3⟩, ?_⟩
        · have := h2 j (by simp; omega)
          rwa [List.getElem_append_left hj] at this
        · unfold truthStep
          refine List.mem_map.2 ⟨x.toNat, List.mem_filter.2 ⟨List.mem_range.2 (by omega), ?_⟩, by rw [Int.toNat_of_nonneg hx.1]⟩
          unfold fine
          rw [Bool.and_eq_true, Int.toNat_of_nonneg hx.1]
          refine ⟨?_, h3⟩
          rw [hl] at hx
          exact hx.2.2
theorem truths_iff {m : MoList} (hv : Valid m) (t : List Int) : t ∈ truths m ↔ Tru m m.sums.length t := truthsTo_iff hv _ t
/-- Two rows in the order of 'Less' with the same members are the same. -/
theorem sorted_ext : ∀ {A B : List (List Int)}, A.Pairwise (fun a b => less a b = true) → B.Pairwise (fun a b => less a b = true) → (∀ t, t ∈ A ↔ t ∈ B) → A = B
  | [], [], _, _, _ => rfl
  | [], b :: B, _, _, h => absurd ((h b).2 (by simp)) (by simp)
  | a :: A, [], _, _, h => absurd ((h a).1 (by simp)) (by simp)
  | a :: A, b :: B, ha, hb, h => by
    rw [List.pairwise_cons] at ha hb
    have e : a = b := by
      rcases List.mem_cons.1 ((h a).1 (by simp)) with e | h1
      · exact e
      · rcases List.mem_cons.1 ((h b).2 (by simp)) with e | h2
        · exact e.symm
        · have x := less_asymm _ _ (ha.1 b h2)
          rw [hb.1 a h1] at x
          cases x
    subst e
    congr 1
    refine sorted_ext ha.2 hb.2 fun t => ⟨fun ht => ?_, fun ht => ?_⟩
    · rcases List.mem_cons.1 ((h t).1 (by simp [ht])) with e | h1
      · subst e; have x := ha.1 t ht; rw [less_irrefl] at x; cases x
      · exact h1
    · rcases List.mem_cons.1 ((h t).2 (by simp [ht])) with e | h1
      · subst e; have x := hb.1 t ht; rw [less_irrefl] at x; cases x
      · exact h1
theorem truths_same {m k : MoList} (hv : Valid m) (hk : Valid k) (h : ∀ t, Tru m m.sums.length t ↔ Tru k k.sums.length t) : truths m = truths k :=
  sorted_ext (truths_sorted m) (truths_sorted k) fun t => by rw [truths_iff hv, truths_iff hk]; exact h t
theorem counts_iff {m : MoList} {i : Nat} (h : i < m.words.length) : counts m i = true ↔ m.words[i].came = true ∧ ∀ x ∈ m.words, x.came = true → x.back ≠ (i : Int) := by
  unfold counts
  rw [List.getElem?_eq_getElem h]
  simp only [Bool.and_eq_true, List.all_eq_true]
  constructor
  · rintro ⟨h1, h2⟩
    exact ⟨h1, fun x hx hc hb => by have := h2 x hx; rw [hc] at this; simp at this; exact this hb⟩
  · rintro ⟨h1, h2⟩
    refine ⟨h1, fun x hx => ?_⟩
    cases hc : x.came
    · rfl
    · have := h2 x hx hc
      simp [this]
/-- 'Rising' of ascending numbers. -/
theorem risingFrom_incr (below : Int) : ∀ (l : List Int) (last : Int), l.Pairwise (fun a b => a < b) → (∀ x ∈ l, last < x ∧ x < below) → risingFrom last below l = true
  | [], _, _, _ => rfl
  | x :: xs, last, hp, h => by
    rw [List.pairwise_cons] at hp
    have hx := h x (by simp)
    rw [risingFrom, risingFrom_incr below xs x hp.2 fun y hy => ⟨hp.1 y hy, (h y (by simp [hy])).2⟩]
    simp [hx.1, hx.2]
theorem rising_incr {n : Int} {l : List Int} (h : incr n l) : rising l n = true :=
  risingFrom_incr n l (-1) h.1 fun x hx => by have := h.2 x hx; omega
theorem unsure_incr (m : MoList) (all : List (List Int)) : incr m.sums.length (unsure m all) := by
  unfold unsure
  refine ⟨?_, ?_⟩
  · rw [List.pairwise_map]
    exact (List.Pairwise.filter _ List.pairwise_lt_range).imp (fun h => by omega)
  · intro x hx
    obtain ⟨i, hi, rfl⟩ := List.mem_map.1 hx
    have := List.mem_range.1 (List.mem_filter.1 hi).1
    omega
theorem unsure_has (m : MoList) (all : List (List Int)) {i : Nat} (hi : i < m.sums.length) : hasB (unsure m all) i = decide (1 < (whom m.claimants.length all i).length) := by
  rw [Bool.eq_iff_iff, hasB_iff]
  unfold unsure
  rw [List.mem_map]
  constructor
  · rintro ⟨j, hj, e⟩
    have : j = i := by omega
    subst this
    exact (List.mem_filter.1 hj).2
  · intro h
    exact ⟨i, List.mem_filter.2 ⟨List.mem_range.2 hi, h⟩, rfl⟩
/-- What is checked of a list does not hang on which words came. -/
theorem errOf_with (m : MoList) (l : List Int) (h : errOf m = 0) : errOf (withWords m l) = 0 := by
  obtain ⟨a, b, c, d⟩ := errOf_parts h
  have hl : (withWords m l).words.length = m.words.length := cameTo_len m.words l
  refine errOf_of a.1 a.2 b.1 b.2 (by rw [hl]; exact c.1) (fun i hi => ?_) d.1 d.2
  have hi2 : i < m.words.length := by rw [hl] at hi; exact hi
  have := (valid_with (valid_of h) l).words i hi
  rw [wordErr_at hi]
  exact wordErrOf_zero this
theorem whole_of {m : MoList} (h : errOf m = 0) (h2 : 0 < (truths m).length) : wholeErr m = 0 := by
  unfold wholeErr someErr
  rw [if_pos h, if_neg (by omega)]
theorem whole_empty {m : MoList} (h : errOf m = 0) (h2 : (truths m).length = 0) : wholeErr m = 8 := by
  unfold wholeErr someErr
  rw [if_pos h, if_pos h2]
theorem whole_bad {m : MoList} (h : errOf m ≠ 0) : wholeErr m = errOf m := by
  unfold wholeErr someErr
  rw [if_neg h]
end Go.Proofs.Ytnlolliankhfmaa
