/- What is proved here: plain facts on what is paid, held and owed, of layer 7. No program. No condition. -/
/- What is proved here: plain facts on truths of a valid list: which claimants are one; when a list is valid. No program. No condition. -/
/- What is proved here: plain facts of the statement MoneyHeld. No program. No condition. -/
/- What is proved here: plain facts of the statement MoneyTrue. No program. No condition. -/
/- What is proved here: plain facts of the statements MoneyMore, MoneyBack, MoneyNeed: fewer truths, and what follows. No program. No condition. -/
/- What is proved here: plain facts of the statements MoneyNeed, MoneyMore, MoneyBack. No program. No condition. -/
/- What is proved here: plain facts of the statement MoneyPaid. No program. No condition. -/
/- What is proved here: plain facts of the statement MoneyOrder: claimants told in the opposite order. No program. No condition. -/
import Derived.Test.YtnlolliankhfmaaPlain
set_option linter.unusedVariables false
set_option linter.unusedSimpArgs false
namespace Go.Proofs.Ytnlolliankhfmaa

theorem for_whole {m : MoList} (h : wholeErr m = 0) {i : Nat} (hi : i < m.sums.length) : forErr m i = 0 := by
  have he := someErr_zero h
  unfold forErr askedErr
  rw [if_pos he.1, if_pos (inB_iff.2 ⟨by omega, by omega⟩)]
  unfold someErr
  rw [if_pos rfl, if_neg (by omega)]
theorem owed_whole {m : MoList} (h : wholeErr m = 0) {i : Nat} (hi : i < m.claimants.length) : owedErr m i = 0 := by
  have he := someErr_zero h
  unfold owedErr askedErr
  rw [if_pos he.1, if_pos (inB_iff.2 ⟨by omega, by omega⟩)]
  unfold someErr
  rw [if_pos rfl, if_neg (by omega)]
theorem some_bad {m : MoList} {e : Int} (h : wholeErr m ≠ 0) (he : errOf m ≠ 0 → e ≠ 0) : someErr m e ≠ 0 := by
  unfold wholeErr someErr at h
  unfold someErr
  by_cases e0 : e = 0
  · have h1 : errOf m = 0 := Classical.byContradiction fun h2 => he h2 e0
    rw [if_pos h1] at h
    rw [if_pos e0]
    exact h
  · rw [if_neg e0]
    exact e0
theorem asked_bad {m : MoList} {n below : Int} (h : errOf m ≠ 0) : askedErr m n below ≠ 0 := by
  unfold askedErr
  rw [if_neg h]
  exact h
theorem for_bad {m : MoList} (h : wholeErr m ≠ 0) (s : Int) : forErr m s ≠ 0 := some_bad h asked_bad
theorem owed_bad {m : MoList} (h : wholeErr m ≠ 0) (s : Int) : owedErr m s ≠ 0 := some_bad h asked_bad
theorem pay_bad {m : MoList} (h : wholeErr m ≠ 0) (s : Int) : (payOf m s).2 ≠ 0 := by
  unfold payOf
  rw [if_neg (for_bad h s)]
  exact for_bad h s

theorem mem_whom {n i : Nat} {all : List (List Int)} {x : Int} : x ∈ whom n all i ↔ 0 ≤ x ∧ x < n ∧ ∃ t ∈ all, t[i]?.getD 0 = x := by
  unfold whom
  rw [List.mem_map]
  constructor
  · rintro ⟨c, hc, rfl⟩
    obtain ⟨h1, h2⟩ := List.mem_filter.1 hc
    rw [List.any_eq_true] at h2
    obtain ⟨t, ht, h3⟩ := h2
    exact ⟨by omega, by have := List.mem_range.1 h1; omega, t, ht, by simpa using h3⟩
  · rintro ⟨h0, h1, t, ht, h2⟩
    refine ⟨x.toNat, List.mem_filter.2 ⟨List.mem_range.2 (by omega), ?_⟩, by omega⟩
    rw [List.any_eq_true]
    exact ⟨t, ht, by simp; omega⟩
theorem whom_incr (n : Nat) (all : List (List Int)) (i : Nat) : incr n (whom n all i) := by
  unfold whom
  refine ⟨?_, ?_⟩
  · rw [List.pairwise_map]
    exact (List.Pairwise.filter _ List.pairwise_lt_range).imp (fun h => by omega)
  · intro x hx
    have := (mem_whom (n := n) (i := i) (all := all) (x := x)).1 hx
    exact ⟨this.1, this.2.1⟩
theorem truth_whom_mem {m : MoList} {t : List Int} (ht : t ∈ truths m) {i : Nat} (hi : i < m.sums.length) : t[i]?.getD 0 ∈ whom m.claimants.length (truths m) i := by
  have := truth_at m i hi t ht
  exact mem_whom.2 ⟨this.1, this.2, t, ht, rfl⟩

/-- What Pay returns where there is a truth. -/
theorem pay_cases {m : MoList} (h : wholeErr m = 0) {i : Nat} (hi : i < m.sums.length) :
    (∃ c : Int, payOf m i = (c, 0) ∧ whom m.claimants.length (truths m) i = [c] ∧ 0 ≤ c ∧ c < m.claimants.length ∧ ∀ t ∈ truths m, t[i]?.getD 0 = c) ∨ (payOf m i = (0, 9) ∧ 1 < (whom m.claimants.length (truths m) i).length) := by
  have hf := for_whole h hi
  have hp := whom_pos m (whole_valid h).2 i hi
  unfold payOf
  rw [if_pos hf]
  simp only [Int.toNat_natCast]
  by_cases h1 : 1 < (whom m.claimants.length (truths m) i).length
  · rw [if_pos h1]
    exact .inr ⟨rfl, h1⟩
  · rw [if_neg h1]
    left
    have hl : (whom m.claimants.length (truths m) i).length = 1 := by omega
    obtain ⟨c, hc⟩ := List.length_eq_one_iff.1 hl
    have hm : c ∈ whom m.claimants.length (truths m) i := by rw [hc]; simp
    have hb := mem_whom.1 hm
    refine ⟨c, by rw [hc]; rfl, hc, hb.1, hb.2.1, fun t ht => ?_⟩
    have := truth_whom_mem ht hi
    rw [hc] at this
    simpa using this
/-- What Owed returns where there is a truth. -/
theorem owed_cases {m : MoList} (h : wholeErr m = 0) {c : Nat} (hc : c < m.claimants.length) :
    ∃ lo hi : Int, owedOf m c = ((lo, hi), 0) ∧ ∀ t ∈ truths m, lo ≤ dueOf m t c ∧ dueOf m t c ≤ hi := by
  have hs := spanTo_all m (truths m) c (whole_valid h).2
  refine ⟨_, _, ?_, (hs (by have := (whole_valid h).2; intro e; rw [e] at this; simp at this)).2.2⟩
  unfold owedOf
  rw [if_pos (owed_whole h hc)]

/-- What all sums are, the first j. -/
def penceTo (m : MoList) : Nat → Int
  | 0 => 0
  | j + 1 => penceTo m j + penceAt m j
theorem penceTo_bd (m : MoList) (hv : Valid m) : ∀ j, 0 ≤ penceTo m j ∧ penceTo m j ≤ 99 * j
  | 0 => by simp [penceTo]
  | j + 1 => by
    have h := penceTo_bd m hv j
    have hp := pence_bd m hv j
    rw [penceTo]
    omega
/-- What the first n claimants are owed by the first j sums. -/
def duesUpto (m : MoList) (t : List Int) (j : Nat) : Nat → Int
  | 0 => 0
  | n + 1 => duesUpto m t j n + dueTo m t n j
theorem duesUpto_zero (m : MoList) (t : List Int) : ∀ n, duesUpto m t 0 n = 0
  | 0 => rfl
  | n + 1 => by rw [duesUpto, duesUpto_zero m t n]; rfl
theorem duesUpto_succ (m : MoList) (t : List Int) (j : Nat) : ∀ n : Nat, duesUpto m t (j + 1) n = duesUpto m t j n + (if 0 ≤ t[j]?.getD 0 ∧ t[j]?.getD 0 < (n : Int) then penceAt m j else 0)
  | 0 => by rw [duesUpto, duesUpto, if_neg (by omega)]; rfl
  | n + 1 => by
    rw [duesUpto, duesUpto, duesUpto_succ m t j n, dueTo]
    by_cases h1 : t[j]?.getD 0 = (n : Int)
    · rw [if_pos h1, if_neg (by omega), if_pos (by omega)]
      omega
    · rw [if_neg h1]
      by_cases h2 : 0 ≤ t[j]?.getD 0 ∧ t[j]?.getD 0 < (n : Int)
      · rw [if_pos h2, if_pos (by omega)]
        omega
      · rw [if_neg h2, if_neg (by omega)]
        omega
theorem duesUpto_all (m : MoList) (t : List Int) (n : Nat) (ht : ∀ x ∈ t, 0 ≤ x ∧ x < (n : Int)) : ∀ j, j ≤ t.length → duesUpto m t j n = penceTo m j
  | 0, _ => by rw [duesUpto_zero]; rfl
  | j + 1, h => by
    have hj : j < t.length := by omega
    have hb := ht _ (List.getElem_mem hj)
    rw [duesUpto_succ, duesUpto_all m t n ht j (by omega), penceTo, List.getElem?_eq_getElem hj, if_pos (by simpa using hb)]
/-- What all claimants are owed in a truth is what all sums are. -/
theorem dues_all {m : MoList} {t : List Int} (ht : t ∈ truths m) : duesUpto m t m.sums.length m.claimants.length = penceTo m m.sums.length := by
  have hl := truths_len m t ht
  exact duesUpto_all m t _ (truths_bd m t ht) _ (by omega)
theorem due_is {m : MoList} {t : List Int} (ht : t ∈ truths m) (c : Int) : dueOf m t c = dueTo m t c m.sums.length := by unfold dueOf; rw [truths_len m t ht]
theorem duesUpto_bd (m : MoList) (hv : Valid m) (t : List Int) (j : Nat) : ∀ n, 0 ≤ duesUpto m t j n ∧ duesUpto m t j n ≤ 99 * j * n
  | 0 => by simp [duesUpto]
  | n + 1 => by
    have h := duesUpto_bd m hv t j n
    have hp := dueTo_bd m hv t n j
    rw [duesUpto]
    refine ⟨by omega, ?_⟩
    have : (99 * j * (n + 1 : Nat) : Int) = 99 * j * n + 99 * j := by rw [Int.natCast_add, Int.mul_add]; simp
    omega
end Go.Proofs.Ytnlolliankhfmaa
namespace Go.Proofs.Ytnlolliankhfmaa

theorem errOf_of {m : MoList} (h1 : m.claimants.length ≤ 4) (h2 : ∀ i, i < m.claimants.length → claimErr m i = 0) (h3 : m.sums.length ≤ 5) (h4 : ∀ i, i < m.sums.length → sumErr m i = 0)
    (h5 : m.words.length ≤ 6) (h6 : ∀ i, i < m.words.length → wordErr m i = 0) (h7 : m.paid.length ≤ 5) (h8 : ∀ i, i < m.paid.length → paidErr m i = 0) : errOf m = 0 := by
  unfold errOf check
  rw [checkPart_ok h1 h2, checkPart_ok h3 h4, checkPart_ok h5 h6, checkPart_ok h7 h8]
theorem errOf_parts {m : MoList} (h : errOf m = 0) : (m.claimants.length ≤ 4 ∧ ∀ i, i < m.claimants.length → claimErr m i = 0) ∧ (m.sums.length ≤ 5 ∧ ∀ i, i < m.sums.length → sumErr m i = 0) ∧
    (m.words.length ≤ 6 ∧ ∀ i, i < m.words.length → wordErr m i = 0) ∧ m.paid.length ≤ 5 ∧ ∀ i, i < m.paid.length → paidErr m i = 0 := by
  unfold errOf check at h
  obtain ⟨a1, a2, h⟩ := checkPart_zero h
  obtain ⟨b1, b2, h⟩ := checkPart_zero h
  obtain ⟨c1, c2, h⟩ := checkPart_zero h
  obtain ⟨d1, d2, _⟩ := checkPart_zero h
  exact ⟨⟨a1, a2⟩, ⟨b1, b2⟩, ⟨c1, c2⟩, d1, d2⟩
theorem wordErrOf_zero {c s n i : Nat} {x : MoWord} (h : ValidWord c s n i x) : wordErrOf c s n i x = 0 := by
  unfold wordErrOf
  have h1 := h.says
  have h2 := h.sum
  have h3 := h.back
  rw [if_pos (inB_iff.2 h1)]
  have h4 : inB x.of 0 ((if 2 ≤ x.says then (s : Int) else c) - 1) = true := by
    rw [inB_iff]
    by_cases hs : 2 ≤ x.says
    · rw [if_pos hs]; have := h.of2 hs; omega
    · rw [if_neg hs]; have := h.of1 (by omega); omega
  rw [if_pos (by rw [h4, inB_iff.2 (show 0 ≤ x.sum ∧ x.sum ≤ (s : Int) - 1 by omega), inB_iff.2 (show -1 ≤ x.back ∧ x.back ≤ (n : Int) - 1 by omega)]; rfl)]
  rw [if_neg]
  rintro (h5 | ⟨h5, h6⟩)
  · exact h3.2.2 h5
  · exact (h.of2 h5).2.2 h6
theorem wordErr_at {m : MoList} {i : Nat} (hi : i < m.words.length) : wordErr m i = wordErrOf m.claimants.length m.sums.length m.words.length i m.words[i] := by
  unfold wordErr; rw [List.getElem?_eq_getElem hi]

theorem wordsSo_iff {m : MoList} {t : List Int} : wordsSo m t = true ↔ ∀ i (h : i < m.words.length), counts m i = true → so m.words[i] t = true := by
  unfold wordsSo
  rw [List.all_eq_true]
  constructor
  · intro h i hi hc
    have := h i (by simpa using hi)
    rw [List.getElem?_eq_getElem hi, hc] at this
    simpa using this
  · intro h i hi
    have hi' : i < m.words.length := by simpa using hi
    rw [List.getElem?_eq_getElem hi']
    cases hc : counts m i
    · rfl
    · simpa using h i hi' hc
theorem so_pre {c s n i : Nat} {w : MoWord} (hv : ValidWord c s n i w) (t : List Int) (x : Int) (h : so w (t ++ [x]) = true) : so w t = true := by
  have h1 := hv.says
  have h2 := hv.sum
  unfold so at h ⊢
  by_cases a : (t.length : Int) ≤ w.sum
  · rw [if_pos a]
  · rw [if_neg a]
    rw [if_neg (by simp; omega)] at h
    rw [List.getElem?_append_left (by omega : w.sum.toNat < t.length)] at h
    by_cases b0 : w.says = 0
    · rw [if_pos b0] at h ⊢; exact h
    · rw [if_neg b0] at h ⊢
      by_cases b1 : w.says = 1
      · rw [if_pos b1] at h ⊢; exact h
      · rw [if_neg b1] at h ⊢
        have h3 := hv.of2 (by omega)
        by_cases d : (t.length : Int) ≤ w.of
        · have e : decide ((t.length : Int) ≤ w.of) = true := by simpa using d
          rw [e]
          simp
        · have e : decide ((t.length : Int) ≤ w.of) = false := by simpa using d
          have e2 : decide (((t ++ [x]).length : Int) ≤ w.of) = false := by simp; omega
          rw [List.getElem?_append_left (by omega : w.of.toNat < t.length), e2] at h
          rw [e]
          exact h
theorem so_nil {c s n i : Nat} {w : MoWord} (hv : ValidWord c s n i w) : so w [] = true := by
  unfold so
  rw [if_pos (by have := hv.sum; simpa using this.1)]
theorem wordsSo_pre {m : MoList} (hv : Valid m) {t : List Int} {x : Int} (h : wordsSo m (t ++ [x]) = true) : wordsSo m t = true := by
  rw [wordsSo_iff] at h ⊢
  exact fun i hi hc => so_pre (hv.words i hi) t x (h i hi hc)
theorem wSo_nil {m : MoList} (hv : Valid m) : wordsSo m [] = true := by
  rw [wordsSo_iff]
  exact fun i hi _ => so_nil (hv.words i hi)
def forAt (m : MoList) (j : Nat) : Int := match m.sums[j]? with | some s => s.for_ | none => 0
theorem forAt_eq {m : MoList} {j : Nat} (h : j < m.sums.length) : forAt m j = m.sums[j].for_ := by unfold forAt; rw [List.getElem?_eq_getElem h]
/-- Claimants of the first n sums that all that came is so of. -/
structure Tru (m : MoList) (n : Nat) (t : List Int) : Prop where
  len : t.length = n
  at_ : ∀ j (_ : j < t.length), 0 ≤ t[j] ∧ t[j] < m.claimants.length ∧ bitB (forAt m j) t[j].toNat = true
  so : wordsSo m t = true
theorem truthsTo_iff {m : MoList} (hv : Valid m) : ∀ (n : Nat) (t : List Int), t ∈ truthsTo m n ↔ Tru m n t
  | 0, t => by
    show t ∈ [[]] ↔ _
    rw [List.mem_singleton]
    constructor
    · rintro rfl
      exact ⟨rfl, fun j h => absurd h (Nat.not_lt_zero j), wSo_nil hv⟩
    · rintro ⟨h, -, -⟩
      exact List.eq_nil_of_length_eq_zero h
  | n + 1, t => by
    show t ∈ (truthsTo m n).flatMap (truthStep m n) ↔ _
    rw [List.mem_flatMap]
    constructor
    · rintro ⟨u, hu, ht⟩
      obtain ⟨h1, h2, h3⟩ := (truthsTo_iff hv n u).1 hu
      unfold truthStep at ht
      obtain ⟨c, hc, rfl⟩ := List.mem_map.1 ht
      obtain ⟨hc1, hc2⟩ := List.mem_filter.1 hc
      have hc1 := List.mem_range.1 hc1
      unfold fine at hc2
      rw [Bool.and_eq_true] at hc2
      refine ⟨by simp [h1], fun j hj => ?_, hc2.2⟩
      by_cases e : j < u.length
      · rw [List.getElem_append_left e]
        exact h2 j e
      · have : j = u.length := by simp at hj; omega
        subst this
        rw [List.getElem_append_right (Nat.le_refl _)]
        simp only [Nat.sub_self, List.getElem_cons_zero]
        refine ⟨by omega, by omega, ?_⟩
        rw [h1]
        exact hc2.1
    · rintro ⟨h1, h2, h3⟩
      rcases nil_snoc t with rfl | ⟨u, x, rfl⟩
      · simp at h1
      · have hl : u.length = n := by simpa using h1
        have hx := h2 u.length (by simp)
        rw [List.getElem_append_right (Nat.le_refl _)] at hx
        simp only [Nat.sub_self, List.getElem_cons_zero] at hx
        refine ⟨u, (truthsTo_iff hv n u).2 ⟨hl, fun j hj => ?_, wordsSo_pre hv h3⟩, ?_⟩
        · have := h2 j (by simp; omega)
          rwa [List.getElem_append_left hj] at this
        · unfold truthStep
          refine List.mem_map.2 ⟨x.toNat, List.mem_filter.2 ⟨List.mem_range.2 (by omega), ?_⟩, by rw [Int.toNat_of_nonneg hx.1]⟩
          unfold fine
          rw [Bool.and_eq_true, Int.toNat_of_nonneg hx.1]
          refine ⟨?_, h3⟩
          rw [hl] at hx
          exact hx.2.2
theorem truths_iff {m : MoList} (hv : Valid m) (t : List Int) : t ∈ truths m ↔ Tru m m.sums.length t := truthsTo_iff hv _ t
/-- Two rows in the order of 'Less' with the same members are the same. -/
theorem sorted_ext : ∀ {A B : List (List Int)}, A.Pairwise (fun a b => less a b = true) → B.Pairwise (fun a b => less a b = true) → (∀ t, t ∈ A ↔ t ∈ B) → A = B
  | [], [], _, _, _ => rfl
  | [], b :: B, _, _, h => absurd ((h b).2 (by simp)) (by simp)
  | a :: A, [], _, _, h => absurd ((h a).1 (by simp)) (by simp)
  | a :: A, b :: B, ha, hb, h => by
    rw [List.pairwise_cons] at ha hb
    have e : a = b := by
      rcases List.mem_cons.1 ((h a).1 (by simp)) with e | h1
      · exact e
      · rcases List.mem_cons.1 ((h b).2 (by simp)) with e | h2
        · exact e.symm
        · have x := less_asymm _ _ (ha.1 b h2)
          rw [hb.1 a h1] at x
          cases x
    subst e
    congr 1
    refine sorted_ext ha.2 hb.2 fun t => ⟨fun ht => ?_, fun ht => ?_⟩
    · rcases List.mem_cons.1 ((h t).1 (by simp [ht])) with e | h1
      · subst e; have x := ha.1 t ht; rw [less_irrefl] at x; cases x
      · exact h1
    · rcases List.mem_cons.1 ((h t).2 (by simp [ht])) with e | h1
      · subst e; have x := hb.1 t ht; rw [less_irrefl] at x; cases x
      · exact h1
theorem truths_same {m k : MoList} (hv : Valid m) (hk : Valid k) (h : ∀ t, Tru m m.sums.length t ↔ Tru k k.sums.length t) : truths m = truths k :=
  sorted_ext (truths_sorted m) (truths_sorted k) fun t => by rw [truths_iff hv, truths_iff hk]; exact h t
theorem counts_iff {m : MoList} {i : Nat} (h : i < m.words.length) : counts m i = true ↔ m.words[i].came = true ∧ ∀ x ∈ m.words, x.came = true → x.back ≠ (i : Int) := by
  unfold counts
  rw [List.getElem?_eq_getElem h]
  simp only [Bool.and_eq_true, List.all_eq_true]
  constructor
  · rintro ⟨h1, h2⟩
    exact ⟨h1, fun x hx hc hb => by have := h2 x hx; rw [hc] at this; simp at this; exact this hb⟩
  · rintro ⟨h1, h2⟩
    refine ⟨h1, fun x hx => ?_⟩
    cases hc : x.came
    · rfl
    · have := h2 x hx hc
      simp [this]
/-- 'Rising' of ascending numbers. -/
theorem risingFrom_incr (below : Int) : ∀ (l : List Int) (last : Int), l.Pairwise (fun a b => a < b) → (∀ x ∈ l, last < x ∧ x < below) → risingFrom last below l = true
  | [], _, _, _ => rfl
  | x :: xs, last, hp, h => by
    rw [List.pairwise_cons] at hp
    have hx := h x (by simp)
    rw [risingFrom, risingFrom_incr below xs x hp.2 fun y hy => ⟨hp.1 y hy, (h y (by simp [hy])).2⟩]
    simp [hx.1, hx.2]
theorem rising_incr {n : Int} {l : List Int} (h : incr n l) : rising l n = true :=
  risingFrom_incr n l (-1) h.1 fun x hx => by have := h.2 x hx; omega
theorem unsure_incr (m : MoList) (all : List (List Int)) : incr m.sums.length (unsure m all) := by
  unfold unsure
  refine ⟨?_, ?_⟩
  · rw [List.pairwise_map]
    exact (List.Pairwise.filter _ List.pairwise_lt_range).imp (fun h => by omega)
  · intro x hx
    obtain ⟨i, hi, rfl⟩ := List.mem_map.1 hx
    have := List.mem_range.1 (List.mem_filter.1 hi).1
    omega
theorem unsure_has (m : MoList) (all : List (List Int)) {i : Nat} (hi : i < m.sums.length) : hasB (unsure m all) i = decide (1 < (whom m.claimants.length all i).length) := by
  rw [Bool.eq_iff_iff, hasB_iff]
  unfold unsure
  rw [List.mem_map]
  constructor
  · rintro ⟨j, hj, e⟩
    have : j = i := by omega
    subst this
    exact (List.mem_filter.1 hj).2
  · intro h
    exact ⟨i, List.mem_filter.2 ⟨List.mem_range.2 hi, h⟩, rfl⟩
/-- What is checked of a list does not hang on which words came. -/
theorem errOf_with (m : MoList) (l : List Int) (h : errOf m = 0) : errOf (withWords m l) = 0 := by
  obtain ⟨a, b, c, d⟩ := errOf_parts h
  have hl : (withWords m l).words.length = m.words.length := cameTo_len m.words l
  refine errOf_of a.1 a.2 b.1 b.2 (by rw [hl]; exact c.1) (fun i hi => ?_) d.1 d.2
  have hi2 : i < m.words.length := by rw [hl] at hi; exact hi
  have := (valid_with (valid_of h) l).words i hi
  rw [wordErr_at hi]
  exact wordErrOf_zero this
theorem whole_of {m : MoList} (h : errOf m = 0) (h2 : 0 < (truths m).length) : wholeErr m = 0 := by
  unfold wholeErr someErr
  rw [if_pos h, if_neg (by omega)]
theorem whole_empty {m : MoList} (h : errOf m = 0) (h2 : (truths m).length = 0) : wholeErr m = 8 := by
  unfold wholeErr someErr
  rw [if_pos h, if_pos h2]
theorem whole_bad {m : MoList} (h : errOf m ≠ 0) : wholeErr m = errOf m := by
  unfold wholeErr someErr
  rw [if_neg h]
end Go.Proofs.Ytnlolliankhfmaa
namespace Go.Proofs.Ytnlolliankhfmaa

theorem held_no {m : MoList} (h : wholeErr m ≠ 0) : heldOf m = ([], wholeErr m) := by unfold heldOf; rw [if_neg h]
theorem wait_no {m : MoList} (h : wholeErr m ≠ 0) : waitOf m = ([], wholeErr m) := by unfold waitOf; rw [if_neg h]
theorem held_yes {m : MoList} (h : wholeErr m = 0) : heldOf m = (unsure m (truths m), 0) := by unfold heldOf; rw [if_pos h]
theorem for_yes {m : MoList} (h : wholeErr m = 0) {i : Nat} (hi : i < m.sums.length) : forOf m i = (whom m.claimants.length (truths m) i, 0) := by
  unfold forOf; rw [if_pos (for_whole h hi)]; simp

/-- The numbers of a list at whose index a bit is. -/
def pickTo (l : List Int) (b : Int) : Nat → List Int
  | 0 => []
  | j + 1 => pickTo l b j ++ (if bitB b j then [l[j]?.getD 0] else [])
theorem pickTo_sub (l : List Int) (b : Int) : ∀ j, j ≤ l.length → (pickTo l b j).Sublist (l.take j)
  | 0, _ => by simp [pickTo]
  | j + 1, h => by
    have hj : j < l.length := by omega
    rw [pickTo, List.take_succ_eq_append_getElem hj]
    refine List.Sublist.append (pickTo_sub l b j (by omega)) ?_
    rw [List.getElem?_eq_getElem hj]
    split <;> simp
theorem pickTo_yes {l : List Int} {b : Int} {j : Nat} (h : j < l.length) (hb : bitB b j = true) : pickTo l b (j + 1) = pickTo l b j ++ [l[j]] := by
  rw [pickTo, if_pos hb, List.getElem?_eq_getElem h]; rfl
theorem pickTo_no {l : List Int} {b : Int} {j : Nat} (hb : bitB b j = false) : pickTo l b (j + 1) = pickTo l b j := by
  rw [pickTo, if_neg (by simp [hb])]; simp
theorem pickTo_len (l : List Int) (b : Int) : ∀ j, (pickTo l b j).length ≤ j
  | 0 => by simp [pickTo]
  | j + 1 => by
    have := pickTo_len l b j
    rw [pickTo, List.length_append]
    split <;> simp <;> omega
theorem pick_wait (m : MoList) (b : Int) (h : decides m (pickTo (lateWords m) b (lateWords m).length) = true) : WaitP m (pickTo (lateWords m) b (lateWords m).length) := by
  have hs := pickTo_sub (lateWords m) b _ (Nat.le_refl _)
  rw [List.take_length] at hs
  have hi := late_incr m
  exact ⟨⟨List.Pairwise.sublist hs hi.1, fun x hx => hi.2 x (hs.subset hx)⟩, fun x hx => hs.subset hx, h⟩
theorem pick_bd (m : MoList) (b : Int) : ∀ x ∈ pickTo (lateWords m) b (lateWords m).length, 0 ≤ x ∧ x < m.words.length := by
  have hs := pickTo_sub (lateWords m) b _ (Nat.le_refl _)
  rw [List.take_length] at hs
  exact fun x hx => (late_incr m).2 x (hs.subset hx)

/-- No words can be waited for: so no bits of words decide. -/
theorem wait_none {m : MoList} (h0 : wholeErr m = 0) (h : (waitOf m).2 ≠ 0) : waitOf m = ([], 9) ∧ ∀ b : Int, decides m (pickTo (lateWords m) b (lateWords m).length) = false := by
  rcases wait_spec m h0 with ⟨h1, _⟩ | ⟨h1, h2, h3⟩
  · exact absurd h1 h
  · refine ⟨Prod.ext h2 h1, fun b => ?_⟩
    cases hd : decides m (pickTo (lateWords m) b (lateWords m).length)
    · rfl
    · exact absurd (pick_wait m b hd) (h3 _)
/-- Words can be waited for: these are ascending, late, first; they decide. -/
theorem wait_some {m : MoList} (h0 : wholeErr m = 0) (h : (waitOf m).2 = 0) : rising (waitOf m).1 m.words.length = true ∧ (∀ b : Int, decides m (pickTo (lateWords m) b (lateWords m).length) = true → fewer (pickTo (lateWords m) b (lateWords m).length) (waitOf m).1 = false) ∧
    (∀ x ∈ (waitOf m).1, hasB (lateWords m) x = true) ∧ (∀ x ∈ (waitOf m).1, 0 ≤ x ∧ x < m.words.length) ∧ heldOf (withWords m (waitOf m).1) = ([], 0) := by
  rcases wait_spec m h0 with ⟨_, ⟨h2, h3⟩⟩ | ⟨h1, _⟩
  · obtain ⟨hi, hl, hd⟩ := h2
    refine ⟨rising_incr hi, fun b hb => ?_, fun x hx => hasB_iff.2 (hl x hx), hi.2, ?_⟩
    · rcases h3 _ (pick_wait m b hb) with e | e
      · rw [e]; exact fewer_irrefl _
      · exact fewer_asymm e
    · have he := errOf_with m (waitOf m).1 (someErr_zero h0).1
      unfold decides at hd
      simp only [Bool.and_eq_true, Bool.not_eq_true', List.isEmpty_iff] at hd
      obtain ⟨d1, d2⟩ := hd
      have hpos : 0 < (truths (withWords m (waitOf m).1)).length := by
        rw [List.length_pos_iff]
        intro e
        rw [e] at d1
        simp at d1
      rw [held_yes (whole_of he hpos), d2]
  · rw [h1] at h
    exact absurd h (by decide)
end Go.Proofs.Ytnlolliankhfmaa
namespace Go.Proofs.Ytnlolliankhfmaa

def flipSays (s : Int) : Int := if s = 0 then 1 else if s = 1 then 0 else if s = 2 then 3 else 2
def toldSum (t : List Int) (i : Nat) (s : MoSum) : MoSum := { s with for_ := if bitB s.for_ (t[i]?.getD 0).toNat then s.for_ else s.for_ + 2 ^ (t[i]?.getD 0).toNat }
def toldWord (t : List Int) (w : MoWord) : MoWord := if so w t then w else { w with says := flipSays w.says }
/-- The list of which all that is told is so, of some claimants; and payments. -/
def told (m : MoList) (t : List Int) (p : List MoPaid) : MoList := { claimants := m.claimants, sums := m.sums.mapIdx (toldSum t), words := m.words.map (toldWord t), paid := p }
theorem told_bits : ∀ n : Nat, n ≤ 4 → ∀ f : Nat, f < 2 ^ n → ∀ c : Nat, c < n → f.testBit c = false → f + 2 ^ c < 2 ^ n ∧ (f + 2 ^ c).testBit c = true := by decide
theorem flip_bd {s : Int} (h : 0 ≤ s ∧ s ≤ 3) : (0 ≤ flipSays s ∧ flipSays s ≤ 3) ∧ (2 ≤ flipSays s ↔ 2 ≤ s) := by
  unfold flipSays
  repeat' split
  all_goals omega
theorem toldWord_valid {c s n i : Nat} {w : MoWord} (h : ValidWord c s n i w) (t : List Int) : ValidWord c s n i (toldWord t w) := by
  unfold toldWord
  split
  · exact h
  · have hf := flip_bd h.says
    exact ⟨hf.1, h.sum, fun h1 => h.of1 (by have h1 : flipSays w.says < 2 := h1; have := hf.2; omega), fun h1 => h.of2 (hf.2.1 h1), h.back⟩
theorem toldWord_so {c s n i : Nat} {w : MoWord} (h : ValidWord c s n i w) (t : List Int) (ht : t.length = s) : so (toldWord t w) t = true := by
  unfold toldWord
  by_cases hs : so w t = true
  · rw [if_pos hs]; exact hs
  · rw [if_neg hs]
    have h0 := h.says
    have h1 := h.sum
    unfold so at hs ⊢
    simp only
    rw [if_neg (show ¬ (t.length : Int) ≤ w.sum by omega)] at hs ⊢
    unfold flipSays
    by_cases a : w.says = 0
    · rw [if_pos a] at hs
      rw [if_pos a, if_neg (by decide), if_pos rfl]
      simpa using hs
    · rw [if_neg a] at hs
      by_cases b : w.says = 1
      · rw [if_pos b] at hs
        rw [if_neg a, if_pos b, if_pos rfl]
        simpa using hs
      · rw [if_neg b] at hs
        have h2 := h.of2 (by omega)
        have e : decide ((t.length : Int) ≤ w.of) = false := by simp; omega
        rw [e] at hs ⊢
        by_cases d : w.says = 2
        · rw [if_pos d] at hs
          rw [if_neg a, if_neg b, if_pos d, if_neg (by decide), if_neg (by decide), if_neg (by decide)]
          simpa using hs
        · rw [if_neg d] at hs
          rw [if_neg a, if_neg b, if_neg d, if_neg (by decide), if_neg (by decide), if_pos rfl]
          simpa using hs
theorem allBits_cast (n : Nat) : allBits n = ((2 ^ n - 1 : Nat) : Int) := by
  unfold allBits
  have : 1 ≤ 2 ^ n := Nat.one_le_two_pow
  rw [Int.natCast_sub this, Int.natCast_pow]
  rfl
theorem told_sum_for {n : Nat} (hn : n ≤ 4) {s : MoSum} (h : 1 ≤ s.for_ ∧ s.for_ ≤ allBits n) {t : List Int} {i : Nat} (ht : 0 ≤ t[i]?.getD 0 ∧ t[i]?.getD 0 < n) :
    (1 ≤ (toldSum t i s).for_ ∧ (toldSum t i s).for_ ≤ allBits n) ∧ bitB (toldSum t i s).for_ (t[i]?.getD 0).toNat = true := by
  unfold toldSum
  simp only
  obtain ⟨f, hf⟩ := Int.eq_ofNat_of_zero_le (show 0 ≤ s.for_ by omega)
  obtain ⟨c, hc⟩ := Int.eq_ofNat_of_zero_le ht.1
  rw [hc] at ht ⊢
  rw [hf, allBits_cast] at h
  rw [hf, allBits_cast]
  have h1 : 1 ≤ 2 ^ n := Nat.one_le_two_pow
  have hlt : f < 2 ^ n := by omega
  by_cases hb : bitB (f : Int) (Int.toNat (c : Int)) = true
  · rw [if_pos hb]
    exact ⟨h, hb⟩
  · rw [if_neg hb]
    have hb' : f.testBit c = false := by simpa [bitB] using hb
    obtain ⟨h2, h3⟩ := told_bits n hn f hlt c (by omega) hb'
    have e : (f : Int) + 2 ^ (Int.toNat (c : Int)) = ((f + 2 ^ c : Nat) : Int) := by rw [Int.toNat_natCast, Int.natCast_add, Int.natCast_pow]; rfl
    rw [e]
    refine ⟨?_, ?_⟩
    · clear h3 e hb hb'
      generalize 2 ^ c = C at h2 ⊢
      generalize 2 ^ n = M at h h1 hlt h2 ⊢
      omega
    · show Nat.testBit (Int.toNat ((f + 2 ^ c : Nat) : Int)) (Int.toNat (c : Int)) = true
      rw [Int.toNat_natCast, Int.toNat_natCast]
      exact h3
structure TurnsOf (m : MoList) (t : List Int) : Prop where
  len : t.length = m.sums.length
  bd : ∀ j (_ : j < t.length), 0 ≤ t[j] ∧ t[j] < m.claimants.length
theorem TurnsOf.at_ {m : MoList} {t : List Int} (h : TurnsOf m t) {i : Nat} (hi : i < m.sums.length) : 0 ≤ t[i]?.getD 0 ∧ t[i]?.getD 0 < m.claimants.length := by
  rw [List.getElem?_eq_getElem (by rw [h.len]; exact hi)]
  exact h.bd i (by rw [h.len]; exact hi)
def PaidOk (m : MoList) (p : List MoPaid) : Prop := p.length ≤ 5 ∧ ∀ x ∈ p, (0 ≤ x.sum ∧ x.sum < m.sums.length) ∧ 0 ≤ x.claimant ∧ x.claimant < m.claimants.length
theorem paidErr_zero {m : MoList} (h : PaidOk m m.paid) : ∀ i, i < m.paid.length → paidErr m i = 0 := by
  intro i hi
  have := h.2 _ (List.getElem_mem hi)
  unfold paidErr
  rw [List.getElem?_eq_getElem hi]
  simp only
  rw [if_pos]
  rw [Bool.and_eq_true, inB_iff, inB_iff]
  omega
theorem told_valid {m : MoList} (h : errOf m = 0) {t : List Int} (ht : TurnsOf m t) {p : List MoPaid} (hp : PaidOk m p) : errOf (told m t p) = 0 := by
  obtain ⟨a, b, c, d⟩ := errOf_parts h
  have hv := valid_of h
  have hl : (told m t p).sums.length = m.sums.length := by simp [told]
  have hwl : (told m t p).words.length = m.words.length := by simp [told]
  refine errOf_of a.1 a.2 (by rw [hl]; exact b.1) (fun i hi => ?_) (by rw [hwl]; exact c.1) (fun i hi => ?_) hp.1 (paidErr_zero (m := told m t p) ⟨hp.1, fun x hx => by rw [hl]; exact hp.2 x hx⟩)
  · have hi2 : i < m.sums.length := by rw [hl] at hi; exact hi
    have hs := b.2 i hi2
    have hv2 := hv.sums i hi2
    obtain ⟨f1, f2⟩ := told_sum_for hv.nc hv2.2 (ht.at_ hi2)
    have e1 : (told m t p).sums[i]? = some (toldSum t i m.sums[i]) := by simp [told, hi2]
    have e2 : ((told m t p).sums.take i).map MoSum.name = (m.sums.take i).map MoSum.name := by
      apply List.ext_getElem?
      intro j
      simp only [told, List.getElem?_map, List.getElem?_take]
      split
      · rw [List.getElem?_mapIdx]
        cases m.sums[j]? <;> rfl
      · rfl
    unfold sumErr at hs ⊢
    rw [List.getElem?_eq_getElem hi2] at hs
    rw [e1, e2]
    simp only at hs ⊢
    have hn : (toldSum t i m.sums[i]).name = m.sums[i].name := rfl
    have hp2 : (toldSum t i m.sums[i]).pence = m.sums[i].pence := rfl
    rw [hn, hp2]
    by_cases hf : fresh m.sums[i].name ((m.sums.take i).map MoSum.name) = 0
    · rw [if_pos hf, if_pos]
      rw [Bool.and_eq_true, inB_iff, inB_iff]
      exact ⟨hv2.1, f1⟩
    · rw [if_neg hf] at hs
      exact absurd hs hf
  · have hi2 : i < m.words.length := by rw [hwl] at hi; exact hi
    have e : (told m t p).words[i] = toldWord t m.words[i] := by simp [told]
    rw [wordErr_at hi, e]
    apply wordErrOf_zero
    rw [hl, hwl]
    exact toldWord_valid (hv.words i hi2) t
theorem told_truth {m : MoList} (h : errOf m = 0) {t : List Int} (ht : TurnsOf m t) {p : List MoPaid} (hp : PaidOk m p) : t ∈ truths (told m t p) := by
  have hv := valid_of h
  have hk := told_valid h ht hp
  have hl : (told m t p).sums.length = m.sums.length := by simp [told]
  rw [truths_iff (valid_of hk)]
  refine ⟨by rw [hl]; exact ht.len, fun j hj => ?_, ?_⟩
  · have hj2 : j < m.sums.length := by rw [← ht.len]; exact hj
    have hb := ht.bd j hj
    refine ⟨hb.1, hb.2, ?_⟩
    have e1 : (told m t p).sums[j]? = some (toldSum t j m.sums[j]) := by simp [told, hj2]
    obtain ⟨-, f2⟩ := told_sum_for hv.nc (hv.sums j hj2).2 (ht.at_ hj2)
    unfold forAt
    rw [e1]
    rw [List.getElem?_eq_getElem hj] at f2
    exact f2
  · rw [wordsSo_iff]
    intro i hi _
    have hi2 : i < m.words.length := by simpa [told] using hi
    have e : (told m t p).words[i] = toldWord t m.words[i] := by simp [told]
    rw [e]
    exact toldWord_so (hv.words i hi2) t ht.len
theorem told_whole {m : MoList} (h : errOf m = 0) {t : List Int} (ht : TurnsOf m t) {p : List MoPaid} (hp : PaidOk m p) : wholeErr (told m t p) = 0 :=
  whole_of (told_valid h ht hp) (List.length_pos_of_mem (told_truth h ht hp))
/-- What the first sums were paid, by some claimants. -/
def paidTo (t : List Int) (j : Nat) : List MoPaid := (List.range j).map fun (i : Nat) => ⟨i, t[i]?.getD 0⟩
theorem paidTo_succ (t : List Int) (j : Nat) (h : j < t.length) : paidTo t (j + 1) = paidTo t j ++ [⟨j, t[j]⟩] := by
  unfold paidTo
  rw [List.range_succ, List.map_append, List.map_singleton, List.getElem?_eq_getElem h]
  rfl
theorem paidTo_ok {m : MoList} (hv : Valid m) {t : List Int} (ht : TurnsOf m t) {j : Nat} (hj : j ≤ m.sums.length) : PaidOk m (paidTo t j) := by
  refine ⟨by simp [paidTo]; have := hv.nz; omega, fun x hx => ?_⟩
  unfold paidTo at hx
  obtain ⟨i, hi, rfl⟩ := List.mem_map.1 hx
  have hi := List.mem_range.1 hi
  have := ht.at_ (show i < m.sums.length by omega)
  exact ⟨⟨by simp only; omega, by simp only; omega⟩, this⟩
theorem right_nil {m : MoList} {t : List Int} (h1 : ∀ i (h : i < m.paid.length), t[m.paid[i].sum.toNat]?.getD 0 = m.paid[i].claimant) (h2 : ∀ i k (hi : i < m.paid.length) (hk : k < i), (m.paid[k]'(by omega)).sum ≠ m.paid[i].sum) : right m t [] = true := by
  refine right_true fun i hi => rightAt_ok hi (h1 i hi) fun k hk => ?_
  rw [pairOk_eq (by omega)]
  have := h2 i k hi hk
  simp [hasB, this]
theorem wrong_nil {m : MoList} (h0 : wholeErr m = 0) {t : List Int} (ht : t ∈ truths m) (h : right m t [] = true) : wrongOf m = ([], 0) := by
  have hf := wrong_first m h0
  have hs : someRight m (truths m) [] = true := by
    unfold someRight
    rw [List.any_eq_true]
    exact ⟨t, ht, h⟩
  have e : (wrongOf m).1 = [] := by
    rcases hf.2 [] ⟨incr_nil _, hs⟩ with e | e
    · exact e.symm
    · unfold fewer at e
      by_cases hl : (wrongOf m).1.length = ([] : List Int).length
      · exact List.eq_nil_of_length_eq_zero hl
      · rw [if_neg hl] at e
        simp at e
  have e2 : (wrongOf m).2 = 0 := by unfold wrongOf; rw [if_pos h0]
  exact Prod.ext e e2
theorem told_wrong {m : MoList} (h : errOf m = 0) {t : List Int} (ht : TurnsOf m t) : wrongOf (told m t (paidTo t m.sums.length)) = ([], 0) := by
  have hp := paidTo_ok (valid_of h) ht (Nat.le_refl m.sums.length)
  have hpl : (told m t (paidTo t m.sums.length)).paid.length = m.sums.length := by simp [told, paidTo]
  have hpa : ∀ i (h : i < (told m t (paidTo t m.sums.length)).paid.length), (told m t (paidTo t m.sums.length)).paid[i] = ⟨i, t[i]?.getD 0⟩ := by intro i h; simp [told, paidTo]
  refine wrong_nil (told_whole h ht hp) (told_truth h ht hp) (right_nil (fun i hi => ?_) (fun i k hi hk => ?_))
  · rw [hpa i hi]; simp
  · rw [hpa i hi, hpa k (by omega)]; simp; omega
theorem first_is {m : MoList} (h0 : wholeErr m = 0) : ∃ l n, firstOf m = (l, n, 0) ∧ 1 ≤ n ∧ ∀ t ∈ truths m, less t l = false := by
  have hp := (whole_valid h0).2
  refine ⟨_, _, by unfold firstOf; rw [if_pos h0], by omega, fun t ht => ?_⟩
  have hs := truths_sorted m
  generalize truths m = T at *
  cases T with
  | nil => simp at hp
  | cons a T =>
    rw [List.pairwise_cons] at hs
    rcases List.mem_cons.1 ht with e | h
    · subst e; exact less_irrefl _
    · exact less_asymm _ _ (hs.1 t h)
end Go.Proofs.Ytnlolliankhfmaa
namespace Go.Proofs.Ytnlolliankhfmaa

theorem sub_len : ∀ {A B : List (List Int)}, A.Pairwise (fun a b => less a b = true) → B.Pairwise (fun a b => less a b = true) → (∀ t ∈ A, t ∈ B) → A.length ≤ B.length := by
  intro A B ha hb h
  have e : A = B.filter (fun t => decide (t ∈ A)) := by
    refine sorted_ext ha (List.Pairwise.filter _ hb) fun t => ⟨fun ht => List.mem_filter.2 ⟨h t ht, by simpa using ht⟩, fun ht => by simpa using (List.mem_filter.1 ht).2⟩
  rw [e]
  exact List.length_filter_le _ _
theorem filter_len {α : Type} {p q : α → Bool} : ∀ (l : List α), (∀ x ∈ l, p x = true → q x = true) → (l.filter p).length ≤ (l.filter q).length
  | [], _ => Nat.le_refl _
  | x :: l, h => by
    have ih := filter_len l fun y hy => h y (by simp [hy])
    have hx := h x (by simp)
    rw [List.filter_cons, List.filter_cons]
    cases hp : p x
    · simp only [Bool.false_eq_true, if_false]
      split
      · simp only [List.length_cons]; omega
      · exact ih
    · rw [hp] at hx
      rw [hx rfl]
      simp only [if_true, List.length_cons]
      omega
theorem whom_len {n i : Nat} {A B : List (List Int)} (h : ∀ t ∈ A, t ∈ B) : (whom n A i).length ≤ (whom n B i).length := by
  unfold whom
  rw [List.length_map, List.length_map]
  refine filter_len _ fun c _ hc => ?_
  rw [List.any_eq_true] at hc ⊢
  obtain ⟨t, ht, h2⟩ := hc
  exact ⟨t, h t ht, h2⟩
theorem unsure_len {m k : MoList} {A B : List (List Int)} (hc : m.claimants.length = k.claimants.length) (hz : m.sums.length = k.sums.length) (h : ∀ t ∈ A, t ∈ B) : (unsure m A).length ≤ (unsure k B).length := by
  unfold unsure
  rw [List.length_map, List.length_map, hz, hc]
  refine filter_len _ fun i _ hi => ?_
  have := whom_len (n := k.claimants.length) (i := i) h
  simp only [decide_eq_true_eq] at hi ⊢
  omega
theorem unsure_sub {m k : MoList} {A B : List (List Int)} (hc : m.claimants.length = k.claimants.length) (hz : m.sums.length = k.sums.length) (h : ∀ t ∈ A, t ∈ B) : ∀ x ∈ unsure m A, x ∈ unsure k B := by
  intro x hx
  unfold unsure at hx ⊢
  obtain ⟨i, hi, rfl⟩ := List.mem_map.1 hx
  obtain ⟨h1, h2⟩ := List.mem_filter.1 hi
  refine List.mem_map.2 ⟨i, List.mem_filter.2 ⟨by rw [← hz]; exact h1, ?_⟩, rfl⟩
  have := whom_len (n := k.claimants.length) (i := i) h
  rw [hc] at h2
  simp only [decide_eq_true_eq] at h2 ⊢
  omega
/-- Fewer truths: what was sure stays so. -/
theorem pay_more {m k : MoList} (hm : wholeErr m = 0) (hk : wholeErr k = 0) (hz : m.sums.length = k.sums.length) (h : ∀ t ∈ truths k, t ∈ truths m) {i : Nat} (hi : i < m.sums.length) (hp : (payOf m i).2 = 0) : payOf k i = payOf m i := by
  rcases pay_cases hm hi with ⟨c, h1, -, -, -, h2⟩ | ⟨h1, -⟩
  · obtain ⟨t, ht⟩ : ∃ t, t ∈ truths k := ⟨_, List.getElem_mem (whole_valid hk).2⟩
    rcases pay_cases hk (show i < k.sums.length by omega) with ⟨c', h3, -, -, -, h4⟩ | ⟨h3, h4⟩
    · rw [h1, h3, ← h2 t (h t ht), ← h4 t ht]
    · have hw : ∀ x ∈ whom k.claimants.length (truths k) i, x = c := by
        intro x hx
        obtain ⟨-, -, t, ht, rfl⟩ := mem_whom.1 hx
        exact h2 t (h t ht)
      have hin := whom_incr k.claimants.length (truths k) i
      exfalso
      match hl : whom k.claimants.length (truths k) i, h4, hw, hin with
      | a :: b :: l, _, hw, hin =>
        have e1 := hw a (by simp)
        have e2 := hw b (by simp)
        have := (List.pairwise_cons.1 hin.1).1 b (by simp)
        omega
  · rw [h1] at hp
    exact absurd hp (by decide)
/-- The words of one list that count are words of another one that count, too. -/
structure Within (m k : MoList) : Prop where
  cl : m.claimants = k.claimants
  su : m.sums = k.sums
  nw : m.words.length = k.words.length
  wd : ∀ i (h1 : i < m.words.length) (h2 : i < k.words.length) t, so m.words[i] t = so k.words[i] t
  ct : ∀ i, i < m.words.length → counts m i = true → counts k i = true
theorem within_tru {m k : MoList} (h : Within m k) {n : Nat} {t : List Int} (ht : Tru k n t) : Tru m n t := by
  refine ⟨ht.len, fun j hj => ?_, ?_⟩
  · have := ht.at_ j hj
    unfold forAt at this ⊢
    rw [h.cl, h.su]
    exact this
  · rw [wordsSo_iff]
    intro i hi hc
    have hi2 : i < k.words.length := by rw [← h.nw]; exact hi
    rw [h.wd i hi hi2]
    exact (wordsSo_iff.1 ht.so) i hi2 (h.ct i hi hc)
theorem within_sub {m k : MoList} (hm : Valid m) (hk : Valid k) (h : Within m k) : ∀ t ∈ truths k, t ∈ truths m := by
  intro t ht
  rw [truths_iff hk] at ht
  rw [truths_iff hm, h.su]
  exact within_tru h ht

/-- A word's 'came', turned. -/
def turnCame (ws : List MoWord) (n : Nat) (b : Bool) : List MoWord := ws.mapIdx fun i w => if i = n then { w with came := b } else w
def withCame (m : MoList) (n : Nat) (b : Bool) : MoList := { m with words := turnCame m.words n b }
theorem turnCame_len (ws : List MoWord) (n : Nat) (b : Bool) : (turnCame ws n b).length = ws.length := by simp [turnCame]
theorem turnCame_at (ws : List MoWord) (n : Nat) (b : Bool) (i : Nat) (h : i < ws.length) : (turnCame ws n b)[i]'(by rw [turnCame_len]; exact h) = if i = n then { ws[i] with came := b } else ws[i] := by simp [turnCame]
theorem turnCame_set (ws : List MoWord) (n : Nat) (b : Bool) (h : n < ws.length) : turnCame ws n b = ws.set n { ws[n] with came := b } := by
  apply List.ext_getElem
  · simp [turnCame_len]
  · intro i h1 h2
    have hi : i < ws.length := by rw [turnCame_len] at h1; exact h1
    rw [turnCame_at ws n b i hi, List.getElem_set]
    by_cases e : i = n
    · subst e; simp
    · rw [if_neg e, if_neg (fun h => e h.symm)]
theorem setCame_turn (ws : List MoWord) (n : Nat) : setCame ws n = turnCame ws n true := by
  by_cases h : n < ws.length
  · rw [setCame_eq ws n h, turnCame_set ws n true h]
  · unfold setCame turnCame
    rw [List.getElem?_eq_none (by omega)]
    simp only
    apply List.ext_getElem
    · simp
    · intro i h1 h2
      rw [List.getElem_mapIdx, if_neg (by omega)]
theorem withWords_one (m : MoList) (n : Nat) : withWords m [(n : Int)] = withCame m n true := by
  unfold withWords withCame
  simp only [List.foldl_cons, List.foldl_nil, Int.toNat_natCast]
  rw [setCame_turn]
theorem withCame_valid {m : MoList} (h : errOf m = 0) (n : Nat) (b : Bool) : errOf (withCame m n b) = 0 := by
  obtain ⟨a, z, c, d⟩ := errOf_parts h
  have hl : (withCame m n b).words.length = m.words.length := turnCame_len m.words n b
  refine errOf_of a.1 a.2 z.1 z.2 (by rw [hl]; exact c.1) (fun i hi => ?_) d.1 d.2
  have hi2 : i < m.words.length := by rw [hl] at hi; exact hi
  have hw := (valid_of h).words i hi2
  rw [wordErr_at hi]
  apply wordErrOf_zero
  have e : (withCame m n b).words[i] = if i = n then { m.words[i] with came := b } else m.words[i] := turnCame_at m.words n b i hi2
  rw [e, hl]
  split
  · exact ⟨hw.says, hw.sum, hw.of1, hw.of2, hw.back⟩
  · exact hw
/-- A word that takes none back: if it comes, no word counts less. -/
theorem came_within {m : MoList} {n : Nat} (hn : n < m.words.length) (hb : m.words[n].back = -1) : Within m (withCame m n true) ∧ Within (withCame m n false) m := by
  have hl : ∀ b, (withCame m n b).words.length = m.words.length := fun b => turnCame_len m.words n b
  have ha : ∀ b i (h : i < m.words.length), (withCame m n b).words[i]'(by rw [hl]; exact h) = if i = n then { m.words[i] with came := b } else m.words[i] := fun b i h => turnCame_at m.words n b i h
  have hso : ∀ (w : MoWord) (b : Bool) t, so { w with came := b } t = so w t := fun w b t => rfl
  refine ⟨⟨rfl, rfl, (hl true).symm, fun i h1 h2 t => ?_, fun i hi hc => ?_⟩, ⟨rfl, rfl, hl false, fun i h1 h2 t => ?_, fun i hi hc => ?_⟩⟩
  · rw [ha true i h1]
    split <;> rfl
  · rw [counts_iff hi] at hc
    rw [counts_iff (by rw [hl]; exact hi)]
    refine ⟨?_, fun x hx hxc => ?_⟩
    · rw [ha true i hi]
      split
      · rfl
      · exact hc.1
    · obtain ⟨j, hj, rfl⟩ := List.getElem_of_mem hx
      have hj2 : j < m.words.length := by rw [hl] at hj; exact hj
      rw [ha true j hj2] at hxc ⊢
      by_cases e : j = n
      · rw [if_pos e]
        subst e
        simp only
        rw [hb]
        omega
      · rw [if_neg e] at hxc ⊢
        exact hc.2 _ (List.getElem_mem hj2) hxc
  · rw [ha false i h2]
    split <;> rfl
  · have hi2 : i < m.words.length := by rw [hl] at hi; exact hi
    rw [counts_iff hi] at hc
    rw [counts_iff hi2]
    have hne : i ≠ n := by
      intro e
      have := hc.1
      rw [ha false i hi2, if_pos e] at this
      cases this
    have h1 := hc.1
    rw [ha false i hi2, if_neg hne] at h1
    refine ⟨h1, fun x hx hxc => ?_⟩
    obtain ⟨j, hj, rfl⟩ := List.getElem_of_mem hx
    by_cases e : j = n
    · subst e
      rw [hb]
      omega
    · have h2 := hc.2 ((withCame m n false).words[j]'(by rw [hl]; exact hj)) (List.getElem_mem _)
      rw [ha false j hj, if_neg e] at h2
      exact h2 hxc
end Go.Proofs.Ytnlolliankhfmaa
namespace Go.Proofs.Ytnlolliankhfmaa

theorem need_no {m : MoList} (h : wholeErr m ≠ 0) : needOf m = (0, 0, wholeErr m) := by unfold needOf; rw [held_no h, if_neg h]
theorem need_yes {m : MoList} (h : wholeErr m = 0) : needOf m = ((needTo m (unsure m (truths m)) m.sums.length).1, (needTo m (unsure m (truths m)) m.sums.length).2, 0) := by unfold needOf; rw [held_yes h, if_pos rfl]
theorem needTo_le (m : MoList) (hv : Valid m) (held : List Int) : ∀ j, (needTo m held j).1 ≤ (needTo m held j).2 ∧ (needTo m held j).2 ≤ penceTo m j
  | 0 => ⟨Int.le_refl _, Int.le_refl _⟩
  | j + 1 => by
    have h := needTo_le m hv held j
    have hp := pence_bd m hv j
    rw [needTo, penceTo]
    split
    · omega
    · simp only
      split <;> omega
theorem needTo_free (m : MoList) : ∀ j, (needTo m [] j).1 = (needTo m [] j).2
  | 0 => rfl
  | j + 1 => by
    have h := needTo_free m j
    rw [needTo]
    split
    · exact h
    · simp only
      rw [if_neg (by simp [hasB])]
      omega
theorem needTo_unpaid (m : MoList) (h : m.paid = []) (held : List Int) : ∀ j, (needTo m held j).2 = penceTo m j
  | 0 => rfl
  | j + 1 => by
    have h2 := needTo_unpaid m h held j
    have hp : paidB m j = false := by unfold paidB; rw [h]; rfl
    rw [needTo, hp, penceTo]
    simp only [Bool.false_eq_true, if_false]
    omega
theorem needTo_more {m k : MoList} (hs : m.sums = k.sums) (hp : m.paid = k.paid) (hv : Valid m) {h1 h2 : List Int} (hh : ∀ x ∈ h1, x ∈ h2) : ∀ j, (needTo k h2 j).1 ≤ (needTo m h1 j).1 ∧ (needTo k h2 j).2 = (needTo m h1 j).2
  | 0 => ⟨Int.le_refl _, rfl⟩
  | j + 1 => by
    have ih := needTo_more hs hp hv hh j
    have e1 : paidB k j = paidB m j := by unfold paidB; rw [hp]
    have e2 : penceAt k j = penceAt m j := by unfold penceAt; rw [hs]
    have hb := pence_bd m hv j
    rw [needTo, needTo, e1, e2]
    cases paidB m j
    · simp only [Bool.false_eq_true, if_false]
      refine ⟨?_, by omega⟩
      cases h3 : hasB h1 j
      · simp only [Bool.false_eq_true, if_false]
        split <;> omega
      · have : hasB h2 j = true := hasB_iff.2 (hh _ (hasB_iff.1 h3))
        rw [this]
        simp only [if_true]
        omega
    · simpa using ih
/-- What Need returns. -/
theorem need_facts {m : MoList} (h : wholeErr m = 0) : ∃ s a : Int, needOf m = (s, a, 0) ∧ 0 ≤ s ∧ s ≤ a ∧ a ≤ penceTo m m.sums.length ∧ (unsure m (truths m) = [] → s = a) ∧ (m.paid = [] → a = penceTo m m.sums.length) := by
  have hv := (whole_valid h).1
  refine ⟨_, _, need_yes h, ?_, (needTo_le m hv _ _).1, (needTo_le m hv _ _).2, fun e => ?_, fun e => needTo_unpaid m e _ _⟩
  · exact (needTo_bd m hv (unsure m (truths m)) m.sums.length).1.1
  · rw [e]; exact needTo_free m _
/-- One word less that takes none back: there still is a truth, what is needed surely is no more. -/
theorem need_less {m : MoList} (h : wholeErr m = 0) {n : Nat} (hn : n < m.words.length) (hb : m.words[n].back = -1) :
    (needOf (withCame m n false)).2.2 = 0 ∧ (needOf (withCame m n false)).1 ≤ (needOf m).1 ∧ (needOf (withCame m n false)).2.1 = (needOf m).2.1 := by
  have he := (someErr_zero h).1
  have hk := withCame_valid he n false
  have hs := within_sub (valid_of hk) (valid_of he) (came_within hn hb).2
  have hpos : 0 < (truths (withCame m n false)).length := by
    have := (whole_valid h).2
    exact List.length_pos_of_mem (hs _ (List.getElem_mem this))
  have hw := whole_of hk hpos
  have hm := needTo_more (m := m) (k := withCame m n false) rfl rfl (valid_of he) (h1 := unsure m (truths m)) (h2 := unsure (withCame m n false) (truths (withCame m n false))) (unsure_sub rfl rfl hs) m.sums.length
  rw [need_yes h, need_yes hw]
  exact ⟨rfl, hm.1, hm.2⟩

/-- One word more that takes none back. -/
theorem more_facts {m : MoList} (h : wholeErr m = 0) {n : Nat} (hn : n < m.words.length) (hb : m.words[n].back = -1) :
    errOf (withCame m n true) = 0 ∧ (wholeErr (withCame m n true) ≠ 0 → firstOf (withCame m n true) = ([], 0, 8) ∧ (truths (withCame m n true)).length = 0) ∧
    (wholeErr (withCame m n true) = 0 → (firstOf (withCame m n true)).2.1 ≤ (firstOf m).2.1 ∧ (∀ i : Nat, i < m.sums.length → (payOf m i).2 = 0 → payOf (withCame m n true) i = payOf m i) ∧
      heldOf (withCame m n true) = (unsure (withCame m n true) (truths (withCame m n true)), 0) ∧ (unsure (withCame m n true) (truths (withCame m n true))).length ≤ (unsure m (truths m)).length) := by
  have he := (someErr_zero h).1
  have hk := withCame_valid he n true
  have hs := within_sub (valid_of he) (valid_of hk) (came_within hn hb).1
  refine ⟨hk, fun h0 => ?_, fun h0 => ⟨?_, fun i hi hp => pay_more h h0 rfl hs hi hp, held_yes h0, unsure_len rfl rfl hs⟩⟩
  · have hl : (truths (withCame m n true)).length = 0 := by
      by_cases hl : (truths (withCame m n true)).length = 0
      · exact hl
      · exact absurd (whole_of hk (by omega)) h0
    refine ⟨?_, hl⟩
    unfold firstOf
    rw [if_neg h0, whole_empty hk hl]
  · unfold firstOf
    rw [if_pos h0, if_pos h]
    have := sub_len (truths_sorted (withCame m n true)) (truths_sorted m) hs
    simp only
    omega

theorem first_same {m k : MoList} (hm : errOf m = 0) (hk : errOf k = 0) (h : truths k = truths m) : firstOf k = firstOf m := by
  unfold firstOf wholeErr someErr
  rw [if_pos hm, if_pos hk, h]
/-- A word that was taken back might as well not have come. -/
theorem back_less {m : MoList} (he : errOf m = 0) {n : Nat} (hn : n < m.words.length) (hb : m.words[n].back = -1) (hc : counts m n = false) : firstOf (withCame m n false) = firstOf m := by
  have hk := withCame_valid he n false
  have hl : (withCame m n false).words.length = m.words.length := turnCame_len m.words n false
  have ha : ∀ i (h : i < m.words.length), (withCame m n false).words[i]'(by rw [hl]; exact h) = if i = n then { m.words[i] with came := false } else m.words[i] := fun i h => turnCame_at m.words n false i h
  have hw : Within m (withCame m n false) := by
    refine ⟨rfl, rfl, hl.symm, fun i h1 h2 t => ?_, fun i hi hci => ?_⟩
    · rw [ha i h1]
      split <;> rfl
    · have hne : i ≠ n := fun e => by subst e; rw [hc] at hci; cases hci
      rw [counts_iff hi] at hci
      rw [counts_iff (by rw [hl]; exact hi)]
      refine ⟨by rw [ha i hi, if_neg hne]; exact hci.1, fun x hx hxc => ?_⟩
      obtain ⟨j, hj, rfl⟩ := List.getElem_of_mem hx
      have hj2 : j < m.words.length := by rw [hl] at hj; exact hj
      rw [ha j hj2] at hxc ⊢
      by_cases e : j = n
      · rw [if_pos e] at hxc
        cases hxc
      · rw [if_neg e] at hxc ⊢
        exact hci.2 _ (List.getElem_mem hj2) hxc
  refine first_same he hk (sorted_ext (truths_sorted _) (truths_sorted _) fun t => ⟨within_sub (valid_of he) (valid_of hk) hw t, within_sub (valid_of hk) (valid_of he) (came_within hn hb).2 t⟩)

/-- Words the other way round. -/
def flipBack (L : Nat) (w : MoWord) : MoWord := if w.back = -1 then w else { w with back := (L : Int) - 1 - w.back }
def backW (m : MoList) : MoList := { m with words := m.words.reverse.map (flipBack m.words.length) }
theorem backW_len (m : MoList) : (backW m).words.length = m.words.length := by simp [backW]
theorem backW_at (m : MoList) (i : Nat) (h : i < m.words.length) : (backW m).words[i]'(by rw [backW_len]; exact h) = flipBack m.words.length (m.words[m.words.length - 1 - i]'(by omega)) := by simp [backW]
theorem backW_valid {m : MoList} (h : errOf m = 0) : errOf (backW m) = 0 := by
  obtain ⟨a, z, c, d⟩ := errOf_parts h
  have hl := backW_len m
  refine errOf_of a.1 a.2 z.1 z.2 (by rw [hl]; exact c.1) (fun i hi => ?_) d.1 d.2
  have hi2 : i < m.words.length := by rw [hl] at hi; exact hi
  have hw := (valid_of h).words (m.words.length - 1 - i) (by omega)
  rw [wordErr_at hi, backW_at m i hi2, hl]
  apply wordErrOf_zero
  have hb := hw.back
  unfold flipBack
  by_cases e : (m.words[m.words.length - 1 - i]'(by omega)).back = -1
  · rw [if_pos e]
    exact ⟨hw.says, hw.sum, hw.of1, hw.of2, by omega, by omega, by omega⟩
  · rw [if_neg e]
    exact ⟨hw.says, hw.sum, hw.of1, hw.of2, by simp only; omega, by simp only; omega, by simp only; omega⟩
theorem backW_counts {m : MoList} (h : Valid m) {i : Nat} (hi : i < m.words.length) : counts (backW m) i = true ↔ counts m (m.words.length - 1 - i) = true := by
  have hl := backW_len m
  have hi2 : m.words.length - 1 - i < m.words.length := by omega
  rw [counts_iff (by rw [hl]; exact hi), counts_iff hi2, backW_at m i hi]
  have hcm : (flipBack m.words.length (m.words[m.words.length - 1 - i]'(by omega))).came = (m.words[m.words.length - 1 - i]'(by omega)).came := by unfold flipBack; split <;> rfl
  rw [hcm]
  have hback : ∀ (j : Nat) (hj : j < m.words.length), (flipBack m.words.length m.words[j]).came = m.words[j].came ∧ ((flipBack m.words.length m.words[j]).back = (i : Int) ↔ m.words[j].back = ((m.words.length - 1 - i : Nat) : Int)) := by
    intro j hj
    have hb := (h.words j hj).back
    unfold flipBack
    by_cases e : m.words[j].back = -1
    · rw [if_pos e]
      exact ⟨rfl, by omega⟩
    · rw [if_neg e]
      exact ⟨rfl, by simp only; omega⟩
  constructor
  · rintro ⟨h1, h2⟩
    refine ⟨h1, fun x hx hxc hxb => ?_⟩
    obtain ⟨j, hj, rfl⟩ := List.getElem_of_mem hx
    have hk : m.words.length - 1 - j < m.words.length := by omega
    have e := backW_at m _ hk
    have e2 : m.words.length - 1 - (m.words.length - 1 - j) = j := by omega
    simp only [e2] at e
    have := h2 _ (List.getElem_mem (by rw [hl]; exact hk))
    rw [e] at this
    exact this ((hback j hj).1.trans hxc) ((hback j hj).2.2 hxb)
  · rintro ⟨h1, h2⟩
    refine ⟨h1, fun x hx hxc hxb => ?_⟩
    obtain ⟨k, hk, rfl⟩ := List.getElem_of_mem hx
    have hk2 : k < m.words.length := by rw [hl] at hk; exact hk
    rw [backW_at m k hk2] at hxc hxb
    have hb := hback (m.words.length - 1 - k) (by omega)
    exact h2 _ (List.getElem_mem (by omega)) (hb.1.symm.trans hxc) (hb.2.1 hxb)
theorem backW_so (L : Nat) (w : MoWord) (t : List Int) : so (flipBack L w) t = so w t := by unfold flipBack; split <;> rfl
theorem backW_first {m : MoList} (h : errOf m = 0) : firstOf (backW m) = firstOf m := by
  have hv := valid_of h
  have hk := backW_valid h
  have hl := backW_len m
  refine first_same h hk (truths_same (valid_of hk) hv fun t => ?_)
  have hso : wordsSo (backW m) t = true ↔ wordsSo m t = true := by
    rw [wordsSo_iff, wordsSo_iff]
    constructor
    · intro h1 i hi hc
      have hk : m.words.length - 1 - i < m.words.length := by omega
      have e2 : m.words.length - 1 - (m.words.length - 1 - i) = i := by omega
      have := h1 (m.words.length - 1 - i) (by rw [hl]; exact hk) ((backW_counts hv hk).2 (by rw [e2]; exact hc))
      rw [backW_at m _ hk, backW_so] at this
      simpa only [e2] using this
    · intro h1 i hi hc
      have hi2 : i < m.words.length := by rw [hl] at hi; exact hi
      rw [backW_at m i hi2, backW_so]
      exact h1 _ (by omega) ((backW_counts hv hi2).1 hc)
  constructor
  · rintro ⟨a, b, c⟩
    exact ⟨a, b, hso.1 c⟩
  · rintro ⟨a, b, c⟩
    exact ⟨a, b, hso.2 c⟩
end Go.Proofs.Ytnlolliankhfmaa
namespace Go.Proofs.Ytnlolliankhfmaa

theorem wrong_no {m : MoList} (h : wholeErr m ≠ 0) : wrongOf m = ([], wholeErr m) := by unfold wrongOf; rw [if_neg h]
/-- The numbers below j at which a bit is. -/
def idxTo (b : Int) : Nat → List Int
  | 0 => []
  | j + 1 => idxTo b j ++ (if bitB b j then [(j : Int)] else [])
theorem idxTo_yes {b : Int} {j : Nat} (hb : bitB b j = true) : idxTo b (j + 1) = idxTo b j ++ [(j : Int)] := by rw [idxTo, if_pos hb]
theorem idxTo_no {b : Int} {j : Nat} (hb : bitB b j = false) : idxTo b (j + 1) = idxTo b j := by rw [idxTo, if_neg (by simp [hb])]; simp
theorem idxTo_len (b : Int) : ∀ j, (idxTo b j).length ≤ j
  | 0 => by simp [idxTo]
  | j + 1 => by
    have := idxTo_len b j
    rw [idxTo, List.length_append]
    split <;> simp <;> omega
theorem idxTo_incr (b : Int) : ∀ j : Nat, incr j (idxTo b j)
  | 0 => incr_nil _
  | j + 1 => by
    have h := idxTo_incr b j
    have h' : incr ((j + 1 : Nat) : Int) (idxTo b j) := ⟨h.1, fun x hx => by have := h.2 x hx; omega⟩
    rw [idxTo]
    split
    · exact incr_snoc.2 ⟨h', fun y hy => (h.2 y hy).2, by omega, by omega⟩
    · simpa using h'
/-- What Wrong returns. -/
theorem wrong_facts {m : MoList} (h : wholeErr m = 0) : ∃ l, wrongOf m = (l, 0) ∧ rising l m.paid.length = true ∧ incr m.paid.length l ∧ someRight m (truths m) l = true ∧ ∀ b : Int, someRight m (truths m) (idxTo b m.paid.length) = true → fewer (idxTo b m.paid.length) l = false := by
  have hf := wrong_first m h
  have e2 : (wrongOf m).2 = 0 := by unfold wrongOf; rw [if_pos h]
  refine ⟨(wrongOf m).1, Prod.ext rfl e2, rising_incr hf.1.1, hf.1.1, hf.1.2, fun b hb => ?_⟩
  rcases hf.2 _ ⟨idxTo_incr b _, hb⟩ with e | e
  · rw [e]; exact fewer_irrefl _
  · exact fewer_asymm e

def withPaid (m : MoList) (p : List MoPaid) : MoList := { m with paid := p }
theorem truthsTo_paid (m : MoList) (p : List MoPaid) : ∀ n, truthsTo (withPaid m p) n = truthsTo m n
  | 0 => rfl
  | n + 1 => by
    show (truthsTo (withPaid m p) n).flatMap (truthStep (withPaid m p) n) = (truthsTo m n).flatMap (truthStep m n)
    rw [truthsTo_paid m p n]
    rfl
theorem truths_paid (m : MoList) (p : List MoPaid) : truths (withPaid m p) = truths m := truthsTo_paid m p _
theorem paid_valid {m : MoList} (h : errOf m = 0) {p : List MoPaid} (hp : PaidOk m p) : errOf (withPaid m p) = 0 := by
  obtain ⟨a, z, c, d⟩ := errOf_parts h
  exact errOf_of (m := withPaid m p) a.1 a.2 z.1 z.2 c.1 c.2 hp.1 (paidErr_zero (m := withPaid m p) hp)
theorem paid_whole {m : MoList} (h : wholeErr m = 0) {p : List MoPaid} (hp : PaidOk m p) : wholeErr (withPaid m p) = 0 :=
  whole_of (paid_valid (someErr_zero h).1 hp) (by rw [truths_paid]; exact (whole_valid h).2)
theorem pay_paid {m : MoList} (h : wholeErr m = 0) {p : List MoPaid} (hp : PaidOk m p) {i : Nat} (hi : i < m.sums.length) : payOf (withPaid m p) i = payOf m i := by
  have h1 := for_whole h hi
  have h2 := for_whole (paid_whole h hp) (i := i) hi
  unfold payOf
  rw [h1, h2, truths_paid]
  rfl
/-- What is paid of the first sums, if each one that is sure is paid once. -/
def sureTo (m : MoList) : Nat → List MoPaid
  | 0 => []
  | j + 1 => sureTo m j ++ (if (payOf m j).2 = 0 then [⟨j, (payOf m j).1⟩] else [])
theorem sureTo_yes {m : MoList} {j : Nat} {c : Int} (h : payOf m j = (c, 0)) : sureTo m (j + 1) = sureTo m j ++ [⟨j, c⟩] := by rw [sureTo, h, if_pos rfl]
theorem sureTo_no {m : MoList} {j : Nat} {c e : Int} (h : payOf m j = (c, e)) (he : e ≠ 0) : sureTo m (j + 1) = sureTo m j := by rw [sureTo, h, if_neg he]; simp
theorem sureTo_mem {m : MoList} : ∀ (j : Nat) (x : MoPaid), x ∈ sureTo m j → ∃ i : Nat, i < j ∧ payOf m i = (x.claimant, 0) ∧ x.sum = i
  | 0, x, h => absurd h (by simp [sureTo])
  | j + 1, x, h => by
    rw [sureTo] at h
    rcases List.mem_append.1 h with h | h
    · obtain ⟨i, hi, h1, h2⟩ := sureTo_mem j x h
      exact ⟨i, by omega, h1, h2⟩
    · split at h
      · rename_i he
        rw [List.mem_singleton] at h
        subst h
        exact ⟨j, by omega, Prod.ext rfl he, rfl⟩
      · simp at h
theorem sureTo_pair (m : MoList) : ∀ j, (sureTo m j).Pairwise (fun x y => x.sum < y.sum)
  | 0 => List.Pairwise.nil
  | j + 1 => by
    rw [sureTo]
    split
    · rw [List.pairwise_append]
      refine ⟨sureTo_pair m j, List.pairwise_singleton _ _, fun x hx y hy => ?_⟩
      rw [List.mem_singleton] at hy
      subst hy
      obtain ⟨i, hi, -, e⟩ := sureTo_mem j x hx
      simp only
      omega
    · simpa using sureTo_pair m j
theorem sureTo_len (m : MoList) : ∀ j, (sureTo m j).length ≤ j
  | 0 => by simp [sureTo]
  | j + 1 => by
    have := sureTo_len m j
    rw [sureTo, List.length_append]
    split <;> simp <;> omega
theorem sureTo_ok {m : MoList} (h : wholeErr m = 0) {j : Nat} (hj : j ≤ m.sums.length) : PaidOk m (sureTo m j) := by
  refine ⟨by have := sureTo_len m j; have := (whole_valid h).1.nz; omega, fun x hx => ?_⟩
  obtain ⟨i, hi, h1, h2⟩ := sureTo_mem j x hx
  rcases pay_cases h (show i < m.sums.length by omega) with ⟨c, h3, -, h4, h5, -⟩ | ⟨h3, -⟩
  · rw [h3] at h1
    have e : c = x.claimant := congrArg Prod.fst h1
    subst e
    exact ⟨by omega, h4, h5⟩
  · rw [h3] at h1
    exact absurd (congrArg Prod.snd h1) (by simp)
theorem sure_wrong {m : MoList} (h : wholeErr m = 0) : wrongOf (withPaid m (sureTo m m.sums.length)) = ([], 0) := by
  have hp := sureTo_ok h (Nat.le_refl m.sums.length)
  obtain ⟨t, ht⟩ : ∃ t, t ∈ truths m := ⟨_, List.getElem_mem (whole_valid h).2⟩
  have ht2 : t ∈ truths (withPaid m (sureTo m m.sums.length)) := by rw [truths_paid]; exact ht
  refine wrong_nil (paid_whole h hp) ht2 (right_nil (fun i hi => ?_) (fun i k hi hk => ?_))
  · obtain ⟨j, hj, h1, h2⟩ := sureTo_mem _ _ (List.getElem_mem (l := sureTo m m.sums.length) hi)
    show t[(sureTo m m.sums.length)[i].sum.toNat]?.getD 0 = (sureTo m m.sums.length)[i].claimant
    rw [h2, Int.toNat_natCast]
    rcases pay_cases h hj with ⟨c, h3, -, -, -, h5⟩ | ⟨h3, -⟩
    · rw [h3] at h1
      rw [h5 t ht]
      exact congrArg Prod.fst h1
    · rw [h3] at h1
      exact absurd (congrArg Prod.snd h1) (by simp)
  · have hi2 : i < (sureTo m m.sums.length).length := hi
    have hk2 : k < (sureTo m m.sums.length).length := by omega
    have := List.pairwise_iff_getElem.1 (sureTo_pair m m.sums.length) k i hk2 hi2 hk
    show ((sureTo m m.sums.length)[k]'hk2).sum ≠ ((sureTo m m.sums.length)[i]'hi2).sum
    omega
end Go.Proofs.Ytnlolliankhfmaa
namespace Go.Proofs.Ytnlolliankhfmaa

def turnedTo (b : Int) : Nat → Int
  | 0 => 0
  | j + 1 => 2 * turnedTo b j + (if bitB b j then 1 else 0)
theorem turnedTo_bd (b : Int) : ∀ j : Nat, 0 ≤ turnedTo b j ∧ turnedTo b j < 2 ^ j
  | 0 => by simp [turnedTo]
  | j + 1 => by
    have h := turnedTo_bd b j
    rw [turnedTo, Int.pow_succ]
    generalize (2 : Int) ^ j = X at h ⊢
    split <;> omega
theorem turned_all : ∀ n : Nat, n ≤ 4 → ∀ f : Nat, f < 2 ^ n → (0 ≤ turnedTo (f : Int) n ∧ turnedTo (f : Int) n ≤ allBits n ∧ (1 ≤ f → 1 ≤ turnedTo (f : Int) n)) ∧ ∀ c : Nat, c < n → bitB (turnedTo (f : Int) n) c = bitB (f : Int) (n - 1 - c) := by decide +kernel
theorem turned_ok {n : Nat} (hn : n ≤ 4) {f : Int} (h : 1 ≤ f ∧ f ≤ allBits n) : (1 ≤ turnedTo f n ∧ turnedTo f n ≤ allBits n) ∧ ∀ c : Nat, c < n → bitB (turnedTo f n) c = bitB f (n - 1 - c) := by
  obtain ⟨k, rfl⟩ := Int.eq_ofNat_of_zero_le (show 0 ≤ f by omega)
  have h2 := h.2
  rw [allBits_cast] at h2
  have h1 : 1 ≤ 2 ^ n := Nat.one_le_two_pow
  have := turned_all n hn k (by omega)
  exact ⟨⟨this.1.2.2 (by omega), this.1.2.1⟩, this.2⟩

def orderSum (n : Nat) (s : MoSum) : MoSum := { s with for_ := turnedTo s.for_ n }
def orderWord (n : Nat) (w : MoWord) : MoWord := if w.says < 2 then { w with of := (n : Int) - 1 - w.of } else w
def orderPaid (n : Nat) (p : MoPaid) : MoPaid := { p with claimant := (n : Int) - 1 - p.claimant }
/-- The list with claimants in the opposite order. -/
def orderL (m : MoList) : MoList := { claimants := m.claimants.reverse, sums := m.sums.map (orderSum m.claimants.length), words := m.words.map (orderWord m.claimants.length), paid := m.paid.map (orderPaid m.claimants.length) }
theorem order_cl (m : MoList) : (orderL m).claimants.length = m.claimants.length := by simp [orderL]
theorem order_zl (m : MoList) : (orderL m).sums.length = m.sums.length := by simp [orderL]
theorem order_wl (m : MoList) : (orderL m).words.length = m.words.length := by simp [orderL]
theorem order_pl (m : MoList) : (orderL m).paid.length = m.paid.length := by simp [orderL]

theorem fresh_zero {s : ByteArray} {l : List ByteArray} : fresh s l = 0 ↔ nameB s = true ∧ ∀ x ∈ l, x ≠ s := by
  unfold fresh
  by_cases h1 : nameB s = true
  · rw [if_pos h1]
    by_cases h2 : hasS l s = true
    · rw [if_pos h2]
      unfold hasS at h2
      rw [List.any_eq_true] at h2
      obtain ⟨x, hx, e⟩ := h2
      constructor
      · intro h; exact absurd h (by decide)
      · intro h; exact absurd (by simpa using e) (h.2 x hx)
    · rw [if_neg h2]
      refine ⟨fun _ => ⟨h1, fun x hx e => h2 ?_⟩, fun _ => rfl⟩
      unfold hasS
      rw [List.any_eq_true]
      exact ⟨x, hx, by simpa using e⟩
  · rw [if_neg h1]
    constructor
    · intro h; exact absurd h (by decide)
    · intro h; exact absurd h.1 h1
theorem claim_zero {m : MoList} (h : ∀ i, i < m.claimants.length → claimErr m i = 0) (i : Nat) (hi : i < m.claimants.length) : nameB m.claimants[i] = true ∧ ∀ j (hj : j < m.claimants.length), j ≠ i → m.claimants[j] ≠ m.claimants[i] := by
  have h2 : ∀ i (hi : i < m.claimants.length), nameB m.claimants[i] = true ∧ ∀ j (hj : j < i), m.claimants[j]'(by omega) ≠ m.claimants[i] := by
    intro i hi
    have := h i hi
    unfold claimErr at this
    rw [List.getElem?_eq_getElem hi] at this
    have := fresh_zero.1 this
    refine ⟨this.1, fun j hj => this.2 _ ?_⟩
    rw [List.mem_take_iff_getElem]
    exact ⟨j, by omega, rfl⟩
  refine ⟨(h2 i hi).1, fun j hj hne => ?_⟩
  by_cases hlt : j < i
  · exact (h2 i hi).2 j hlt
  · exact fun e => (h2 j hj).2 i (by omega) e.symm
theorem order_claims {m : MoList} (h : ∀ i, i < m.claimants.length → claimErr m i = 0) : ∀ i, i < (orderL m).claimants.length → claimErr (orderL m) i = 0 := by
  intro i hi
  have hi2 : i < m.claimants.length := by rw [order_cl] at hi; exact hi
  have hr : i < m.claimants.reverse.length := by simpa using hi2
  show (match m.claimants.reverse[i]? with | some s => fresh s (m.claimants.reverse.take i) | none => 0) = 0
  rw [List.getElem?_eq_getElem hr]
  simp only
  rw [List.getElem_reverse]
  have hz := claim_zero h (m.claimants.length - 1 - i) (by omega)
  refine fresh_zero.2 ⟨hz.1, fun x hx => ?_⟩
  rw [List.mem_take_iff_getElem] at hx
  obtain ⟨j, hj, rfl⟩ := hx
  rw [List.getElem_reverse]
  exact hz.2 _ _ (by omega)

theorem order_valid {m : MoList} (h : errOf m = 0) : errOf (orderL m) = 0 := by
  obtain ⟨a, z, c, d⟩ := errOf_parts h
  have hv := valid_of h
  refine errOf_of (by rw [order_cl]; exact a.1) (order_claims a.2) (by rw [order_zl]; exact z.1) (fun i hi => ?_) (by rw [order_wl]; exact c.1) (fun i hi => ?_) (by rw [order_pl]; exact d.1) (fun i hi => ?_)
  · have hi2 : i < m.sums.length := by rw [order_zl] at hi; exact hi
    have hs := z.2 i hi2
    have hv2 := hv.sums i hi2
    have e1 : (orderL m).sums[i]? = some (orderSum m.claimants.length m.sums[i]) := by simp [orderL, hi2]
    have e2 : ((orderL m).sums.take i).map MoSum.name = (m.sums.take i).map MoSum.name := by
      simp only [orderL, List.map_take, List.map_map]
      rfl
    unfold sumErr at hs ⊢
    rw [List.getElem?_eq_getElem hi2] at hs
    rw [e1, e2, order_cl]
    simp only at hs ⊢
    have hn : (orderSum m.claimants.length m.sums[i]).name = m.sums[i].name := rfl
    have hp2 : (orderSum m.claimants.length m.sums[i]).pence = m.sums[i].pence := rfl
    have hf2 : (orderSum m.claimants.length m.sums[i]).for_ = turnedTo m.sums[i].for_ m.claimants.length := rfl
    rw [hn, hp2, hf2]
    by_cases hf : fresh m.sums[i].name ((m.sums.take i).map MoSum.name) = 0
    · rw [if_pos hf, if_pos]
      rw [Bool.and_eq_true, inB_iff, inB_iff]
      exact ⟨hv2.1, (turned_ok hv.nc hv2.2).1⟩
    · rw [if_neg hf] at hs
      exact absurd hs hf
  · have hi2 : i < m.words.length := by rw [order_wl] at hi; exact hi
    have e : (orderL m).words[i] = orderWord m.claimants.length m.words[i] := by simp [orderL]
    rw [wordErr_at hi, e, order_cl, order_zl, order_wl]
    apply wordErrOf_zero
    have hw := hv.words i hi2
    unfold orderWord
    by_cases hs : m.words[i].says < 2
    · rw [if_pos hs]
      have := hw.of1 hs
      exact ⟨hw.says, hw.sum, fun _ => by simp only; omega, fun h2 => by simp only at h2; omega, hw.back⟩
    · rw [if_neg hs]
      exact hw
  · have hi2 : i < m.paid.length := by rw [order_pl] at hi; exact hi
    have hp := hv.paid i hi2
    unfold paidErr
    have e1 : (orderL m).paid[i]? = some (orderPaid m.claimants.length m.paid[i]) := by simp [orderL, hi2]
    rw [e1, order_zl, order_cl]
    show (if (inB m.paid[i].sum 0 ((m.sums.length : Int) - 1) && inB ((m.claimants.length : Int) - 1 - m.paid[i].claimant) 0 ((m.claimants.length : Int) - 1)) = true then (0 : Int) else 4) = 0
    rw [if_pos]
    rw [Bool.and_eq_true, inB_iff, inB_iff]
    omega

theorem order_counts (m : MoList) (i : Nat) : counts (orderL m) i = counts m i := by
  unfold counts
  have hc : ∀ w : MoWord, (orderWord m.claimants.length w).came = w.came ∧ (orderWord m.claimants.length w).back = w.back := by
    intro w; unfold orderWord; split <;> exact ⟨rfl, rfl⟩
  simp only [orderL, List.getElem?_map, List.all_map]
  cases hw : m.words[i]? with
  | none => rfl
  | some w =>
    simp only [Option.map_some, (hc w).1]
    congr 1
    apply List.all_congr rfl
    intro x
    simp only [Function.comp, (hc x).1, (hc x).2]

def flipT (n : Nat) (t : List Int) : List Int := t.map fun c => (n : Int) - 1 - c
theorem flipT_len (n : Nat) (t : List Int) : (flipT n t).length = t.length := by simp [flipT]
theorem flipT_two (n : Nat) (t : List Int) : flipT n (flipT n t) = t := by
  unfold flipT
  rw [List.map_map]
  conv => rhs; rw [← List.map_id t]
  apply List.map_congr_left
  intro x _
  simp only [Function.comp, id]
  omega
theorem flipT_at (n : Nat) {t : List Int} {j : Nat} (h : j < t.length) : (flipT n t)[j]?.getD 0 = (n : Int) - 1 - t[j]?.getD 0 := by
  unfold flipT
  rw [List.getElem?_map, List.getElem?_eq_getElem h]
  rfl
theorem order_so {c s k i : Nat} {w : MoWord} (hv : ValidWord c s k i w) {t : List Int} (hl : t.length = s) : so (orderWord c w) (flipT c t) = so w t := by
  have h1 := hv.sum
  have h0 := hv.says
  have hs : w.sum.toNat < t.length := by omega
  have hwo : (orderWord c w).sum = w.sum ∧ (orderWord c w).says = w.says := by unfold orderWord; split <;> exact ⟨rfl, rfl⟩
  unfold so
  rw [hwo.1, hwo.2, flipT_len]
  rw [if_neg (show ¬ (t.length : Int) ≤ w.sum by omega), if_neg (show ¬ (t.length : Int) ≤ w.sum by omega), flipT_at c hs]
  generalize t[w.sum.toNat]?.getD 0 = x
  by_cases a : w.says = 0
  · rw [if_pos a, if_pos a]
    have e : (orderWord c w).of = (c : Int) - 1 - w.of := by unfold orderWord; rw [if_pos (by omega)]
    rw [e]
    apply decide_eq_decide.2
    omega
  · rw [if_neg a, if_neg a]
    by_cases b : w.says = 1
    · rw [if_pos b, if_pos b]
      have e : (orderWord c w).of = (c : Int) - 1 - w.of := by unfold orderWord; rw [if_pos (by omega)]
      rw [e]
      apply decide_eq_decide.2
      omega
    · rw [if_neg b, if_neg b]
      have h2 := hv.of2 (by omega)
      have e : (orderWord c w).of = w.of := by unfold orderWord; rw [if_neg (by omega)]
      have ho : w.of.toNat < t.length := by omega
      rw [e, flipT_at c ho]
      generalize t[w.of.toNat]?.getD 0 = y
      have ed : decide ((c : Int) - 1 - x = (c : Int) - 1 - y) = decide (x = y) := by apply decide_eq_decide.2; omega
      have ed2 : decide ((c : Int) - 1 - x ≠ (c : Int) - 1 - y) = decide (x ≠ y) := by apply decide_eq_decide.2; omega
      rw [ed, ed2]
theorem order_tru {m : MoList} (hv : Valid m) (t : List Int) : Tru (orderL m) m.sums.length (flipT m.claimants.length t) ↔ Tru m m.sums.length t := by
  have hat : ∀ j (hj : j < t.length) (hz : j < m.sums.length), (0 ≤ (flipT m.claimants.length t)[j]'(by rw [flipT_len]; exact hj) ∧ (flipT m.claimants.length t)[j]'(by rw [flipT_len]; exact hj) < (orderL m).claimants.length ∧ bitB (forAt (orderL m) j) ((flipT m.claimants.length t)[j]'(by rw [flipT_len]; exact hj)).toNat = true) ↔ (0 ≤ t[j] ∧ t[j] < m.claimants.length ∧ bitB (forAt m j) t[j].toNat = true) := by
    intro j hj hz
    have e : (flipT m.claimants.length t)[j]'(by rw [flipT_len]; exact hj) = (m.claimants.length : Int) - 1 - t[j] := by simp [flipT]
    have hs := hv.sums j hz
    have ef : forAt (orderL m) j = turnedTo m.sums[j].for_ m.claimants.length := by
      rw [forAt_eq (by rw [order_zl]; exact hz)]
      simp [orderL, orderSum]
    rw [e, order_cl, ef, forAt_eq hz]
    generalize t[j] = x
    have hb := (turned_ok hv.nc hs.2).2
    by_cases hx : 0 ≤ x ∧ x < m.claimants.length
    · have := hb ((m.claimants.length : Int) - 1 - x).toNat (by omega)
      have e2 : m.claimants.length - 1 - ((m.claimants.length : Int) - 1 - x).toNat = x.toNat := by omega
      rw [e2] at this
      rw [this]
      constructor
      · rintro ⟨_, _, h⟩; exact ⟨hx.1, hx.2, h⟩
      · rintro ⟨_, _, h⟩; exact ⟨by omega, by omega, h⟩
    · constructor
      · rintro ⟨h1, h2, _⟩; exact absurd ⟨by omega, by omega⟩ hx
      · rintro ⟨h1, h2, _⟩; exact absurd ⟨h1, h2⟩ hx
  have hso : t.length = m.sums.length → (wordsSo (orderL m) (flipT m.claimants.length t) = true ↔ wordsSo m t = true) := by
    intro hl
    rw [wordsSo_iff, wordsSo_iff]
    have e : ∀ i (h : i < m.words.length), (orderL m).words[i]'(by rw [order_wl]; exact h) = orderWord m.claimants.length m.words[i] := fun i h => by simp [orderL]
    constructor
    · intro h i hi hc
      have := h i (by rw [order_wl]; exact hi) (by rw [order_counts]; exact hc)
      rw [e i hi, order_so (hv.words i hi) hl] at this
      exact this
    · intro h i hi hc
      have hi2 : i < m.words.length := by rw [order_wl] at hi; exact hi
      rw [order_counts] at hc
      rw [e i hi2, order_so (hv.words i hi2) hl]
      exact h i hi2 hc
  constructor
  · rintro ⟨h1, h2, h3⟩
    rw [flipT_len] at h1
    exact ⟨h1, fun j hj => (hat j hj (by omega)).1 (h2 j (by rw [flipT_len]; exact hj)), (hso h1).1 h3⟩
  · rintro ⟨h1, h2, h3⟩
    refine ⟨by rw [flipT_len]; exact h1, fun j hj => ?_, (hso h1).2 h3⟩
    have hj2 : j < t.length := by rw [flipT_len] at hj; exact hj
    exact (hat j hj2 (by omega)).2 (h2 j hj2)
theorem order_mem {m : MoList} (h : errOf m = 0) (t : List Int) : flipT m.claimants.length t ∈ truths (orderL m) ↔ t ∈ truths m := by
  rw [truths_iff (valid_of h), truths_iff (valid_of (order_valid h)), order_zl]
  exact order_tru (valid_of h) t
theorem order_mem2 {m : MoList} (h : errOf m = 0) (t : List Int) : t ∈ truths (orderL m) ↔ flipT m.claimants.length t ∈ truths m := by
  have := order_mem h (flipT m.claimants.length t)
  rwa [flipT_two] at this
theorem order_none {m : MoList} (h : errOf m = 0) : (truths (orderL m)).length = 0 ↔ (truths m).length = 0 := by
  rw [List.length_eq_zero_iff, List.length_eq_zero_iff, List.eq_nil_iff_forall_not_mem, List.eq_nil_iff_forall_not_mem]
  constructor
  · intro h1 t ht; exact h1 _ ((order_mem h t).2 ht)
  · intro h1 t ht; exact h1 _ ((order_mem2 h t).1 ht)
theorem order_whole {m : MoList} (h : errOf m = 0) : wholeErr (orderL m) = wholeErr m := by
  by_cases h1 : (truths m).length = 0
  · rw [whole_empty h h1, whole_empty (order_valid h) ((order_none h).2 h1)]
  · rw [whole_of h (by omega), whole_of (order_valid h) (by have := mt (order_none h).1 h1; omega)]
theorem order_whom {m : MoList} (h : errOf m = 0) {i : Nat} (hi : i < m.sums.length) : (whom m.claimants.length (truths (orderL m)) i).length = (whom m.claimants.length (truths m) i).length := by
  have e : whom m.claimants.length (truths (orderL m)) i = ((whom m.claimants.length (truths m) i).map (fun c => (m.claimants.length : Int) - 1 - c)).reverse := by
    refine incr_ext (whom_incr _ _ _).1 ?_ fun x => ?_
    · rw [List.pairwise_reverse, List.pairwise_map]
      exact (whom_incr _ _ _).1.imp (fun h => by omega)
    · rw [List.mem_reverse, List.mem_map, mem_whom]
      constructor
      · rintro ⟨h1, h2, t, ht, rfl⟩
        have ht2 := (order_mem2 h t).1 ht
        have hl := truths_len _ _ ht
        rw [order_zl] at hl
        refine ⟨(m.claimants.length : Int) - 1 - t[i]?.getD 0, mem_whom.2 ⟨by omega, by omega, _, ht2, flipT_at _ (by omega)⟩, by omega⟩
      · rintro ⟨c, hc, rfl⟩
        obtain ⟨h1, h2, t, ht, rfl⟩ := mem_whom.1 hc
        have hl := truths_len _ _ ht
        exact ⟨by omega, by omega, _, (order_mem h t).2 ht, flipT_at _ (by omega)⟩
  rw [e, List.length_reverse, List.length_map]
theorem order_unsure {m : MoList} (h : errOf m = 0) : unsure (orderL m) (truths (orderL m)) = unsure m (truths m) := by
  unfold unsure
  rw [order_zl, order_cl]
  congr 1
  apply List.filter_congr
  intro i hi
  rw [order_whom h (by simpa using hi)]
theorem order_held {m : MoList} (h : errOf m = 0) : heldOf (orderL m) = heldOf m := by
  unfold heldOf
  rw [order_whole h, order_unsure h]

theorem order_due {m : MoList} (t : List Int) (c : Int) : ∀ j, j ≤ t.length → dueTo (orderL m) (flipT m.claimants.length t) ((m.claimants.length : Int) - 1 - c) j = dueTo m t c j
  | 0, _ => rfl
  | j + 1, hj => by
    rw [dueTo, dueTo, order_due t c j (by omega), flipT_at _ (by omega)]
    have hp : penceAt (orderL m) j = penceAt m j := by
      unfold penceAt
      simp only [orderL, List.getElem?_map]
      cases m.sums[j]? <;> rfl
    rw [hp]
    congr 1
    by_cases e : t[j]?.getD 0 = c
    · rw [if_pos e, if_pos (by omega)]
    · rw [if_neg e, if_neg (by omega)]
theorem span_mem {f g : List Int → Int} {T T' : List (List Int)} {lo hi lo' hi' : Int} (h0 : T ≠ []) (h0' : T' ≠ []) (h1 : ∀ a ∈ T', ∃ b ∈ T, f a = g b) (h2 : ∀ b ∈ T, ∃ a ∈ T', f a = g b) (h : SpanL g T lo hi) (h' : SpanL f T' lo' hi') : lo' = lo ∧ hi' = hi := by
  obtain ⟨⟨a, ha, ea⟩, ⟨b, hb, eb⟩, hx⟩ := h h0
  obtain ⟨⟨a', ha', ea'⟩, ⟨b', hb', eb'⟩, hx'⟩ := h' h0'
  obtain ⟨a2, ha2, e1⟩ := h2 a ha
  obtain ⟨b2, hb2, e2⟩ := h2 b hb
  obtain ⟨a3, ha3, e3⟩ := h1 a' ha'
  obtain ⟨b3, hb3, e4⟩ := h1 b' hb'
  have x1 := hx' a2 ha2
  have x2 := hx' b2 hb2
  have x3 := hx a3 ha3
  have x4 := hx b3 hb3
  omega
theorem order_owed {m : MoList} (h : errOf m = 0) {c : Int} (hc : 0 ≤ c ∧ c < m.claimants.length) : owedOf (orderL m) ((m.claimants.length : Int) - 1 - c) = owedOf m c := by
  have he : owedErr (orderL m) ((m.claimants.length : Int) - 1 - c) = owedErr m c := by
    unfold owedErr askedErr
    rw [if_pos h, if_pos (order_valid h), order_cl, if_pos (inB_iff.2 ⟨by omega, by omega⟩), if_pos (inB_iff.2 ⟨by omega, by omega⟩)]
    unfold someErr
    rw [if_pos rfl, if_pos rfl]
    by_cases h1 : (truths m).length = 0
    · rw [if_pos h1, if_pos ((order_none h).2 h1)]
    · rw [if_neg h1, if_neg (mt (order_none h).1 h1)]
  unfold owedOf
  rw [he]
  by_cases h0 : owedErr m c = 0
  · rw [if_pos h0, if_pos h0]
    have hpos := (owed_valid h0).2.1
    have hpos' : 0 < (truths (orderL m)).length := by have := mt (order_none h).1 (show (truths m).length ≠ 0 by omega); omega
    have s1 := spanTo_all m (truths m) c hpos
    have s2 := spanTo_all (orderL m) (truths (orderL m)) ((m.claimants.length : Int) - 1 - c) hpos'
    have hd : ∀ t, dueOf (orderL m) (flipT m.claimants.length t) ((m.claimants.length : Int) - 1 - c) = dueOf m t c := by
      intro t
      unfold dueOf
      rw [flipT_len]
      exact order_due t c _ (Nat.le_refl _)
    have := span_mem (List.ne_nil_of_length_pos hpos) (List.ne_nil_of_length_pos hpos') (fun a ha => ⟨flipT m.claimants.length a, (order_mem2 h a).1 ha, by have := hd (flipT m.claimants.length a); rw [flipT_two] at this; exact this⟩) (fun b hb => ⟨flipT m.claimants.length b, (order_mem h b).2 hb, hd b⟩) s1 s2
    rw [Prod.ext_iff]
    exact ⟨Prod.ext this.1 this.2, rfl⟩
  · rw [if_neg h0, if_neg h0]

theorem order_setCame (n : Nat) (ws : List MoWord) (i : Nat) : setCame (ws.map (orderWord n)) i = (setCame ws i).map (orderWord n) := by
  unfold setCame
  rw [List.getElem?_map]
  cases hw : ws[i]? with
  | none => rfl
  | some w =>
    simp only [Option.map_some, List.map_set]
    congr 1
    unfold orderWord
    simp only
    split <;> rfl
theorem order_came (n : Nat) : ∀ (l : List Int) (ws : List MoWord), l.foldl (fun ws i => setCame ws i.toNat) (ws.map (orderWord n)) = (l.foldl (fun ws i => setCame ws i.toNat) ws).map (orderWord n)
  | [], _ => rfl
  | x :: l, ws => by
    rw [List.foldl_cons, List.foldl_cons, order_setCame, order_came n l]
theorem order_with (m : MoList) (l : List Int) : withWords (orderL m) l = orderL (withWords m l) := by
  unfold withWords orderL
  simp only [order_came]
theorem order_decides {m : MoList} (h : errOf m = 0) (l : List Int) : decides (orderL m) l = decides m l := by
  unfold decides
  simp only [order_with]
  have hw := errOf_with m l h
  rw [order_unsure hw]
  congr 2
  rw [Bool.eq_iff_iff, List.isEmpty_iff, List.isEmpty_iff, ← List.length_eq_zero_iff, ← List.length_eq_zero_iff]
  exact order_none hw
theorem order_late (m : MoList) : lateWords (orderL m) = lateWords m := by
  unfold lateWords
  rw [order_wl]
  congr 1
  apply List.filter_congr
  intro i _
  simp only [orderL, List.getElem?_map]
  cases m.words[i]? with
  | none => rfl
  | some w =>
    simp only [Option.map_some]
    unfold orderWord
    split <;> rfl
theorem order_wait {m : MoList} (h : errOf m = 0) : waitOf (orderL m) = waitOf m := by
  by_cases h0 : wholeErr m = 0
  · have h0' : wholeErr (orderL m) = 0 := by rw [order_whole h]; exact h0
    have hP : ∀ l, WaitP (orderL m) l ↔ WaitP m l := fun l => by
      unfold WaitP
      rw [order_wl, order_late, order_decides h]
    rcases wait_spec m h0 with ⟨a1, a2⟩ | ⟨a1, a2, a3⟩
    · rcases wait_spec (orderL m) h0' with ⟨b1, b2⟩ | ⟨b1, b2, b3⟩
      · exact Prod.ext (firstOf_one (firstOf_iff hP b2) a2) (by rw [a1, b1])
      · exact absurd ((hP _).2 a2.1) (b3 _)
    · rcases wait_spec (orderL m) h0' with ⟨b1, b2⟩ | ⟨b1, b2, b3⟩
      · exact absurd ((hP _).1 b2.1) (a3 _)
      · exact Prod.ext (by rw [a2, b2]) (by rw [a1, b1])
  · rw [wait_no h0, wait_no (by rw [order_whole h]; exact h0), order_whole h]

theorem order_right {m : MoList} (hv : Valid m) {t : List Int} (ht : t.length = m.sums.length) (but : List Int) : right (orderL m) (flipT m.claimants.length t) but = right m t but := by
  unfold right
  rw [order_pl, Bool.eq_iff_iff, List.all_eq_true, List.all_eq_true]
  have e : ∀ i, i < m.paid.length → rightAt (orderL m) (flipT m.claimants.length t) but i = rightAt m t but i := by
    intro i hi
    have hp := hv.paid i hi
    rw [rightAt_eq (by rw [order_pl]; exact hi), rightAt_eq hi]
    have e1 : (orderL m).paid[i]'(by rw [order_pl]; exact hi) = orderPaid m.claimants.length m.paid[i] := by simp [orderL]
    rw [e1]
    show (hasB but i || (decide ((flipT m.claimants.length t)[m.paid[i].sum.toNat]?.getD 0 = (m.claimants.length : Int) - 1 - m.paid[i].claimant) && (List.range i).all fun k => pairOk (orderL m) but m.paid[i].sum k)) = _
    rw [flipT_at _ (by omega)]
    have e2 : decide ((m.claimants.length : Int) - 1 - t[m.paid[i].sum.toNat]?.getD 0 = (m.claimants.length : Int) - 1 - m.paid[i].claimant) = decide (t[m.paid[i].sum.toNat]?.getD 0 = m.paid[i].claimant) := by apply decide_eq_decide.2; omega
    rw [e2]
    congr 2
    apply List.all_congr rfl
    intro k
    unfold pairOk
    simp only [orderL, List.getElem?_map]
    cases m.paid[k]? <;> rfl
  constructor
  · intro h i hi
    have := h i hi
    rwa [e i (by simpa using hi)] at this
  · intro h i hi
    rw [e i (by simpa using hi)]
    exact h i hi
theorem order_some {m : MoList} (h : errOf m = 0) (but : List Int) : someRight (orderL m) (truths (orderL m)) but = someRight m (truths m) but := by
  unfold someRight
  rw [Bool.eq_iff_iff, List.any_eq_true, List.any_eq_true]
  constructor
  · rintro ⟨t, ht, hr⟩
    have ht2 := (order_mem2 h t).1 ht
    refine ⟨_, ht2, ?_⟩
    have := order_right (valid_of h) (truths_len _ _ ht2) but
    rw [flipT_two] at this
    rw [← this]; exact hr
  · rintro ⟨t, ht, hr⟩
    exact ⟨_, (order_mem h t).2 ht, by rw [order_right (valid_of h) (truths_len _ _ ht)]; exact hr⟩
theorem order_wrong {m : MoList} (h : errOf m = 0) : wrongOf (orderL m) = wrongOf m := by
  by_cases h0 : wholeErr m = 0
  · have h0' : wholeErr (orderL m) = 0 := by rw [order_whole h]; exact h0
    have a := wrong_first m h0
    have b := wrong_first (orderL m) h0'
    have e2 : (wrongOf m).2 = 0 := by unfold wrongOf; rw [if_pos h0]
    have e3 : (wrongOf (orderL m)).2 = 0 := by unfold wrongOf; rw [if_pos h0']
    refine Prod.ext (firstOf_one (firstOf_iff (fun l => ?_) b) a) (by rw [e2, e3])
    rw [order_pl, order_some h]
  · rw [wrong_no h0, wrong_no (by rw [order_whole h]; exact h0), order_whole h]
end Go.Proofs.Ytnlolliankhfmaa
