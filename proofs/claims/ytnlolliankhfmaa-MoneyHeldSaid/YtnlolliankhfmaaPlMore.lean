/- What is proved here: plain facts of the statements MoneyMore, MoneyBack, MoneyNeed: fewer truths, and what follows. No program. No condition. -/
import Derived.Test.YtnlolliankhfmaaPlTrue
set_option linter.unusedVariables false
set_option linter.unusedSimpArgs false
namespace Go.Proofs.Ytnlolliankhfmaa

theorem sub_len : ∀ {A B : List (List Int)}, A.Pairwise (fun a b => less a b = true) → B.Pairwise (fun a b => less a b = true) → (∀ t ∈ A, t ∈ B) → A.length ≤ B.length := by
  intro A B ha hb h
  have e : A = B.filter (fun t => decide (t ∈ A)) := by
    refine sorted_ext ha (List.Pairwise.filter _ hb) fun t => ⟨fun ht => List.mem_filter.2 ⟨h t ht, by simpa using ht⟩, fun ht => by simpa using (List.mem_filter.1 ht).2⟩
  rw [e]
  exact List.length_filter_le _ _
theorem filter_len {α : Type} {p q : α → Bool} : ∀ (l : List α), (∀ x ∈ l, p x = true → q x = true) → (l.filter p).length ≤ (l.filter q).length
  | [], _ => Nat.le_refl _
  | x :: l, h => by
    have ih := filter_len l fun y hy => h y (by simp [hy])
    have hx := h x (by simp)
    rw [List.filter_cons, List.filter_cons]
    cases hp : p x
    · simp only [Bool.false_eq_true, if_false]
      split
      · simp only [List.length_cons]; omega
      · exact ih
    · rw [hp] at hx
      rw [hx rfl]
      simp only [if_true, List.length_cons]
      omega
theorem whom_len {n i : Nat} {A B : List (List Int)} (h : ∀ t ∈ A, t ∈ B) : (whom n A i).length ≤ (whom n B i).length := by
  unfold whom
  rw [List.length_map, List.length_map]
  refine filter_len _ fun c _ hc => ?_
  rw [List.any_eq_true] at hc ⊢
  obtain ⟨t, ht, h2⟩ := hc
  exact ⟨t, h t ht, h2⟩
theorem unsure_len {m k : MoList} {A B : List (List Int)} (hc : m.claimants.length = k.claimants.length) (hz : m.sums.length = k.sums.length) (h : ∀ t ∈ A, t ∈ B) : (unsure m A).length ≤ (unsure k B).length := by
  unfold unsure
  rw [List.length_map, List.length_map, hz, hc]
  refine filter_len _ fun i _ hi => ?_
  have := whom_len (n := k.claimants.length) (i := i) h
  simp only [decide_eq_true_eq] at hi ⊢
  omega
theorem unsure_sub {m k : MoList} {A B : List (List Int)} (hc : m.claimants.length = k.claimants.length) (hz : m.sums.length = k.sums.length) (h : ∀ t ∈ A, t ∈ B) : ∀ x ∈ unsure m A, x ∈ unsure k B := by
  intro x hx
  unfold unsure at hx ⊢
  obtain ⟨i, hi, rfl⟩ := List.mem_map.1 hx
  obtain ⟨h1, h2⟩ := List.mem_filter.1 hi
  refine List.mem_map.2 ⟨i, List.mem_filter.2 ⟨by rw [← hz]; exact h1, ?_⟩, rfl⟩
  have := whom_len (n := k.claimants.length) (i := i) h
  rw [hc] at h2
  simp only [decide_eq_true_eq] at h2 ⊢
  omega
/-- Fewer truths: what was sure stays so. -/
theorem pay_more {m k : MoList} (hm : wholeErr m = 0) (hk : wholeErr k = 0) (hz : m.sums.length = k.sums.length) (h : ∀ t ∈ truths k, t ∈ truths m) {i : Nat} (hi : i < m.sums.length) (hp : (payOf m i).2 = 0) : payOf k i = payOf m i := by
  rcases pay_cases hm hi with ⟨c, h1, -, -, -, h2⟩ | ⟨h1, -⟩
  · obtain ⟨t, ht⟩ : ∃ t, t ∈ truths k := ⟨_, List.getElem_mem (whole_valid hk).2⟩
    rcases pay_cases hk (show i < k.sums.length by omega) with ⟨c', h3, -, -, -, h4⟩ | ⟨h3, h4⟩
    · rw [h1, h3, ← h2 t (h t ht), ← h4 t ht]
    · have hw : ∀ x ∈ whom k.claimants.length (truths k) i, x = c := by
        intro x hx
        obtain ⟨-, -, t, ht, rfl⟩ := mem_whom.1 hx
        exact h2 t (h t ht)
      have hin := whom_incr k.claimants.length (truths k) i
      exfalso
      match hl : whom k.claimants.length (truths k) i, h4, hw, hin with
      | a :: b :: l, _, hw, hin =>
        have e1 := hw a (by simp)
        have e2 := hw b (by simp)
        have := (List.pairwise_cons.1 hin.1).1 b (by simp)
        omega
  · rw [h1] at hp
    exact absurd hp (by decide)
/-- The words of one list that count are words of another one that count, too. -/
structure Within (m k : MoList) : Prop where
  cl : m.claimants = k.claimants
  su : m.sums = k.sums
  nw : m.words.length = k.words.length
  wd : ∀ i (h1 : i < m.words.length) (h2 : i < k.words.length) t, so m.words[i] t = so k.words[i] t
  ct : ∀ i, i < m.words.length → counts m i = true → counts k i = true
theorem within_tru {m k : MoList} (h : Within m k) {n : Nat} {t : List Int} (ht : Tru k n t) : Tru m n t := by
  refine ⟨ht.len, fun j hj => ?_, ?_⟩
  · have := ht.at_ j hj
    unfold forAt at this ⊢
    rw [h.cl, h.su]
    exact this
  · rw [wordsSo_iff]
    intro i hi hc
    have hi2 : i < k.words.length := by rw [← h.nw]; exact hi
    rw [h.wd i hi hi2]
    exact (wordsSo_iff.1 ht.so) i hi2 (h.ct i hi hc)
theorem within_sub {m k : MoList} (hm : Valid m) (hk : Valid k) (h : Within m k) : ∀ t ∈ truths k, t ∈ truths m := by
  intro t ht
  rw [truths_iff hk] at ht
  rw [truths_iff hm, h.su]
  exact within_tru h ht

/-- A word's 'came', turned. -/
def turnCame (ws : List MoWord) (n : Nat) (b : Bool) : List MoWord := ws.mapIdx fun i w => if i = n then { w with came := b } else w
def withCame (m : MoList) (n : Nat) (b : Bool) : MoList := { m with words := turnCame m.words n b }
theorem turnCame_len (ws : List MoWord) (n : Nat) (b : Bool) : (turnCame ws n b).length = ws.length := by simp [turnCame]
theorem turnCame_at (ws : List MoWord) (n : Nat) (b : Bool) (i : Nat) (h : i < ws.length) : (turnCame ws n b)[i]'(by rw [turnCame_len]; exact h) = if i = n then { ws[i] with came := b } else ws[i] := by simp [turnCame]
theorem turnCame_set (ws : List MoWord) (n : Nat) (b : Bool) (h : n < ws.length) : turnCame ws n b = ws.set n { ws[n] with came := b } := by
  apply List.ext_getElem
  · simp [turnCame_len]
  · intro i h1 h2
    have hi : i < ws.length := by rw [turnCame_len] at h1; exact h1
    rw [turnCame_at ws n b i hi, List.getElem_set]
    by_cases e : i = n
    · subst e; simp
    · rw [if_neg e, if_neg (fun h => e h.symm)]
theorem setCame_turn (ws : List MoWord) (n : Nat) : setCame ws n = turnCame ws n true := by
  by_cases h : n < ws.length
  · rw [setCame_eq ws n h, turnCame_set ws n true h]
  · unfold setCame turnCame
    rw [List.getElem?_eq_none (by omega)]
    simp only
    apply List.ext_getElem
    · simp
    · intro i h1 h2
      rw [List.getElem_mapIdx, if_neg (by omega)]
theorem withWords_one (m : MoList) (n : Nat) : withWords m [(n : Int)] = withCame m n true := by
  unfold withWords withCame
  simp only [List.foldl_cons, List.foldl_nil, Int.toNat_natCast]
  rw [setCame_turn]
theorem withCame_valid {m : MoList} (h : errOf m = 0) (n : Nat) (b : Bool) : errOf (withCame m n b) = 0 := by
  obtain ⟨a, z, c, d⟩ := errOf_parts h
  have hl : (withCame m n b).words.length = m.words.length := turnCame_len m.words n b
  refine errOf_of a.1 a.2 z.1 z.2 (by rw [hl]; exact c.1) (fun i hi => ?_) d.1 d.2
  have hi2 : i < m.words.length := by rw [hl] at hi; exact hi
  have hw := (valid_of h).words i hi2
  rw [wordErr_at hi]
  apply wordErrOf_zero
  have e : (withCame m n b).words[i] = if i = n then { m.words[i] with came := b } else m.words[i] := turnCame_at m.words n b i hi2
  rw [e, hl]
  split
  · exact ⟨hw.says, hw.sum, hw.of1, hw.of2, hw.back⟩
  · exact hw
/-- A word that takes none back: if it comes, no word counts less. -/
theorem came_within {m : MoList} {n : Nat} (hn : n < m.words.length) (hb : m.words[n].back = -1) : Within m (withCame m n true) ∧ Within (withCame m n false) m := by
  have hl : ∀ b, (withCame m n b).words.length = m.words.length := fun b => turnCame_len m.words n b
  have ha : ∀ b i (h : i < m.words.length), (withCame m n b).words[i]'(by rw [hl]; exact h) = if i = n then { m.words[i] with came := b } else m.words[i] := fun b i h => turnCame_at m.words n b i h
  have hso : ∀ (w : MoWord) (b : Bool) t, so { w with came := b } t = so w t := fun w b t => rfl
  refine ⟨⟨rfl, rfl, (hl true).symm, fun i h1 h2 t => ?_, fun i hi hc => ?_⟩, ⟨rfl, rfl, hl false, fun i h1 h2 t => ?_, fun i hi hc => ?_⟩⟩
  · rw [ha true i h1]
    split <;> rfl
  · rw [counts_iff hi] at hc
    rw [counts_iff (by rw [hl]; exact hi)]
    refine ⟨?_, fun x hx hxc => ?_⟩
    · rw [ha true i hi]
      split
      · rfl
      · exact hc.1
    · obtain ⟨j, hj, rfl⟩ := List.getElem_of_mem hx
      have hj2 : j < m.words.length := by rw [hl] at hj; exact hj
      rw [ha true j hj2] at hxc ⊢
      by_cases e : j = n
      · rw [if_pos e]
        subst e
        simp only
        rw [hb]
        omega
      · rw [if_neg e] at hxc ⊢
        exact hc.2 _ (List.getElem_mem hj2) hxc
  · rw [ha false i h2]
    split <;> rfl
  · have hi2 : i < m.words.length := by rw [hl] at hi; exact hi
    rw [counts_iff hi] at hc
    rw [counts_iff hi2]
    have hne : i ≠ n := by
      intro e
      have := hc.1
      rw [ha false i hi2, if_pos e] at this
      cases this
    have h1 := hc.1
    rw [ha false i hi2, if_neg hne] at h1
    refine ⟨h1, fun x hx hxc => ?_⟩
    obtain ⟨j, hj, rfl⟩ := List.getElem_of_mem hx
    by_cases e : j = n
    · subst e
      rw [hb]
      omega
    · have h2 := hc.2 ((withCame m n false).words[j]'(by rw [hl]; exact hj)) (List.getElem_mem _)
      rw [ha false j hj, if_neg e] at h2
      exact h2 hxc
end Go.Proofs.Ytnlolliankhfmaa
