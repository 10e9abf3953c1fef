/- What is proved here: plain facts on what is paid, held and owed, of layer 7. No program. No condition. -/
import Derived.Test.YtnlolliankhfmaaPlain
set_option linter.unusedVariables false
set_option linter.unusedSimpArgs false
namespace Go.Proofs.Ytnlolliankhfmaa

theorem for_whole {m : MoList} (h : wholeErr m = 0) {i : Nat} (hi : i < m.sums.length) : forErr m i = 0 := by
  have he := someErr_zero h
  unfold forErr askedErr
  rw [if_pos he.1, if_pos (inB_iff.2 ⟨by omega, by omega⟩)]
  unfold someErr
  rw [if_pos rfl, if_neg (by omega)]
theorem owed_whole {m : MoList} (h : wholeErr m = 0) {i : Nat} (hi : i < m.claimants.length) : owedErr m i = 0 := by
  have he := someErr_zero h
  unfold owedErr askedErr
  rw [if_pos he.1, if_pos (inB_iff.2 ⟨by omega, by omega⟩)]
  unfold someErr
  rw [if_pos rfl, if_neg (by omega)]
theorem some_bad {m : MoList} {e : Int} (h : wholeErr m ≠ 0) (he : errOf m ≠ 0 → e ≠ 0) : someErr m e ≠ 0 := by
  unfold wholeErr someErr at h
  unfold someErr
  by_cases e0 : e = 0
  · have h1 : errOf m = 0 := Classical.byContradiction fun h2 => he h2 e0
    rw [if_pos h1] at h
    rw [if_pos e0]
    exact h
  · rw [if_neg e0]
    exact e0
theorem asked_bad {m : MoList} {n below : Int} (h : errOf m ≠ 0) : askedErr m n below ≠ 0 := by
  unfold askedErr
  rw [if_neg h]
  exact h
theorem for_bad {m : MoList} (h : wholeErr m ≠ 0) (s : Int) : forErr m s ≠ 0 := some_bad h asked_bad
theorem owed_bad {m : MoList} (h : wholeErr m ≠ 0) (s : Int) : owedErr m s ≠ 0 := some_bad h asked_bad
theorem pay_bad {m : MoList} (h : wholeErr m ≠ 0) (s : Int) : (payOf m s).2 ≠ 0 := by
  unfold payOf
  rw [if_neg (for_bad h s)]
  exact for_bad h s

theorem mem_whom {n i : Nat} {all : List (List Int)} {x : Int} : x ∈ whom n all i ↔ 0 ≤ x ∧ x < n ∧ ∃ t ∈ all, t[i]?.getD 0 = x := by
  unfold whom
  rw [List.mem_map]
  constructor
  · rintro ⟨c, hc, rfl⟩
    obtain ⟨h1, h2⟩ := List.mem_filter.1 hc
    rw [List.any_eq_true] at h2
    obtain ⟨t, ht, h3⟩ := h2
    exact ⟨by omega, by have := List.mem_range.1 h1; omega, t, ht, by simpa using h3⟩
  · rintro ⟨h0, h1, t, ht, h2⟩
    refine ⟨x.toNat, List.mem_filter.2 ⟨List.mem_range.2 (by omega), ?_⟩, by omega⟩
    rw [List.any_eq_true]
    exact ⟨t, ht, by simp; omega⟩
theorem whom_incr (n : Nat) (all : List (List Int)) (i : Nat) : incr n (whom n all i) := by
  unfold whom
  refine ⟨?_, ?_⟩
  · rw [List.pairwise_map]
    exact (List.Pairwise.filter _ List.pairwise_lt_range).imp (fun h => by omega)
  · intro x hx
    have := (mem_whom (n := n) (i := i) (all := all) (x := x)).1 hx
    exact ⟨this.1, this.2.1⟩
theorem truth_whom_mem {m : MoList} {t : List Int} (ht : t ∈ truths m) {i : Nat} (hi : i < m.sums.length) : t[i]?.getD 0 ∈ whom m.claimants.length (truths m) i := by
  have := truth_at m i hi t ht
  exact mem_whom.2 ⟨this.1, this.2, t, ht, rfl⟩

/-- What Pay returns where there is a truth. -/
theorem pay_cases {m : MoList} (h : wholeErr m = 0) {i : Nat} (hi : i < m.sums.length) :
    (∃ c : Int, payOf m i = (c, 0) ∧ whom m.claimants.length (truths m) i = [c] ∧ 0 ≤ c ∧ c < m.claimants.length ∧ ∀ t ∈ truths m, t[i]?.getD 0 = c) ∨ (payOf m i = (0, 9) ∧ 1 < (whom m.claimants.length (truths m) i).length) := by
  have hf := for_whole h hi
  have hp := whom_pos m (whole_valid h).2 i hi
  unfold payOf
  rw [if_pos hf]
  simp only [Int.toNat_natCast]
  by_cases h1 : 1 < (whom m.claimants.length (truths m) i).length
  · rw [if_pos h1]
    exact .inr ⟨rfl, h1⟩
  · rw [if_neg h1]
    left
    have hl : (whom m.claimants.length (truths m) i).length = 1 := by omega
    obtain ⟨c, hc⟩ := List.length_eq_one_iff.1 hl
    have hm : c ∈ whom m.claimants.length (truths m) i := by rw [hc]; simp
    have hb := mem_whom.1 hm
    refine ⟨c, by rw [hc]; rfl, hc, hb.1, hb.2.1, fun t ht => ?_⟩
    have := truth_whom_mem ht hi
    rw [hc] at this
    simpa using this
/-- What Owed returns where there is a truth. -/
theorem owed_cases {m : MoList} (h : wholeErr m = 0) {c : Nat} (hc : c < m.claimants.length) :
    ∃ lo hi : Int, owedOf m c = ((lo, hi), 0) ∧ ∀ t ∈ truths m, lo ≤ dueOf m t c ∧ dueOf m t c ≤ hi := by
  have hs := spanTo_all m (truths m) c (whole_valid h).2
  refine ⟨_, _, ?_, (hs (by have := (whole_valid h).2; intro e; rw [e] at this; simp at this)).2.2⟩
  unfold owedOf
  rw [if_pos (owed_whole h hc)]

/-- What all sums are, the first j. -/
def penceTo (m : MoList) : Nat → Int
  | 0 => 0
  | j + 1 => penceTo m j + penceAt m j
theorem penceTo_bd (m : MoList) (hv : Valid m) : ∀ j, 0 ≤ penceTo m j ∧ penceTo m j ≤ 99 * j
  | 0 => by simp [penceTo]
  | j + 1 => by
    have h := penceTo_bd m hv j
    have hp := pence_bd m hv j
    rw [penceTo]
    omega
/-- What the first n claimants are owed by the first j sums. -/
def duesUpto (m : MoList) (t : List Int) (j : Nat) : Nat → Int
  | 0 => 0
  | n + 1 => duesUpto m t j n + dueTo m t n j
theorem duesUpto_zero (m : MoList) (t : List Int) : ∀ n, duesUpto m t 0 n = 0
  | 0 => rfl
  | n + 1 => by rw [duesUpto, duesUpto_zero m t n]; rfl
theorem duesUpto_succ (m : MoList) (t : List Int) (j : Nat) : ∀ n : Nat, duesUpto m t (j + 1) n = duesUpto m t j n + (if 0 ≤ t[j]?.getD 0 ∧ t[j]?.getD 0 < (n : Int) then penceAt m j else 0)
  | 0 => by rw [duesUpto, duesUpto, if_neg (by omega)]; rfl
  | n + 1 => by
    rw [duesUpto, duesUpto, duesUpto_succ m t j n, dueTo]
    by_cases h1 : t[j]?.getD 0 = (n : Int)
    · rw [if_pos h1, if_neg (by omega), if_pos (by omega)]
      omega
    · rw [if_neg h1]
      by_cases h2 : 0 ≤ t[j]?.getD 0 ∧ t[j]?.getD 0 < (n : Int)
      · rw [if_pos h2, if_pos (by omega)]
        omega
      · rw [if_neg h2, if_neg (by omega)]
        omega
theorem duesUpto_all (m : MoList) (t : List Int) (n : Nat) (ht : ∀ x ∈ t, 0 ≤ x ∧ x < (n : Int)) : ∀ j, j ≤ t.length → duesUpto m t j n = penceTo m j
  | 0, _ => by rw [duesUpto_zero]; rfl
  | j + 1, h => by
    have hj : j < t.length := by omega
    have hb := ht _ (List.getElem_mem hj)
    rw [duesUpto_succ, duesUpto_all m t n ht j (by omega), penceTo, List.getElem?_eq_getElem hj, if_pos (by simpa using hb)]
/-- What all claimants are owed in a truth is what all sums are. -/
theorem dues_all {m : MoList} {t : List Int} (ht : t ∈ truths m) : duesUpto m t m.sums.length m.claimants.length = penceTo m m.sums.length := by
  have hl := truths_len m t ht
  exact duesUpto_all m t _ (truths_bd m t ht) _ (by omega)
theorem due_is {m : MoList} {t : List Int} (ht : t ∈ truths m) (c : Int) : dueOf m t c = dueTo m t c m.sums.length := by unfold dueOf; rw [truths_len m t ht]
theorem duesUpto_bd (m : MoList) (hv : Valid m) (t : List Int) (j : Nat) : ∀ n, 0 ≤ duesUpto m t j n ∧ duesUpto m t j n ≤ 99 * j * n
  | 0 => by simp [duesUpto]
  | n + 1 => by
    have h := duesUpto_bd m hv t j n
    have hp := dueTo_bd m hv t n j
    rw [duesUpto]
    refine ⟨by omega, ?_⟩
    have : (99 * j * (n + 1 : Nat) : Int) = 99 * j * n + 99 * j := by rw [Int.natCast_add, Int.mul_add]; simp
    omega
end Go.Proofs.Ytnlolliankhfmaa
