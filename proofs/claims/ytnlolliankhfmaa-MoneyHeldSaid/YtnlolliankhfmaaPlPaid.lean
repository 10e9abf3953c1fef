/- What is proved here: plain facts of the statement MoneyPaid. No program. No condition. -/
import Derived.Test.YtnlolliankhfmaaPlTrue
set_option linter.unusedVariables false
set_option linter.unusedSimpArgs false
namespace Go.Proofs.Ytnlolliankhfmaa

theorem wrong_no {m : MoList} (h : wholeErr m ≠ 0) : wrongOf m = ([], wholeErr m) := by unfold wrongOf; rw [if_neg h]
/-- The numbers below j at which a bit is. -/
def idxTo (b : Int) : Nat → List Int
  | 0 => []
  | j + 1 => idxTo b j ++ (if bitB b j then [(j : Int)] else [])
theorem idxTo_yes {b : Int} {j : Nat} (hb : bitB b j = true) : idxTo b (j + 1) = idxTo b j ++ [(j : Int)] := by rw [idxTo, if_pos hb]
theorem idxTo_no {b : Int} {j : Nat} (hb : bitB b j = false) : idxTo b (j + 1) = idxTo b j := by rw [idxTo, if_neg (by simp [hb])]; simp
theorem idxTo_len (b : Int) : ∀ j, (idxTo b j).length ≤ j
  | 0 => by simp [idxTo]
  | j + 1 => by
    have := idxTo_len b j
    rw [idxTo, List.length_append]
    split <;> simp <;> omega
theorem idxTo_incr (b : Int) : ∀ j : Nat, incr j (idxTo b j)
  | 0 => incr_nil _
  | j + 1 => by
    have h := idxTo_incr b j
    have h' : incr ((j + 1 : Nat) : Int) (idxTo b j) := ⟨h.1, fun x hx => by have := h.2 x hx; omega⟩
    rw [idxTo]
    split
    · exact incr_snoc.2 ⟨h', fun y hy => (h.2 y hy).2, by omega, by omega⟩
    · simpa using h'
/-- What Wrong returns. -/
theorem wrong_facts {m : MoList} (h : wholeErr m = 0) : ∃ l, wrongOf m = (l, 0) ∧ rising l m.paid.length = true ∧ incr m.paid.length l ∧ someRight m (truths m) l = true ∧ ∀ b : Int, someRight m (truths m) (idxTo b m.paid.length) = true → fewer (idxTo b m.paid.length) l = false := by
  have hf := wrong_first m h
  have e2 : (wrongOf m).2 = 0 := by unfold wrongOf; rw [if_pos h]
  refine ⟨(wrongOf m).1, Prod.ext rfl e2, rising_incr hf.1.1, hf.1.1, hf.1.2, fun b hb => ?_⟩
  rcases hf.2 _ ⟨idxTo_incr b _, hb⟩ with e | e
  · rw [e]; exact fewer_irrefl _
  · exact fewer_asymm e

def withPaid (m : MoList) (p : List MoPaid) : MoList := { m with paid := p }
theorem truthsTo_paid (m : MoList) (p : List MoPaid) : ∀ n, truthsTo (withPaid m p) n = truthsTo m n
  | 0 => rfl
  | n + 1 => by
    show (truthsTo (withPaid m p) n).flatMap (truthStep (withPaid m p) n) = (truthsTo m n).flatMap (truthStep m n)
    rw [truthsTo_paid m p n]
    rfl
theorem truths_paid (m : MoList) (p : List MoPaid) : truths (withPaid m p) = truths m := truthsTo_paid m p _
theorem paid_valid {m : MoList} (h : errOf m = 0) {p : List MoPaid} (hp : PaidOk m p) : errOf (withPaid m p) = 0 := by
  obtain ⟨a, z, c, d⟩ := errOf_parts h
  exact errOf_of (m := withPaid m p) a.1 a.2 z.1 z.2 c.1 c.2 hp.1 (paidErr_zero (m := withPaid m p) hp)
theorem paid_whole {m : MoList} (h : wholeErr m = 0) {p : List MoPaid} (hp : PaidOk m p) : wholeErr (withPaid m p) = 0 :=
  whole_of (paid_valid (someErr_zero h).1 hp) (by rw [truths_paid]; exact (whole_valid h).2)
theorem pay_paid {m : MoList} (h : wholeErr m = 0) {p : List MoPaid} (hp : PaidOk m p) {i : Nat} (hi : i < m.sums.length) : payOf (withPaid m p) i = payOf m i := by
  have h1 := for_whole h hi
  have h2 := for_whole (paid_whole h hp) (i := i) hi
  unfold payOf
  rw [h1, h2, truths_paid]
  rfl
/-- What is paid of the first sums, if each one that is sure is paid once. -/
def sureTo (m : MoList) : Nat → List MoPaid
  | 0 => []
  | j + 1 => sureTo m j ++ (if (payOf m j).2 = 0 then [⟨j, (payOf m j).1⟩] else [])
theorem sureTo_yes {m : MoList} {j : Nat} {c : Int} (h : payOf m j = (c, 0)) : sureTo m (j + 1) = sureTo m j ++ [⟨j, c⟩] := by rw [sureTo, h, if_pos rfl]
theorem sureTo_no {m : MoList} {j : Nat} {c e : Int} (h : payOf m j = (c, e)) (he : e ≠ 0) : sureTo m (j + 1) = sureTo m j := by rw [sureTo, h, if_neg he]; simp
theorem sureTo_mem {m : MoList} : ∀ (j : Nat) (x : MoPaid), x ∈ sureTo m j → ∃ i : Nat, i < j ∧ payOf m i = (x.claimant, 0) ∧ x.sum = i
  | 0, x, h => absurd h (by simp [sureTo])
  | j + 1, x, h => by
    rw [sureTo] at h
    rcases List.mem_append.1 h with h | h
    · obtain ⟨i, hi, h1, h2⟩ := sureTo_mem j x h
      exact ⟨i, by omega, h1, h2⟩
    · split at h
      · rename_i he
        rw [List.mem_singleton] at h
        subst h
        exact ⟨j, by omega, Prod.ext rfl he, rfl⟩
      · simp at h
theorem sureTo_pair (m : MoList) : ∀ j, (sureTo m j).Pairwise (fun x y => x.sum < y.sum)
  | 0 => List.Pairwise.nil
  | j + 1 => by
    rw [sureTo]
    split
    · rw [List.pairwise_append]
      refine ⟨sureTo_pair m j, List.pairwise_singleton _ _, fun x hx y hy => ?_⟩
      rw [List.mem_singleton] at hy
      subst hy
      obtain ⟨i, hi, -, e⟩ := sureTo_mem j x hx
      simp only
      omega
    · simpa using sureTo_pair m j
theorem sureTo_len (m : MoList) : ∀ j, (sureTo m j).length ≤ j
  | 0 => by simp [sureTo]
  | j + 1 => by
    have := sureTo_len m j
    rw [sureTo, List.length_append]
    split <;> simp <;> omega
theorem sureTo_ok {m : MoList} (h : wholeErr m = 0) {j : Nat} (hj : j ≤ m.sums.length) : PaidOk m (sureTo m j) := by
  refine ⟨by have := sureTo_len m j; have := (whole_valid h).1.nz; omega, fun x hx => ?_⟩
  obtain ⟨i, hi, h1, h2⟩ := sureTo_mem j x hx
  rcases pay_cases h (show i < m.sums.length by omega) with ⟨c, h3, -, h4, h5, -⟩ | ⟨h3, -⟩
  · rw [h3] at h1
    have e : c = x.claimant := congrArg Prod.fst h1
    subst e
    exact ⟨by omega, h4, h5⟩
  · rw [h3] at h1
    exact absurd (congrArg Prod.snd h1) (by simp)
theorem sure_wrong {m : MoList} (h : wholeErr m = 0) : wrongOf (withPaid m (sureTo m m.sums.length)) = ([], 0) := by
  have hp := sureTo_ok h (Nat.le_refl m.sums.length)
  obtain ⟨t, ht⟩ : ∃ t, t ∈ truths m := ⟨_, List.getElem_mem (whole_valid h).2⟩
  have ht2 : t ∈ truths (withPaid m (sureTo m m.sums.length)) := by rw [truths_paid]; exact ht
  refine wrong_nil (paid_whole h hp) ht2 (right_nil (fun i hi => ?_) (fun i k hi hk => ?_))
  · obtain ⟨j, hj, h1, h2⟩ := sureTo_mem _ _ (List.getElem_mem (l := sureTo m m.sums.length) hi)
    show t[(sureTo m m.sums.length)[i].sum.toNat]?.getD 0 = (sureTo m m.sums.length)[i].claimant
    rw [h2, Int.toNat_natCast]
    rcases pay_cases h hj with ⟨c, h3, -, -, -, h5⟩ | ⟨h3, -⟩
    · rw [h3] at h1
      rw [h5 t ht]
      exact congrArg Prod.fst h1
    · rw [h3] at h1
      exact absurd (congrArg Prod.snd h1) (by simp)
  · have hi2 : i < (sureTo m m.sums.length).length := hi
    have hk2 : k < (sureTo m m.sums.length).length := by omega
    have := List.pairwise_iff_getElem.1 (sureTo_pair m m.sums.length) k i hk2 hi2 hk
    show ((sureTo m m.sums.length)[k]'hk2).sum ≠ ((sureTo m m.sums.length)[i]'hi2).sum
    omega
end Go.Proofs.Ytnlolliankhfmaa
