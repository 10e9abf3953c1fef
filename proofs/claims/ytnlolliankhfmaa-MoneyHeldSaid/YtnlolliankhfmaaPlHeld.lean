/- What is proved here: plain facts of the statement MoneyHeld. No program. No condition. -/
import Derived.Test.YtnlolliankhfmaaPlB
set_option linter.unusedVariables false
set_option linter.unusedSimpArgs false
namespace Go.Proofs.Ytnlolliankhfmaa

theorem held_no {m : MoList} (h : wholeErr m ≠ 0) : heldOf m = ([], wholeErr m) := by unfold heldOf; rw [if_neg h]
theorem wait_no {m : MoList} (h : wholeErr m ≠ 0) : waitOf m = ([], wholeErr m) := by unfold waitOf; rw [if_neg h]
theorem held_yes {m : MoList} (h : wholeErr m = 0) : heldOf m = (unsure m (truths m), 0) := by unfold heldOf; rw [if_pos h]
theorem for_yes {m : MoList} (h : wholeErr m = 0) {i : Nat} (hi : i < m.sums.length) : forOf m i = (whom m.claimants.length (truths m) i, 0) := by
  unfold forOf; rw [if_pos (for_whole h hi)]; simp

/-- The numbers of a list at whose index a bit is. -/
def pickTo (l : List Int) (b : Int) : Nat → List Int
  | 0 => []
  | j + 1 => pickTo l b j ++ (if bitB b j then [l[j]?.getD 0] else [])
theorem pickTo_sub (l : List Int) (b : Int) : ∀ j, j ≤ l.length → (pickTo l b j).Sublist (l.take j)
  | 0, _ => by simp [pickTo]
  | j + 1, h => by
    have hj : j < l.length := by omega
    rw [pickTo, List.take_succ_eq_append_getElem hj]
    refine List.Sublist.append (pickTo_sub l b j (by omega)) ?_
    rw [List.getElem?_eq_getElem hj]
    split <;> simp
theorem pickTo_yes {l : List Int} {b : Int} {j : Nat} (h : j < l.length) (hb : bitB b j = true) : pickTo l b (j + 1) = pickTo l b j ++ [l[j]] := by
  rw [pickTo, if_pos hb, List.getElem?_eq_getElem h]; rfl
theorem pickTo_no {l : List Int} {b : Int} {j : Nat} (hb : bitB b j = false) : pickTo l b (j + 1) = pickTo l b j := by
  rw [pickTo, if_neg (by simp [hb])]; simp
theorem pickTo_len (l : List Int) (b : Int) : ∀ j, (pickTo l b j).length ≤ j
  | 0 => by simp [pickTo]
  | j + 1 => by
    have := pickTo_len l b j
    rw [pickTo, List.length_append]
    split <;> simp <;> omega
theorem pick_wait (m : MoList) (b : Int) (h : decides m (pickTo (lateWords m) b (lateWords m).length) = true) : WaitP m (pickTo (lateWords m) b (lateWords m).length) := by
  have hs := pickTo_sub (lateWords m) b _ (Nat.le_refl _)
  rw [List.take_length] at hs
  have hi := late_incr m
  exact ⟨⟨List.Pairwise.sublist hs hi.1, fun x hx => hi.2 x (hs.subset hx)⟩, fun x hx => hs.subset hx, h⟩
theorem pick_bd (m : MoList) (b : Int) : ∀ x ∈ pickTo (lateWords m) b (lateWords m).length, 0 ≤ x ∧ x < m.words.length := by
  have hs := pickTo_sub (lateWords m) b _ (Nat.le_refl _)
  rw [List.take_length] at hs
  exact fun x hx => (late_incr m).2 x (hs.subset hx)

/-- No words can be waited for: so no bits of words decide. -/
theorem wait_none {m : MoList} (h0 : wholeErr m = 0) (h : (waitOf m).2 ≠ 0) : waitOf m = ([], 9) ∧ ∀ b : Int, decides m (pickTo (lateWords m) b (lateWords m).length) = false := by
  rcases wait_spec m h0 with ⟨h1, _⟩ | ⟨h1, h2, h3⟩
  · exact absurd h1 h
  · refine ⟨Prod.ext h2 h1, fun b => ?_⟩
    cases hd : decides m (pickTo (lateWords m) b (lateWords m).length)
    · rfl
    · exact absurd (pick_wait m b hd) (h3 _)
/-- Words can be waited for: these are ascending, late, first; they decide. -/
theorem wait_some {m : MoList} (h0 : wholeErr m = 0) (h : (waitOf m).2 = 0) : rising (waitOf m).1 m.words.length = true ∧ (∀ b : Int, decides m (pickTo (lateWords m) b (lateWords m).length) = true → fewer (pickTo (lateWords m) b (lateWords m).length) (waitOf m).1 = false) ∧
    (∀ x ∈ (waitOf m).1, hasB (lateWords m) x = true) ∧ (∀ x ∈ (waitOf m).1, 0 ≤ x ∧ x < m.words.length) ∧ heldOf (withWords m (waitOf m).1) = ([], 0) := by
  rcases wait_spec m h0 with ⟨_, ⟨h2, h3⟩⟩ | ⟨h1, _⟩
  · obtain ⟨hi, hl, hd⟩ := h2
    refine ⟨rising_incr hi, fun b hb => ?_, fun x hx => hasB_iff.2 (hl x hx), hi.2, ?_⟩
    · rcases h3 _ (pick_wait m b hb) with e | e
      · rw [e]; exact fewer_irrefl _
      · exact fewer_asymm e
    · have he := errOf_with m (waitOf m).1 (someErr_zero h0).1
      unfold decides at hd
      simp only [Bool.and_eq_true, Bool.not_eq_true', List.isEmpty_iff] at hd
      obtain ⟨d1, d2⟩ := hd
      have hpos : 0 < (truths (withWords m (waitOf m).1)).length := by
        rw [List.length_pos_iff]
        intro e
        rw [e] at d1
        simp at d1
      rw [held_yes (whole_of he hpos), d2]
  · rw [h1] at h
    exact absurd h (by decide)
end Go.Proofs.Ytnlolliankhfmaa
