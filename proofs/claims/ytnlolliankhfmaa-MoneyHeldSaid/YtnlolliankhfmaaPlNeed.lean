/- What is proved here: plain facts of the statements MoneyNeed, MoneyMore, MoneyBack. No program. No condition. -/
import Derived.Test.YtnlolliankhfmaaPlMore
set_option linter.unusedVariables false
set_option linter.unusedSimpArgs false
namespace Go.Proofs.Ytnlolliankhfmaa

theorem need_no {m : MoList} (h : wholeErr m ≠ 0) : needOf m = (0, 0, wholeErr m) := by unfold needOf; rw [held_no h, if_neg h]
theorem need_yes {m : MoList} (h : wholeErr m = 0) : needOf m = ((needTo m (unsure m (truths m)) m.sums.length).1, (needTo m (unsure m (truths m)) m.sums.length).2, 0) := by unfold needOf; rw [held_yes h, if_pos rfl]
theorem needTo_le (m : MoList) (hv : Valid m) (held : List Int) : ∀ j, (needTo m held j).1 ≤ (needTo m held j).2 ∧ (needTo m held j).2 ≤ penceTo m j
  | 0 => ⟨Int.le_refl _, Int.le_refl _⟩
  | j + 1 => by
    have h := needTo_le m hv held j
    have hp := pence_bd m hv j
    rw [needTo, penceTo]
    split
    · omega
    · simp only
      split <;> omega
theorem needTo_free (m : MoList) : ∀ j, (needTo m [] j).1 = (needTo m [] j).2
  | 0 => rfl
  | j + 1 => by
    have h := needTo_free m j
    rw [needTo]
    split
    · exact h
    · simp only
      rw [if_neg (by simp [hasB])]
      omega
theorem needTo_unpaid (m : MoList) (h : m.paid = []) (held : List Int) : ∀ j, (needTo m held j).2 = penceTo m j
  | 0 => rfl
  | j + 1 => by
    have h2 := needTo_unpaid m h held j
    have hp : paidB m j = false := by unfold paidB; rw [h]; rfl
    rw [needTo, hp, penceTo]
    simp only [Bool.false_eq_true, if_false]
    omega
theorem needTo_more {m k : MoList} (hs : m.sums = k.sums) (hp : m.paid = k.paid) (hv : Valid m) {h1 h2 : List Int} (hh : ∀ x ∈ h1, x ∈ h2) : ∀ j, (needTo k h2 j).1 ≤ (needTo m h1 j).1 ∧ (needTo k h2 j).2 = (needTo m h1 j).2
  | 0 => ⟨Int.le_refl _, rfl⟩
  | j + 1 => by
    have ih := needTo_more hs hp hv hh j
    have e1 : paidB k j = paidB m j := by unfold paidB; rw [hp]
    have e2 : penceAt k j = penceAt m j := by unfold penceAt; rw [hs]
    have hb := pence_bd m hv j
    rw [needTo, needTo, e1, e2]
    cases paidB m j
    · simp only [Bool.false_eq_true, if_false]
      refine ⟨?_, by omega⟩
      cases h3 : hasB h1 j
      · simp only [Bool.false_eq_true, if_false]
        split <;> omega
      · have : hasB h2 j = true := hasB_iff.2 (hh _ (hasB_iff.1 h3))
        rw [this]
        simp only [if_true]
        omega
    · simpa using ih
/-- What Need returns. -/
theorem need_facts {m : MoList} (h : wholeErr m = 0) : ∃ s a : Int, needOf m = (s, a, 0) ∧ 0 ≤ s ∧ s ≤ a ∧ a ≤ penceTo m m.sums.length ∧ (unsure m (truths m) = [] → s = a) ∧ (m.paid = [] → a = penceTo m m.sums.length) := by
  have hv := (whole_valid h).1
  refine ⟨_, _, need_yes h, ?_, (needTo_le m hv _ _).1, (needTo_le m hv _ _).2, fun e => ?_, fun e => needTo_unpaid m e _ _⟩
  · exact (needTo_bd m hv (unsure m (truths m)) m.sums.length).1.1
  · rw [e]; exact needTo_free m _
/-- One word less that takes none back: there still is a truth, what is needed surely is no more. -/
theorem need_less {m : MoList} (h : wholeErr m = 0) {n : Nat} (hn : n < m.words.length) (hb : m.words[n].back = -1) :
    (needOf (withCame m n false)).2.2 = 0 ∧ (needOf (withCame m n false)).1 ≤ (needOf m).1 ∧ (needOf (withCame m n false)).2.1 = (needOf m).2.1 := by
  have he := (someErr_zero h).1
  have hk := withCame_valid he n false
  have hs := within_sub (valid_of hk) (valid_of he) (came_within hn hb).2
  have hpos : 0 < (truths (withCame m n false)).length := by
    have := (whole_valid h).2
    exact List.length_pos_of_mem (hs _ (List.getElem_mem this))
  have hw := whole_of hk hpos
  have hm := needTo_more (m := m) (k := withCame m n false) rfl rfl (valid_of he) (h1 := unsure m (truths m)) (h2 := unsure (withCame m n false) (truths (withCame m n false))) (unsure_sub rfl rfl hs) m.sums.length
  rw [need_yes h, need_yes hw]
  exact ⟨rfl, hm.1, hm.2⟩

/-- One word more that takes none back. -/
theorem more_facts {m : MoList} (h : wholeErr m = 0) {n : Nat} (hn : n < m.words.length) (hb : m.words[n].back = -1) :
    errOf (withCame m n true) = 0 ∧ (wholeErr (withCame m n true) ≠ 0 → firstOf (withCame m n true) = ([], 0, 8) ∧ (truths (withCame m n true)).length = 0) ∧
    (wholeErr (withCame m n true) = 0 → (firstOf (withCame m n true)).2.1 ≤ (firstOf m).2.1 ∧ (∀ i : Nat, i < m.sums.length → (payOf m i).2 = 0 → payOf (withCame m n true) i = payOf m i) ∧
      heldOf (withCame m n true) = (unsure (withCame m n true) (truths (withCame m n true)), 0) ∧ (unsure (withCame m n true) (truths (withCame m n true))).length ≤ (unsure m (truths m)).length) := by
  have he := (someErr_zero h).1
  have hk := withCame_valid he n true
  have hs := within_sub (valid_of he) (valid_of hk) (came_within hn hb).1
  refine ⟨hk, fun h0 => ?_, fun h0 => ⟨?_, fun i hi hp => pay_more h h0 rfl hs hi hp, held_yes h0, unsure_len rfl rfl hs⟩⟩
  · have hl : (truths (withCame m n true)).length = 0 := by
      by_cases hl : (truths (withCame m n true)).length = 0
      · exact hl
      · exact absurd (whole_of hk (by omega)) h0
    refine ⟨?_, hl⟩
    unfold firstOf
    rw [if_neg h0, whole_empty hk hl]
  · unfold firstOf
    rw [if_pos h0, if_pos h]
    have := sub_len (truths_sorted (withCame m n true)) (truths_sorted m) hs
    simp only
    omega

theorem first_same {m k : MoList} (hm : errOf m = 0) (hk : errOf k = 0) (h : truths k = truths m) : firstOf k = firstOf m := by
  unfold firstOf wholeErr someErr
  rw [if_pos hm, if_pos hk, h]
/-- A word that was taken back might as well not have come. -/
theorem back_less {m : MoList} (he : errOf m = 0) {n : Nat} (hn : n < m.words.length) (hb : m.words[n].back = -1) (hc : counts m n = false) : firstOf (withCame m n false) = firstOf m := by
  have hk := withCame_valid he n false
  have hl : (withCame m n false).words.length = m.words.length := turnCame_len m.words n false
  have ha : ∀ i (h : i < m.words.length), (withCame m n false).words[i]'(by rw [hl]; exact h) = if i = n then { m.words[i] with came := false } else m.words[i] := fun i h => turnCame_at m.words n false i h
  have hw : Within m (withCame m n false) := by
    refine ⟨rfl, rfl, hl.symm, fun i h1 h2 t => ?_, fun i hi hci => ?_⟩
    · rw [ha i h1]
      split <;> rfl
    · have hne : i ≠ n := fun e => by subst e; rw [hc] at hci; cases hci
      rw [counts_iff hi] at hci
      rw [counts_iff (by rw [hl]; exact hi)]
      refine ⟨by rw [ha i hi, if_neg hne]; exact hci.1, fun x hx hxc => ?_⟩
      obtain ⟨j, hj, rfl⟩ := List.getElem_of_mem hx
      have hj2 : j < m.words.length := by rw [hl] at hj; exact hj
      rw [ha j hj2] at hxc ⊢
      by_cases e : j = n
      · rw [if_pos e] at hxc
        cases hxc
      · rw [if_neg e] at hxc ⊢
        exact hci.2 _ (List.getElem_mem hj2) hxc
  refine first_same he hk (sorted_ext (truths_sorted _) (truths_sorted _) fun t => ⟨within_sub (valid_of he) (valid_of hk) hw t, within_sub (valid_of hk) (valid_of he) (came_within hn hb).2 t⟩)

/-- Words the other way round. -/
def flipBack (L : Nat) (w : MoWord) : MoWord := if w.back = -1 then w else { w with back := (L : Int) - 1 - w.back }
def backW (m : MoList) : MoList := { m with words := m.words.reverse.map (flipBack m.words.length) }
theorem backW_len (m : MoList) : (backW m).words.length = m.words.length := by simp [backW]
theorem backW_at (m : MoList) (i : Nat) (h : i < m.words.length) : (backW m).words[i]'(by rw [backW_len]; exact h) = flipBack m.words.length (m.words[m.words.length - 1 - i]'(by omega)) := by simp [backW]
theorem backW_valid {m : MoList} (h : errOf m = 0) : errOf (backW m) = 0 := by
  obtain ⟨a, z, c, d⟩ := errOf_parts h
  have hl := backW_len m
  refine errOf_of a.1 a.2 z.1 z.2 (by rw [hl]; exact c.1) (fun i hi => ?_) d.1 d.2
  have hi2 : i < m.words.length := by rw [hl] at hi; exact hi
  have hw := (valid_of h).words (m.words.length - 1 - i) (by omega)
  rw [wordErr_at hi, backW_at m i hi2, hl]
  apply wordErrOf_zero
  have hb := hw.back
  unfold flipBack
  by_cases e : (m.words[m.words.length - 1 - i]'(by omega)).back = -1
  · rw [if_pos e]
    exact ⟨hw.says, hw.sum, hw.of1, hw.of2, by omega, by omega, by omega⟩
  · rw [if_neg e]
    exact ⟨hw.says, hw.sum, hw.of1, hw.of2, by simp only; omega, by simp only; omega, by simp only; omega⟩
theorem backW_counts {m : MoList} (h : Valid m) {i : Nat} (hi : i < m.words.length) : counts (backW m) i = true ↔ counts m (m.words.length - 1 - i) = true := by
  have hl := backW_len m
  have hi2 : m.words.length - 1 - i < m.words.length := by omega
  rw [counts_iff (by rw [hl]; exact hi), counts_iff hi2, backW_at m i hi]
  have hcm : (flipBack m.words.length (m.words[m.words.length - 1 - i]'(by omega))).came = (m.words[m.words.length - 1 - i]'(by omega)).came := by unfold flipBack; split <;> rfl
  rw [hcm]
  have hback : ∀ (j : Nat) (hj : j < m.words.length), (flipBack m.words.length m.words[j]).came = m.words[j].came ∧ ((flipBack m.words.length m.words[j]).back = (i : Int) ↔ m.words[j].back = ((m.words.length - 1 - i : Nat) : Int)) := by
    intro j hj
    have hb := (h.words j hj).back
    unfold flipBack
    by_cases e : m.words[j].back = -1
    · rw [if_pos e]
      exact ⟨rfl, by omega⟩
    · rw [if_neg e]
      exact ⟨rfl, by simp only; omega⟩
  constructor
  · rintro ⟨h1, h2⟩
    refine ⟨h1, fun x hx hxc hxb => ?_⟩
    obtain ⟨j, hj, rfl⟩ := List.getElem_of_mem hx
    have hk : m.words.length - 1 - j < m.words.length := by omega
    have e := backW_at m _ hk
    have e2 : m.words.length - 1 - (m.words.length - 1 - j) = j := by omega
    simp only [e2] at e
    have := h2 _ (List.getElem_mem (by rw [hl]; exact hk))
    rw [e] at this
    exact this ((hback j hj).1.trans hxc) ((hback j hj).2.2 hxb)
  · rintro ⟨h1, h2⟩
    refine ⟨h1, fun x hx hxc hxb => ?_⟩
    obtain ⟨k, hk, rfl⟩ := List.getElem_of_mem hx
    have hk2 : k < m.words.length := by rw [hl] at hk; exact hk
    rw [backW_at m k hk2] at hxc hxb
    have hb := hback (m.words.length - 1 - k) (by omega)
    exact h2 _ (List.getElem_mem (by omega)) (hb.1.symm.trans hxc) (hb.2.1 hxb)
theorem backW_so (L : Nat) (w : MoWord) (t : List Int) : so (flipBack L w) t = so w t := by unfold flipBack; split <;> rfl
theorem backW_first {m : MoList} (h : errOf m = 0) : firstOf (backW m) = firstOf m := by
  have hv := valid_of h
  have hk := backW_valid h
  have hl := backW_len m
  refine first_same h hk (truths_same (valid_of hk) hv fun t => ?_)
  have hso : wordsSo (backW m) t = true ↔ wordsSo m t = true := by
    rw [wordsSo_iff, wordsSo_iff]
    constructor
    · intro h1 i hi hc
      have hk : m.words.length - 1 - i < m.words.length := by omega
      have e2 : m.words.length - 1 - (m.words.length - 1 - i) = i := by omega
      have := h1 (m.words.length - 1 - i) (by rw [hl]; exact hk) ((backW_counts hv hk).2 (by rw [e2]; exact hc))
      rw [backW_at m _ hk, backW_so] at this
      simpa only [e2] using this
    · intro h1 i hi hc
      have hi2 : i < m.words.length := by rw [hl] at hi; exact hi
      rw [backW_at m i hi2, backW_so]
      exact h1 _ (by omega) ((backW_counts hv hi2).1 hc)
  constructor
  · rintro ⟨a, b, c⟩
    exact ⟨a, b, hso.1 c⟩
  · rintro ⟨a, b, c⟩
    exact ⟨a, b, hso.2 c⟩
end Go.Proofs.Ytnlolliankhfmaa
