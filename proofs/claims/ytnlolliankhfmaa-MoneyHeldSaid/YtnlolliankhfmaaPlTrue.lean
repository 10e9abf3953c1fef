/- What is proved here: plain facts of the statement MoneyTrue. No program. No condition. -/
import Derived.Test.YtnlolliankhfmaaPlHeld
import Derived.Test.YtnlolliankhfmaaPlain
set_option linter.unusedVariables false
set_option linter.unusedSimpArgs false
namespace Go.Proofs.Ytnlolliankhfmaa

def flipSays (s : Int) : Int := if s = 0 then 1 else if s = 1 then 0 else if s = 2 then 3 else 2
def toldSum (t : List Int) (i : Nat) (s : MoSum) : MoSum := { s with for_ := if bitB s.for_ (t[i]?.getD 0).toNat then s.for_ else s.for_ + 2 ^ (t[i]?.getD 0).toNat }
def toldWord (t : List Int) (w : MoWord) : MoWord := if so w t then w else { w with says := flipSays w.says }
/-- The list of which all that is told is so, of some claimants; and payments. -/
def told (m : MoList) (t : List Int) (p : List MoPaid) : MoList := { claimants := m.claimants, sums := m.sums.mapIdx (toldSum t), words := m.words.map (toldWord t), paid := p }
theorem told_bits : ∀ n : Nat, n ≤ 4 → ∀ f : Nat, f < 2 ^ n → ∀ c : Nat, c < n → f.testBit c = false → f + 2 ^ c < 2 ^ n ∧ (f + 2 ^ c).testBit c = true := by decide
theorem flip_bd {s : Int} (h : 0 ≤ s ∧ s ≤ 3) : (0 ≤ flipSays s ∧ flipSays s ≤ 3) ∧ (2 ≤ flipSays s ↔ 2 ≤ s) := by
  unfold flipSays
  repeat' split
  all_goals omega
theorem toldWord_valid {c s n i : Nat} {w : MoWord} (h : ValidWord c s n i w) (t : List Int) : ValidWord c s n i (toldWord t w) := by
  unfold toldWord
  split
  · exact h
  · have hf := flip_bd h.says
    exact ⟨hf.1, h.sum, fun h1 => h.of1 (by have h1 : flipSays w.says < 2 := h1; have := hf.2; omega), fun h1 => h.of2 (hf.2.1 h1), h.back⟩
theorem toldWord_so {c s n i : Nat} {w : MoWord} (h : ValidWord c s n i w) (t : List Int) (ht : t.length = s) : so (toldWord t w) t = true := by
  unfold toldWord
  by_cases hs : so w t = true
  · rw [if_pos hs]; exact hs
  · rw [if_neg hs]
    have h0 := h.says
    have h1 := h.sum
    unfold so at hs ⊢
    simp only
    rw [if_neg (show ¬ (t.length : Int) ≤ w.sum by omega)] at hs ⊢
    unfold flipSays
    by_cases a : w.says = 0
    · rw [if_pos a] at hs
      rw [if_pos a, if_neg (by decide), if_pos rfl]
      simpa using hs
    · rw [if_neg a] at hs
      by_cases b : w.says = 1
      · rw [if_pos b] at hs
        rw [if_neg a, if_pos b, if_pos rfl]
        simpa using hs
      · rw [if_neg b] at hs
        have h2 := h.of2 (by omega)
        have e : decide ((t.length : Int) ≤ w.of) = false := by simp; omega
        rw [e] at hs ⊢
        by_cases d : w.says = 2
        · rw [if_pos d] at hs
          rw [if_neg a, if_neg b, if_pos d, if_neg (by decide), if_neg (by decide), if_neg (by decide)]
          simpa using hs
        · rw [if_neg d] at hs
          rw [if_neg a, if_neg b, if_neg d, if_neg (by decide), if_neg (by decide), if_pos rfl]
          simpa using hs
theorem allBits_cast (n : Nat) : allBits n = ((2 ^ n - 1 : Nat) : Int) := by
  unfold allBits
  have : 1 ≤ 2 ^ n := Nat.one_le_two_pow
  rw [Int.natCast_sub this, Int.natCast_pow]
  rfl
theorem told_sum_for {n : Nat} (hn : n ≤ 4) {s : MoSum} (h : 1 ≤ s.for_ ∧ s.for_ ≤ allBits n) {t : List Int} {i : Nat} (ht : 0 ≤ t[i]?.getD 0 ∧ t[i]?.getD 0 < n) :
    (1 ≤ (toldSum t i s).for_ ∧ (toldSum t i s).for_ ≤ allBits n) ∧ bitB (toldSum t i s).for_ (t[i]?.getD 0).toNat = true := by
  unfold toldSum
  simp only
  obtain ⟨f, hf⟩ := Int.eq_ofNat_of_zero_le (show 0 ≤ s.for_ by omega)
  obtain ⟨c, hc⟩ := Int.eq_ofNat_of_zero_le ht.1
  rw [hc] at ht ⊢
  rw [hf, allBits_cast] at h
  rw [hf, allBits_cast]
  have h1 : 1 ≤ 2 ^ n := Nat.one_le_two_pow
  have hlt : f < 2 ^ n := by omega
  by_cases hb : bitB (f : Int) (Int.toNat (c : Int)) = true
  · rw [if_pos hb]
    exact ⟨h, hb⟩
  · rw [if_neg hb]
    have hb' : f.testBit c = false := by simpa [bitB] using hb
    obtain ⟨h2, h3⟩ := told_bits n hn f hlt c (by omega) hb'
    have e : (f : Int) + 2 ^ (Int.toNat (c : Int)) = ((f + 2 ^ c : Nat) : Int) := by rw [Int.toNat_natCast, Int.natCast_add, Int.natCast_pow]; rfl
    rw [e]
    refine ⟨?_, ?_⟩
    · clear h3 e hb hb'
      generalize 2 ^ c = C at h2 ⊢
      generalize 2 ^ n = M at h h1 hlt h2 ⊢
      omega
    · show Nat.testBit (Int.toNat ((f + 2 ^ c : Nat) : Int)) (Int.toNat (c : Int)) = true
      rw [Int.toNat_natCast, Int.toNat_natCast]
      exact h3
structure TurnsOf (m : MoList) (t : List Int) : Prop where
  len : t.length = m.sums.length
  bd : ∀ j (_ : j < t.length), 0 ≤ t[j] ∧ t[j] < m.claimants.length
theorem TurnsOf.at_ {m : MoList} {t : List Int} (h : TurnsOf m t) {i : Nat} (hi : i < m.sums.length) : 0 ≤ t[i]?.getD 0 ∧ t[i]?.getD 0 < m.claimants.length := by
  rw [List.getElem?_eq_getElem (by rw [h.len]; exact hi)]
  exact h.bd i (by rw [h.len]; exact hi)
def PaidOk (m : MoList) (p : List MoPaid) : Prop := p.length ≤ 5 ∧ ∀ x ∈ p, (0 ≤ x.sum ∧ x.sum < m.sums.length) ∧ 0 ≤ x.claimant ∧ x.claimant < m.claimants.length
theorem paidErr_zero {m : MoList} (h : PaidOk m m.paid) : ∀ i, i < m.paid.length → paidErr m i = 0 := by
  intro i hi
  have := h.2 _ (List.getElem_mem hi)
  unfold paidErr
  rw [List.getElem?_eq_getElem hi]
  simp only
  rw [if_pos]
  rw [Bool.and_eq_true, inB_iff, inB_iff]
  omega
theorem told_valid {m : MoList} (h : errOf m = 0) {t : List Int} (ht : TurnsOf m t) {p : List MoPaid} (hp : PaidOk m p) : errOf (told m t p) = 0 := by
  obtain ⟨a, b, c, d⟩ := errOf_parts h
  have hv := valid_of h
  have hl : (told m t p).sums.length = m.sums.length := by simp [told]
  have hwl : (told m t p).words.length = m.words.length := by simp [told]
  refine errOf_of a.1 a.2 (by rw [hl]; exact b.1) (fun i hi => ?_) (by rw [hwl]; exact c.1) (fun i hi => ?_) hp.1 (paidErr_zero (m := told m t p) ⟨hp.1, fun x hx => by rw [hl]; exact hp.2 x hx⟩)
  · have hi2 : i < m.sums.length := by rw [hl] at hi; exact hi
    have hs := b.2 i hi2
    have hv2 := hv.sums i hi2
    obtain ⟨f1, f2⟩ := told_sum_for hv.nc hv2.2 (ht.at_ hi2)
    have e1 : (told m t p).sums[i]? = some (toldSum t i m.sums[i]) := by simp [told, hi2]
    have e2 : ((told m t p).sums.take i).map MoSum.name = (m.sums.take i).map MoSum.name := by
      apply List.ext_getElem?
      intro j
      simp only [told, List.getElem?_map, List.getElem?_take]
      split
      · rw [List.getElem?_mapIdx]
        cases m.sums[j]? <;> rfl
      · rfl
    unfold sumErr at hs ⊢
    rw [List.getElem?_eq_getElem hi2] at hs
    rw [e1, e2]
    simp only at hs ⊢
    have hn : (toldSum t i m.sums[i]).name = m.sums[i].name := rfl
    have hp2 : (toldSum t i m.sums[i]).pence = m.sums[i].pence := rfl
    rw [hn, hp2]
    by_cases hf : fresh m.sums[i].name ((m.sums.take i).map MoSum.name) = 0
    · rw [if_pos hf, if_pos]
      rw [Bool.and_eq_true, inB_iff, inB_iff]
      exact ⟨hv2.1, f1⟩
    · rw [if_neg hf] at hs
      exact absurd hs hf
  · have hi2 : i < m.words.length := by rw [hwl] at hi; exact hi
    have e : (told m t p).words[i] = toldWord t m.words[i] := by simp [told]
    rw [wordErr_at hi, e]
    apply wordErrOf_zero
    rw [hl, hwl]
    exact toldWord_valid (hv.words i hi2) t
theorem told_truth {m : MoList} (h : errOf m = 0) {t : List Int} (ht : TurnsOf m t) {p : List MoPaid} (hp : PaidOk m p) : t ∈ truths (told m t p) := by
  have hv := valid_of h
  have hk := told_valid h ht hp
  have hl : (told m t p).sums.length = m.sums.length := by simp [told]
  rw [truths_iff (valid_of hk)]
  refine ⟨by rw [hl]; exact ht.len, fun j hj => ?_, ?_⟩
  · have hj2 : j < m.sums.length := by rw [← ht.len]; exact hj
    have hb := ht.bd j hj
    refine ⟨hb.1, hb.2, ?_⟩
    have e1 : (told m t p).sums[j]? = some (toldSum t j m.sums[j]) := by simp [told, hj2]
    obtain ⟨-, f2⟩ := told_sum_for hv.nc (hv.sums j hj2).2 (ht.at_ hj2)
    unfold forAt
    rw [e1]
    rw [List.getElem?_eq_getElem hj] at f2
    exact f2
  · rw [wordsSo_iff]
    intro i hi _
    have hi2 : i < m.words.length := by simpa [told] using hi
    have e : (told m t p).words[i] = toldWord t m.words[i] := by simp [told]
    rw [e]
    exact toldWord_so (hv.words i hi2) t ht.len
theorem told_whole {m : MoList} (h : errOf m = 0) {t : List Int} (ht : TurnsOf m t) {p : List MoPaid} (hp : PaidOk m p) : wholeErr (told m t p) = 0 :=
  whole_of (told_valid h ht hp) (List.length_pos_of_mem (told_truth h ht hp))
/-- What the first sums were paid, by some claimants. -/
def paidTo (t : List Int) (j : Nat) : List MoPaid := (List.range j).map fun (i : Nat) => ⟨i, t[i]?.getD 0⟩
theorem paidTo_succ (t : List Int) (j : Nat) (h : j < t.length) : paidTo t (j + 1) = paidTo t j ++ [⟨j, t[j]⟩] := by
  unfold paidTo
  rw [List.range_succ, List.map_append, List.map_singleton, List.getElem?_eq_getElem h]
  rfl
theorem paidTo_ok {m : MoList} (hv : Valid m) {t : List Int} (ht : TurnsOf m t) {j : Nat} (hj : j ≤ m.sums.length) : PaidOk m (paidTo t j) := by
  refine ⟨by simp [paidTo]; have := hv.nz; omega, fun x hx => ?_⟩
  unfold paidTo at hx
  obtain ⟨i, hi, rfl⟩ := List.mem_map.1 hx
  have hi := List.mem_range.1 hi
  have := ht.at_ (show i < m.sums.length by omega)
  exact ⟨⟨by simp only; omega, by simp only; omega⟩, this⟩
theorem right_nil {m : MoList} {t : List Int} (h1 : ∀ i (h : i < m.paid.length), t[m.paid[i].sum.toNat]?.getD 0 = m.paid[i].claimant) (h2 : ∀ i k (hi : i < m.paid.length) (hk : k < i), (m.paid[k]'(by omega)).sum ≠ m.paid[i].sum) : right m t [] = true := by
  refine right_true fun i hi => rightAt_ok hi (h1 i hi) fun k hk => ?_
  rw [pairOk_eq (by omega)]
  have := h2 i k hi hk
  simp [hasB, this]
theorem wrong_nil {m : MoList} (h0 : wholeErr m = 0) {t : List Int} (ht : t ∈ truths m) (h : right m t [] = true) : wrongOf m = ([], 0) := by
  have hf := wrong_first m h0
  have hs : someRight m (truths m) [] = true := by
    unfold someRight
    rw [List.any_eq_true]
    exact ⟨t, ht, h⟩
  have e : (wrongOf m).1 = [] := by
    rcases hf.2 [] ⟨incr_nil _, hs⟩ with e | e
    · exact e.symm
    · unfold fewer at e
      by_cases hl : (wrongOf m).1.length = ([] : List Int).length
      · exact List.eq_nil_of_length_eq_zero hl
      · rw [if_neg hl] at e
        simp at e
  have e2 : (wrongOf m).2 = 0 := by unfold wrongOf; rw [if_pos h0]
  exact Prod.ext e e2
theorem told_wrong {m : MoList} (h : errOf m = 0) {t : List Int} (ht : TurnsOf m t) : wrongOf (told m t (paidTo t m.sums.length)) = ([], 0) := by
  have hp := paidTo_ok (valid_of h) ht (Nat.le_refl m.sums.length)
  have hpl : (told m t (paidTo t m.sums.length)).paid.length = m.sums.length := by simp [told, paidTo]
  have hpa : ∀ i (h : i < (told m t (paidTo t m.sums.length)).paid.length), (told m t (paidTo t m.sums.length)).paid[i] = ⟨i, t[i]?.getD 0⟩ := by intro i h; simp [told, paidTo]
  refine wrong_nil (told_whole h ht hp) (told_truth h ht hp) (right_nil (fun i hi => ?_) (fun i k hi hk => ?_))
  · rw [hpa i hi]; simp
  · rw [hpa i hi, hpa k (by omega)]; simp; omega
theorem first_is {m : MoList} (h0 : wholeErr m = 0) : ∃ l n, firstOf m = (l, n, 0) ∧ 1 ≤ n ∧ ∀ t ∈ truths m, less t l = false := by
  have hp := (whole_valid h0).2
  refine ⟨_, _, by unfold firstOf; rw [if_pos h0], by omega, fun t ht => ?_⟩
  have hs := truths_sorted m
  generalize truths m = T at *
  cases T with
  | nil => simp at hp
  | cons a T =>
    rw [List.pairwise_cons] at hs
    rcases List.mem_cons.1 ht with e | h
    · subst e; exact less_irrefl _
    · exact less_asymm _ _ (hs.1 t h)
end Go.Proofs.Ytnlolliankhfmaa
