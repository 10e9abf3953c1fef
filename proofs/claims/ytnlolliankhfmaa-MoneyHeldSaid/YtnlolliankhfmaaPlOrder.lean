/- What is proved here: plain facts of the statement MoneyOrder: claimants told in the opposite order. No program. No condition. -/
import Derived.Test.YtnlolliankhfmaaPlMore
import Derived.Test.YtnlolliankhfmaaPlPaid
set_option linter.unusedVariables false
set_option linter.unusedSimpArgs false
namespace Go.Proofs.Ytnlolliankhfmaa

def turnedTo (b : Int) : Nat → Int
  | 0 => 0
  | j + 1 => 2 * turnedTo b j + (if bitB b j then 1 else 0)
theorem turnedTo_bd (b : Int) : ∀ j : Nat, 0 ≤ turnedTo b j ∧ turnedTo b j < 2 ^ j
  | 0 => by simp [turnedTo]
  | j + 1 => by
    have h := turnedTo_bd b j
    rw [turnedTo, Int.pow_succ]
    generalize (2 : Int) ^ j = X at h ⊢
    split <;> omega
theorem turned_all : ∀ n : Nat, n ≤ 4 → ∀ f : Nat, f < 2 ^ n → (0 ≤ turnedTo (f : Int) n ∧ turnedTo (f : Int) n ≤ allBits n ∧ (1 ≤ f → 1 ≤ turnedTo (f : Int) n)) ∧ ∀ c : Nat, c < n → bitB (turnedTo (f : Int) n) c = bitB (f : Int) (n - 1 - c) := by decide +kernel
theorem turned_ok {n : Nat} (hn : n ≤ 4) {f : Int} (h : 1 ≤ f ∧ f ≤ allBits n) : (1 ≤ turnedTo f n ∧ turnedTo f n ≤ allBits n) ∧ ∀ c : Nat, c < n → bitB (turnedTo f n) c = bitB f (n - 1 - c) := by
  obtain ⟨k, rfl⟩ := Int.eq_ofNat_of_zero_le (show 0 ≤ f by omega)
  have h2 := h.2
  rw [allBits_cast] at h2
  have h1 : 1 ≤ 2 ^ n := Nat.one_le_two_pow
  have := turned_all n hn k (by omega)
  exact ⟨⟨this.1.2.2 (by omega), this.1.2.1⟩, this.2⟩

def orderSum (n : Nat) (s : MoSum) : MoSum := { s with for_ := turnedTo s.for_ n }
def orderWord (n : Nat) (w : MoWord) : MoWord := if w.says < 2 then { w with of := (n : Int) - 1 - w.of } else w
def orderPaid (n : Nat) (p : MoPaid) : MoPaid := { p with claimant := (n : Int) - 1 - p.claimant }
/-- The list with claimants in the opposite order. -/
def orderL (m : MoList) : MoList := { claimants := m.claimants.reverse, sums := m.sums.map (orderSum m.claimants.length), words := m.words.map (orderWord m.claimants.length), paid := m.paid.map (orderPaid m.claimants.length) }
theorem order_cl (m : MoList) : (orderL m).claimants.length = m.claimants.length := by simp [orderL]
theorem order_zl (m : MoList) : (orderL m).sums.length = m.sums.length := by simp [orderL]
theorem order_wl (m : MoList) : (orderL m).words.length = m.words.length := by simp [orderL]
theorem order_pl (m : MoList) : (orderL m).paid.length = m.paid.length := by simp [orderL]

theorem fresh_zero {s : ByteArray} {l : List ByteArray} : fresh s l = 0 ↔ nameB s = true ∧ ∀ x ∈ l, x ≠ s := by
  unfold fresh
  by_cases h1 : nameB s = true
  · rw [if_pos h1]
    by_cases h2 : hasS l s = true
    · rw [if_pos h2]
      unfold hasS at h2
      rw [List.any_eq_true] at h2
      obtain ⟨x, hx, e⟩ := h2
      constructor
      · intro h; exact absurd h (by decide)
      · intro h; exact absurd (by simpa using e) (h.2 x hx)
    · rw [if_neg h2]
      refine ⟨fun _ => ⟨h1, fun x hx e => h2 ?_⟩, fun _ => rfl⟩
      unfold hasS
      rw [List.any_eq_true]
      exact ⟨x, hx, by simpa using e⟩
  · rw [if_neg h1]
    constructor
    · intro h; exact absurd h (by decide)
    · intro h; exact absurd h.1 h1
theorem claim_zero {m : MoList} (h : ∀ i, i < m.claimants.length → claimErr m i = 0) (i : Nat) (hi : i < m.claimants.length) : nameB m.claimants[i] = true ∧ ∀ j (hj : j < m.claimants.length), j ≠ i → m.claimants[j] ≠ m.claimants[i] := by
  have h2 : ∀ i (hi : i < m.claimants.length), nameB m.claimants[i] = true ∧ ∀ j (hj : j < i), m.claimants[j]'(by omega) ≠ m.claimants[i] := by
    intro i hi
    have := h i hi
    unfold claimErr at this
    rw [List.getElem?_eq_getElem hi] at this
    have := fresh_zero.1 this
    refine ⟨this.1, fun j hj => this.2 _ ?_⟩
    rw [List.mem_take_iff_getElem]
    exact ⟨j, by omega, rfl⟩
  refine ⟨(h2 i hi).1, fun j hj hne => ?_⟩
  by_cases hlt : j < i
  · exact (h2 i hi).2 j hlt
  · exact fun e => (h2 j hj).2 i (by omega) e.symm
theorem order_claims {m : MoList} (h : ∀ i, i < m.claimants.length → claimErr m i = 0) : ∀ i, i < (orderL m).claimants.length → claimErr (orderL m) i = 0 := by
  intro i hi
  have hi2 : i < m.claimants.length := by rw [order_cl] at hi; exact hi
  have hr : i < m.claimants.reverse.length := by simpa using hi2
  show (match m.claimants.reverse[i]? with | some s => fresh s (m.claimants.reverse.take i) | none => 0) = 0
  rw [List.getElem?_eq_getElem hr]
  simp only
  rw [List.getElem_reverse]
  have hz := claim_zero h (m.claimants.length - 1 - i) (by omega)
  refine fresh_zero.2 ⟨hz.1, fun x hx => ?_⟩
  rw [List.mem_take_iff_getElem] at hx
  obtain ⟨j, hj, rfl⟩ := hx
  rw [List.getElem_reverse]
  exact hz.2 _ _ (by omega)

theorem order_valid {m : MoList} (h : errOf m = 0) : errOf (orderL m) = 0 := by
  obtain ⟨a, z, c, d⟩ := errOf_parts h
  have hv := valid_of h
  refine errOf_of (by rw [order_cl]; exact a.1) (order_claims a.2) (by rw [order_zl]; exact z.1) (fun i hi => ?_) (by rw [order_wl]; exact c.1) (fun i hi => ?_) (by rw [order_pl]; exact d.1) (fun i hi => ?_)
  · have hi2 : i < m.sums.length := by rw [order_zl] at hi; exact hi
    have hs := z.2 i hi2
    have hv2 := hv.sums i hi2
    have e1 : (orderL m).sums[i]? = some (orderSum m.claimants.length m.sums[i]) := by simp [orderL, hi2]
    have e2 : ((orderL m).sums.take i).map MoSum.name = (m.sums.take i).map MoSum.name := by
      simp only [orderL, List.map_take, List.map_map]
      rfl
    unfold sumErr at hs ⊢
    rw [List.getElem?_eq_getElem hi2] at hs
    rw [e1, e2, order_cl]
    simp only at hs ⊢
    have hn : (orderSum m.claimants.length m.sums[i]).name = m.sums[i].name := rfl
    have hp2 : (orderSum m.claimants.length m.sums[i]).pence = m.sums[i].pence := rfl
    have hf2 : (orderSum m.claimants.length m.sums[i]).for_ = turnedTo m.sums[i].for_ m.claimants.length := rfl
    rw [hn, hp2, hf2]
    by_cases hf : fresh m.sums[i].name ((m.sums.take i).map MoSum.name) = 0
    · rw [if_pos hf, if_pos]
      rw [Bool.and_eq_true, inB_iff, inB_iff]
      exact ⟨hv2.1, (turned_ok hv.nc hv2.2).1⟩
    · rw [if_neg hf] at hs
      exact absurd hs hf
  · have hi2 : i < m.words.length := by rw [order_wl] at hi; exact hi
    have e : (orderL m).words[i] = orderWord m.claimants.length m.words[i] := by simp [orderL]
    rw [wordErr_at hi, e, order_cl, order_zl, order_wl]
    apply wordErrOf_zero
    have hw := hv.words i hi2
    unfold orderWord
    by_cases hs : m.words[i].says < 2
    · rw [if_pos hs]
      have := hw.of1 hs
      exact ⟨hw.says, hw.sum, fun _ => by simp only; omega, fun h2 => by simp only at h2; omega, hw.back⟩
    · rw [if_neg hs]
      exact hw
  · have hi2 : i < m.paid.length := by rw [order_pl] at hi; exact hi
    have hp := hv.paid i hi2
    unfold paidErr
    have e1 : (orderL m).paid[i]? = some (orderPaid m.claimants.length m.paid[i]) := by simp [orderL, hi2]
    rw [e1, order_zl, order_cl]
    show (if (inB m.paid[i].sum 0 ((m.sums.length : Int) - 1) && inB ((m.claimants.length : Int) - 1 - m.paid[i].claimant) 0 ((m.claimants.length : Int) - 1)) = true then (0 : Int) else 4) = 0
    rw [if_pos]
    rw [Bool.and_eq_true, inB_iff, inB_iff]
    omega

theorem order_counts (m : MoList) (i : Nat) : counts (orderL m) i = counts m i := by
  unfold counts
  have hc : ∀ w : MoWord, (orderWord m.claimants.length w).came = w.came ∧ (orderWord m.claimants.length w).back = w.back := by
    intro w; unfold orderWord; split <;> exact ⟨rfl, rfl⟩
  simp only [orderL, List.getElem?_map, List.all_map]
  cases hw : m.words[i]? with
  | none => rfl
  | some w =>
    simp only [Option.map_some, (hc w).1]
    congr 1
    apply List.all_congr rfl
    intro x
    simp only [Function.comp, (hc x).1, (hc x).2]

def flipT (n : Nat) (t : List Int) : List Int := t.map fun c => (n : Int) - 1 - c
theorem flipT_len (n : Nat) (t : List Int) : (flipT n t).length = t.length := by simp [flipT]
theorem flipT_two (n : Nat) (t : List Int) : flipT n (flipT n t) = t := by
  unfold flipT
  rw [List.map_map]
  conv => rhs; rw [← List.map_id t]
  apply List.map_congr_left
  intro x _
  simp only [Function.comp, id]
  omega
theorem flipT_at (n : Nat) {t : List Int} {j : Nat} (h : j < t.length) : (flipT n t)[j]?.getD 0 = (n : Int) - 1 - t[j]?.getD 0 := by
  unfold flipT
  rw [List.getElem?_map, List.getElem?_eq_getElem h]
  rfl
theorem order_so {c s k i : Nat} {w : MoWord} (hv : ValidWord c s k i w) {t : List Int} (hl : t.length = s) : so (orderWord c w) (flipT c t) = so w t := by
  have h1 := hv.sum
  have h0 := hv.says
  have hs : w.sum.toNat < t.length := by omega
  have hwo : (orderWord c w).sum = w.sum ∧ (orderWord c w).says = w.says := by unfold orderWord; split <;> exact ⟨rfl, rfl⟩
  unfold so
  rw [hwo.1, hwo.2, flipT_len]
  rw [if_neg (show ¬ (t.length : Int) ≤ w.sum by omega), if_neg (show ¬ (t.length : Int) ≤ w.sum by omega), flipT_at c hs]
  generalize t[w.sum.toNat]?.getD 0 = x
  by_cases a : w.says = 0
  · rw [if_pos a, if_pos a]
    have e : (orderWord c w).of = (c : Int) - 1 - w.of := by unfold orderWord; rw [if_pos (by omega)]
    rw [e]
    apply decide_eq_decide.2
    omega
  · rw [if_neg a, if_neg a]
    by_cases b : w.says = 1
    · rw [if_pos b, if_pos b]
      have e : (orderWord c w).of = (c : Int) - 1 - w.of := by unfold orderWord; rw [if_pos (by omega)]
      rw [e]
      apply decide_eq_decide.2
      omega
    · rw [if_neg b, if_neg b]
      have h2 := hv.of2 (by omega)
      have e : (orderWord c w).of = w.of := by unfold orderWord; rw [if_neg (by omega)]
      have ho : w.of.toNat < t.length := by omega
      rw [e, flipT_at c ho]
      generalize t[w.of.toNat]?.getD 0 = y
      have ed : decide ((c : Int) - 1 - x = (c : Int) - 1 - y) = decide (x = y) := by apply decide_eq_decide.2; omega
      have ed2 : decide ((c : Int) - 1 - x ≠ (c : Int) - 1 - y) = decide (x ≠ y) := by apply decide_eq_decide.2; omega
      rw [ed, ed2]
theorem order_tru {m : MoList} (hv : Valid m) (t : List Int) : Tru (orderL m) m.sums.length (flipT m.claimants.length t) ↔ Tru m m.sums.length t := by
  have hat : ∀ j (hj : j < t.length) (hz : j < m.sums.length), (0 ≤ (flipT m.claimants.length t)[j]'(by rw [flipT_len]; exact hj) ∧ (flipT m.claimants.length t)[j]'(by rw [flipT_len]; exact hj) < (orderL m).claimants.length ∧ bitB (forAt (orderL m) j) ((flipT m.claimants.length t)[j]'(by rw [flipT_len]; exact hj)).toNat = true) ↔ (0 ≤ t[j] ∧ t[j] < m.claimants.length ∧ bitB (forAt m j) t[j].toNat = true) := by
    intro j hj hz
    have e : (flipT m.claimants.length t)[j]'(by rw [flipT_len]; exact hj) = (m.claimants.length : Int) - 1 - t[j] := by simp [flipT]
    have hs := hv.sums j hz
    have ef : forAt (orderL m) j = turnedTo m.sums[j].for_ m.claimants.length := by
      rw [forAt_eq (by rw [order_zl]; exact hz)]
      simp [orderL, orderSum]
    rw [e, order_cl, ef, forAt_eq hz]
    generalize t[j] = x
    have hb := (turned_ok hv.nc hs.2).2
    by_cases hx : 0 ≤ x ∧ x < m.claimants.length
    · have := hb ((m.claimants.length : Int) - 1 - x).toNat (by omega)
      have e2 : m.claimants.length - 1 - ((m.claimants.length : Int) - 1 - x).toNat = x.toNat := by omega
      rw [e2] at this
      rw [this]
      constructor
      · rintro ⟨_, _, h⟩; exact ⟨hx.1, hx.2, h⟩
      · rintro ⟨_, _, h⟩; exact ⟨by omega, by omega, h⟩
    · constructor
      · rintro ⟨h1, h2, _⟩; exact absurd ⟨by omega, by omega⟩ hx
      · rintro ⟨h1, h2, _⟩; exact absurd ⟨h1, h2⟩ hx
  have hso : t.length = m.sums.length → (wordsSo (orderL m) (flipT m.claimants.length t) = true ↔ wordsSo m t = true) := by
    intro hl
    rw [wordsSo_iff, wordsSo_iff]
    have e : ∀ i (h : i < m.words.length), (orderL m).words[i]'(by rw [order_wl]; exact h) = orderWord m.claimants.length m.words[i] := fun i h => by simp [orderL]
    constructor
    · intro h i hi hc
      have := h i (by rw [order_wl]; exact hi) (by rw [order_counts]; exact hc)
      rw [e i hi, order_so (hv.words i hi) hl] at this
      exact this
    · intro h i hi hc
      have hi2 : i < m.words.length := by rw [order_wl] at hi; exact hi
      rw [order_counts] at hc
      rw [e i hi2, order_so (hv.words i hi2) hl]
      exact h i hi2 hc
  constructor
  · rintro ⟨h1, h2, h3⟩
    rw [flipT_len] at h1
    exact ⟨h1, fun j hj => (hat j hj (by omega)).1 (h2 j (by rw [flipT_len]; exact hj)), (hso h1).1 h3⟩
  · rintro ⟨h1, h2, h3⟩
    refine ⟨by rw [flipT_len]; exact h1, fun j hj => ?_, (hso h1).2 h3⟩
    have hj2 : j < t.length := by rw [flipT_len] at hj; exact hj
    exact (hat j hj2 (by omega)).2 (h2 j hj2)
theorem order_mem {m : MoList} (h : errOf m = 0) (t : List Int) : flipT m.claimants.length t ∈ truths (orderL m) ↔ t ∈ truths m := by
  rw [truths_iff (valid_of h), truths_iff (valid_of (order_valid h)), order_zl]
  exact order_tru (valid_of h) t
theorem order_mem2 {m : MoList} (h : errOf m = 0) (t : List Int) : t ∈ truths (orderL m) ↔ flipT m.claimants.length t ∈ truths m := by
  have := order_mem h (flipT m.claimants.length t)
  rwa [flipT_two] at this
theorem order_none {m : MoList} (h : errOf m = 0) : (truths (orderL m)).length = 0 ↔ (truths m).length = 0 := by
  rw [List.length_eq_zero_iff, List.length_eq_zero_iff, List.eq_nil_iff_forall_not_mem, List.eq_nil_iff_forall_not_mem]
  constructor
  · intro h1 t ht; exact h1 _ ((order_mem h t).2 ht)
  · intro h1 t ht; exact h1 _ ((order_mem2 h t).1 ht)
theorem order_whole {m : MoList} (h : errOf m = 0) : wholeErr (orderL m) = wholeErr m := by
  by_cases h1 : (truths m).length = 0
  · rw [whole_empty h h1, whole_empty (order_valid h) ((order_none h).2 h1)]
  · rw [whole_of h (by omega), whole_of (order_valid h) (by have := mt (order_none h).1 h1; omega)]
theorem order_whom {m : MoList} (h : errOf m = 0) {i : Nat} (hi : i < m.sums.length) : (whom m.claimants.length (truths (orderL m)) i).length = (whom m.claimants.length (truths m) i).length := by
  have e : whom m.claimants.length (truths (orderL m)) i = ((whom m.claimants.length (truths m) i).map (fun c => (m.claimants.length : Int) - 1 - c)).reverse := by
    refine incr_ext (whom_incr _ _ _).1 ?_ fun x => ?_
    · rw [List.pairwise_reverse, List.pairwise_map]
      exact (whom_incr _ _ _).1.imp (fun h => by omega)
    · rw [List.mem_reverse, List.mem_map, mem_whom]
      constructor
      · rintro ⟨h1, h2, t, ht, rfl⟩
        have ht2 := (order_mem2 h t).1 ht
        have hl := truths_len _ _ ht
        rw [order_zl] at hl
        refine ⟨(m.claimants.length : Int) - 1 - t[i]?.getD 0, mem_whom.2 ⟨by omega, by omega, _, ht2, flipT_at _ (by omega)⟩, by omega⟩
      · rintro ⟨c, hc, rfl⟩
        obtain ⟨h1, h2, t, ht, rfl⟩ := mem_whom.1 hc
        have hl := truths_len _ _ ht
        exact ⟨by omega, by omega, _, (order_mem h t).2 ht, flipT_at _ (by omega)⟩
  rw [e, List.length_reverse, List.length_map]
theorem order_unsure {m : MoList} (h : errOf m = 0) : unsure (orderL m) (truths (orderL m)) = unsure m (truths m) := by
  unfold unsure
  rw [order_zl, order_cl]
  congr 1
  apply List.filter_congr
  intro i hi
  rw [order_whom h (by simpa using hi)]
theorem order_held {m : MoList} (h : errOf m = 0) : heldOf (orderL m) = heldOf m := by
  unfold heldOf
  rw [order_whole h, order_unsure h]

theorem order_due {m : MoList} (t : List Int) (c : Int) : ∀ j, j ≤ t.length → dueTo (orderL m) (flipT m.claimants.length t) ((m.claimants.length : Int) - 1 - c) j = dueTo m t c j
  | 0, _ => rfl
  | j + 1, hj => by
    rw [dueTo, dueTo, order_due t c j (by omega), flipT_at _ (by omega)]
    have hp : penceAt (orderL m) j = penceAt m j := by
      unfold penceAt
      simp only [orderL, List.getElem?_map]
      cases m.sums[j]? <;> rfl
    rw [hp]
    congr 1
    by_cases e : t[j]?.getD 0 = c
    · rw [if_pos e, if_pos (by omega)]
    · rw [if_neg e, if_neg (by omega)]
theorem span_mem {f g : List Int → Int} {T T' : List (List Int)} {lo hi lo' hi' : Int} (h0 : T ≠ []) (h0' : T' ≠ []) (h1 : ∀ a ∈ T', ∃ b ∈ T, f a = g b) (h2 : ∀ b ∈ T, ∃ a ∈ T', f a = g b) (h : SpanL g T lo hi) (h' : SpanL f T' lo' hi') : lo' = lo ∧ hi' = hi := by
  obtain ⟨⟨a, ha, ea⟩, ⟨b, hb, eb⟩, hx⟩ := h h0
  obtain ⟨⟨a', ha', ea'⟩, ⟨b', hb', eb'⟩, hx'⟩ := h' h0'
  obtain ⟨a2, ha2, e1⟩ := h2 a ha
  obtain ⟨b2, hb2, e2⟩ := h2 b hb
  obtain ⟨a3, ha3, e3⟩ := h1 a' ha'
  obtain ⟨b3, hb3, e4⟩ := h1 b' hb'
  have x1 := hx' a2 ha2
  have x2 := hx' b2 hb2
  have x3 := hx a3 ha3
  have x4 := hx b3 hb3
  omega
theorem order_owed {m : MoList} (h : errOf m = 0) {c : Int} (hc : 0 ≤ c ∧ c < m.claimants.length) : owedOf (orderL m) ((m.claimants.length : Int) - 1 - c) = owedOf m c := by
  have he : owedErr (orderL m) ((m.claimants.length : Int) - 1 - c) = owedErr m c := by
    unfold owedErr askedErr
    rw [if_pos h, if_pos (order_valid h), order_cl, if_pos (inB_iff.2 ⟨by omega, by omega⟩), if_pos (inB_iff.2 ⟨by omega, by omega⟩)]
    unfold someErr
    rw [if_pos rfl, if_pos rfl]
    by_cases h1 : (truths m).length = 0
    · rw [if_pos h1, if_pos ((order_none h).2 h1)]
    · rw [if_neg h1, if_neg (mt (order_none h).1 h1)]
  unfold owedOf
  rw [he]
  by_cases h0 : owedErr m c = 0
  · rw [if_pos h0, if_pos h0]
    have hpos := (owed_valid h0).2.1
    have hpos' : 0 < (truths (orderL m)).length := by have := mt (order_none h).1 (show (truths m).length ≠ 0 by omega); omega
    have s1 := spanTo_all m (truths m) c hpos
    have s2 := spanTo_all (orderL m) (truths (orderL m)) ((m.claimants.length : Int) - 1 - c) hpos'
    have hd : ∀ t, dueOf (orderL m) (flipT m.claimants.length t) ((m.claimants.length : Int) - 1 - c) = dueOf m t c := by
      intro t
      unfold dueOf
      rw [flipT_len]
      exact order_due t c _ (Nat.le_refl _)
    have := span_mem (List.ne_nil_of_length_pos hpos) (List.ne_nil_of_length_pos hpos') (fun a ha => ⟨flipT m.claimants.length a, (order_mem2 h a).1 ha, by have := hd (flipT m.claimants.length a); rw [flipT_two] at this; exact this⟩) (fun b hb => ⟨flipT m.claimants.length b, (order_mem h b).2 hb, hd b⟩) s1 s2
    rw [Prod.ext_iff]
    exact ⟨Prod.ext this.1 this.2, rfl⟩
  · rw [if_neg h0, if_neg h0]

theorem order_setCame (n : Nat) (ws : List MoWord) (i : Nat) : setCame (ws.map (orderWord n)) i = (setCame ws i).map (orderWord n) := by
  unfold setCame
  rw [List.getElem?_map]
  cases hw : ws[i]? with
  | none => rfl
  | some w =>
    simp only [Option.map_some, List.map_set]
    congr 1
    unfold orderWord
    simp only
    split <;> rfl
theorem order_came (n : Nat) : ∀ (l : List Int) (ws : List MoWord), l.foldl (fun ws i => setCame ws i.toNat) (ws.map (orderWord n)) = (l.foldl (fun ws i => setCame ws i.toNat) ws).map (orderWord n)
  | [], _ => rfl
  | x :: l, ws => by
    rw [List.foldl_cons, List.foldl_cons, order_setCame, order_came n l]
theorem order_with (m : MoList) (l : List Int) : withWords (orderL m) l = orderL (withWords m l) := by
  unfold withWords orderL
  simp only [order_came]
theorem order_decides {m : MoList} (h : errOf m = 0) (l : List Int) : decides (orderL m) l = decides m l := by
  unfold decides
  simp only [order_with]
  have hw := errOf_with m l h
  rw [order_unsure hw]
  congr 2
  rw [Bool.eq_iff_iff, List.isEmpty_iff, List.isEmpty_iff, ← List.length_eq_zero_iff, ← List.length_eq_zero_iff]
  exact order_none hw
theorem order_late (m : MoList) : lateWords (orderL m) = lateWords m := by
  unfold lateWords
  rw [order_wl]
  congr 1
  apply List.filter_congr
  intro i _
  simp only [orderL, List.getElem?_map]
  cases m.words[i]? with
  | none => rfl
  | some w =>
    simp only [Option.map_some]
    unfold orderWord
    split <;> rfl
theorem order_wait {m : MoList} (h : errOf m = 0) : waitOf (orderL m) = waitOf m := by
  by_cases h0 : wholeErr m = 0
  · have h0' : wholeErr (orderL m) = 0 := by rw [order_whole h]; exact h0
    have hP : ∀ l, WaitP (orderL m) l ↔ WaitP m l := fun l => by
      unfold WaitP
      rw [order_wl, order_late, order_decides h]
    rcases wait_spec m h0 with ⟨a1, a2⟩ | ⟨a1, a2, a3⟩
    · rcases wait_spec (orderL m) h0' with ⟨b1, b2⟩ | ⟨b1, b2, b3⟩
      · exact Prod.ext (firstOf_one (firstOf_iff hP b2) a2) (by rw [a1, b1])
      · exact absurd ((hP _).2 a2.1) (b3 _)
    · rcases wait_spec (orderL m) h0' with ⟨b1, b2⟩ | ⟨b1, b2, b3⟩
      · exact absurd ((hP _).1 b2.1) (a3 _)
      · exact Prod.ext (by rw [a2, b2]) (by rw [a1, b1])
  · rw [wait_no h0, wait_no (by rw [order_whole h]; exact h0), order_whole h]

theorem order_right {m : MoList} (hv : Valid m) {t : List Int} (ht : t.length = m.sums.length) (but : List Int) : right (orderL m) (flipT m.claimants.length t) but = right m t but := by
  unfold right
  rw [order_pl, Bool.eq_iff_iff, List.all_eq_true, List.all_eq_true]
  have e : ∀ i, i < m.paid.length → rightAt (orderL m) (flipT m.claimants.length t) but i = rightAt m t but i := by
    intro i hi
    have hp := hv.paid i hi
    rw [rightAt_eq (by rw [order_pl]; exact hi), rightAt_eq hi]
    have e1 : (orderL m).paid[i]'(by rw [order_pl]; exact hi) = orderPaid m.claimants.length m.paid[i] := by simp [orderL]
    rw [e1]
    show (hasB but i || (decide ((flipT m.claimants.length t)[m.paid[i].sum.toNat]?.getD 0 = (m.claimants.length : Int) - 1 - m.paid[i].claimant) && (List.range i).all fun k => pairOk (orderL m) but m.paid[i].sum k)) = _
    rw [flipT_at _ (by omega)]
    have e2 : decide ((m.claimants.length : Int) - 1 - t[m.paid[i].sum.toNat]?.getD 0 = (m.claimants.length : Int) - 1 - m.paid[i].claimant) = decide (t[m.paid[i].sum.toNat]?.getD 0 = m.paid[i].claimant) := by apply decide_eq_decide.2; omega
    rw [e2]
    congr 2
    apply List.all_congr rfl
    intro k
    unfold pairOk
    simp only [orderL, List.getElem?_map]
    cases m.paid[k]? <;> rfl
  constructor
  · intro h i hi
    have := h i hi
    rwa [e i (by simpa using hi)] at this
  · intro h i hi
    rw [e i (by simpa using hi)]
    exact h i hi
theorem order_some {m : MoList} (h : errOf m = 0) (but : List Int) : someRight (orderL m) (truths (orderL m)) but = someRight m (truths m) but := by
  unfold someRight
  rw [Bool.eq_iff_iff, List.any_eq_true, List.any_eq_true]
  constructor
  · rintro ⟨t, ht, hr⟩
    have ht2 := (order_mem2 h t).1 ht
    refine ⟨_, ht2, ?_⟩
    have := order_right (valid_of h) (truths_len _ _ ht2) but
    rw [flipT_two] at this
    rw [← this]; exact hr
  · rintro ⟨t, ht, hr⟩
    exact ⟨_, (order_mem h t).2 ht, by rw [order_right (valid_of h) (truths_len _ _ ht)]; exact hr⟩
theorem order_wrong {m : MoList} (h : errOf m = 0) : wrongOf (orderL m) = wrongOf m := by
  by_cases h0 : wholeErr m = 0
  · have h0' : wholeErr (orderL m) = 0 := by rw [order_whole h]; exact h0
    have a := wrong_first m h0
    have b := wrong_first (orderL m) h0'
    have e2 : (wrongOf m).2 = 0 := by unfold wrongOf; rw [if_pos h0]
    have e3 : (wrongOf (orderL m)).2 = 0 := by unfold wrongOf; rw [if_pos h0']
    refine Prod.ext (firstOf_one (firstOf_iff (fun l => ?_) b) a) (by rw [e2, e3])
    rw [order_pl, order_some h]
  · rw [wrong_no h0, wrong_no (by rw [order_whole h]; exact h0), order_whole h]
end Go.Proofs.Ytnlolliankhfmaa
