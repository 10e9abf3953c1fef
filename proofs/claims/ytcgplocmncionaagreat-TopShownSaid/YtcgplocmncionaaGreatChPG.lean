/- What is proved here: plain facts of layer 10: sets as lists of numbers, the program's loops over them. No program. No condition. -/
/- What is proved here: plain facts of layer 10: the search through all sets. No program. No condition. -/
import Derived.Test.YtcgplocmncionaaGreatTsG
set_option linter.unusedVariables false
set_option linter.unusedSimpArgs false
namespace Go.Proofs.YtcgplocmncionaaGreat
def numI (set : Nat) : List Int := bitsList set 64
theorem numI_is (set : Nat) : numI set = (numbersN set).map fun (i : Nat) => (i : Int) := rfl
theorem bits_succ (s n : Nat) : bitsList s (n + 1) = bitsList s n ++ (if s.testBit n = true then [(n : Int)] else []) := by
  unfold bitsList
  rw [List.range_succ, List.filter_append, List.map_append]
  congr 1
  cases h : s.testBit n <;> simp [h]
theorem bits_end (s n : Nat) (h : s < 2 ^ n) : ∀ d, bitsList s (n + d) = bitsList s n
  | 0 => rfl
  | d + 1 => by
    rw [← Nat.add_assoc, bits_succ, bits_end s n h d]
    have : s.testBit (n + d) = false := Nat.testBit_lt_two_pow (Nat.lt_of_lt_of_le h (Nat.pow_le_pow_right (by decide) (Nat.le_add_right n d)))
    rw [this]; simp
theorem numI_end {s n : Nat} (h : s < 2 ^ n) (hn : n ≤ 64) : bitsList s n = numI s := by
  have := bits_end s n h (64 - n)
  rw [show n + (64 - n) = 64 from by omega] at this
  exact this.symm
theorem numI_has {s : Nat} {i : Nat} (hi : i < 64) : hasB (numI s) (i : Int) = s.testBit i := by
  rw [Bool.eq_iff_iff, hasB_iff]
  unfold numI
  rw [bits_mem, Int.toNat_natCast]
  constructor
  · exact fun h => h.2.2
  · exact fun h => ⟨by omega, by omega, h⟩
/-- The set of a list, as the program makes it. -/
def setTo (l : List Int) : Nat → Nat
  | 0 => 0
  | k + 1 => setTo l k ||| 2 ^ (l[k]?.getD 0).toNat
theorem setTo_bit (l : List Int) (i : Nat) : ∀ k, k ≤ l.length → ((setTo l k).testBit i = true ↔ ∃ j, j < k ∧ ∃ h : j < l.length, l[j].toNat = i)
  | 0, _ => by simp [setTo]
  | k + 1, hk => by
    rw [setTo, Nat.testBit_or, Bool.or_eq_true, setTo_bit l i k (by omega), Nat.testBit_two_pow, decide_eq_true_eq, List.getElem?_eq_getElem (by omega), Option.getD_some]
    constructor
    · rintro (⟨j, hj, h, e⟩ | e)
      · exact ⟨j, by omega, h, e⟩
      · exact ⟨k, by omega, by omega, e⟩
    · rintro ⟨j, hj, h, e⟩
      by_cases hjk : j < k
      · exact .inl ⟨j, hjk, h, e⟩
      · obtain rfl : j = k := by omega
        exact .inr e
theorem setTo_num (s : Nat) (hs : s < 2 ^ 64) : setTo (numI s) (numI s).length = s := by
  refine Nat.eq_of_testBit_eq fun i => ?_
  rw [Bool.eq_iff_iff, setTo_bit _ _ _ (Nat.le_refl _)]
  constructor
  · rintro ⟨j, hj, h, e⟩
    have := (bits_mem s 64 (numI s)[j]).1 (List.getElem_mem h)
    rw [e] at this
    exact this.2.2
  · intro h
    have hi : i < 64 := by
      rcases Nat.lt_or_ge i 64 with h2 | h2
      · exact h2
      · rw [Nat.testBit_lt_two_pow (Nat.lt_of_lt_of_le hs (Nat.pow_le_pow_right (by decide) h2))] at h; cases h
    have hm : (i : Int) ∈ numI s := (bits_mem s 64 _).2 ⟨by omega, by omega, by rw [Int.toNat_natCast]; exact h⟩
    obtain ⟨j, hj, e⟩ := List.getElem_of_mem hm
    exact ⟨j, hj, hj, by rw [e, Int.toNat_natCast]⟩
/-- More of a set stays in it. -/
theorem setTo_lt (l : List Int) (b : Nat) (hl : ∀ x ∈ l, x.toNat < b) : ∀ k, k ≤ l.length → setTo l k < 2 ^ b
  | 0, _ => Nat.two_pow_pos b
  | k + 1, hk => by
    rw [setTo, List.getElem?_eq_getElem (by omega), Option.getD_some]
    refine Nat.or_lt_two_pow (setTo_lt l b hl k (by omega)) (Nat.pow_lt_pow_right (by decide) (hl _ (List.getElem_mem _)))
end Go.Proofs.YtcgplocmncionaaGreat
namespace Go.Proofs.YtcgplocmncionaaGreat
/-- The sets that a call of next goes through in its first so many rounds. -/
def setsUpto (things : List Nat) (left k set m : Nat) : List Nat := (List.range m).flatMap fun j => setsN things left (k + j + 1) (set ||| 2 ^ (things[k + j]?.getD 0))
theorem setsN_succ (things : List Nat) (left k set : Nat) : setsN things (left + 1) k set = setsUpto things left k set (things.length - left - k) := rfl
theorem setsUpto_succ (things : List Nat) (left k set m : Nat) : setsUpto things left k set (m + 1) = setsUpto things left k set m ++ setsN things left (k + m + 1) (set ||| 2 ^ (things[k + m]?.getD 0)) := by
  unfold setsUpto
  rw [List.range_succ, List.flatMap_append]
  simp
def allSetsTo (things : List Nat) (m : Nat) : List Nat := (List.range m).flatMap fun many => setsN things many 0 0
theorem allSetsN_is (things : List Nat) : allSetsN things = allSetsTo things (things.length + 1) := rfl
theorem allSetsTo_succ (things : List Nat) (m : Nat) : allSetsTo things (m + 1) = allSetsTo things m ++ setsN things m 0 0 := by
  unfold allSetsTo
  rw [List.range_succ, List.flatMap_append]
  simp
theorem findN_pre {xs pre : List Nat} {x : Nat} {p : Nat → Bool} (h : pre ++ [x] <+: xs) (hp : ∀ y ∈ pre, p y = false) (hx : p x = true) : xs.find? p = some x := by
  obtain ⟨t, rfl⟩ := h
  rw [List.append_assoc, List.find?_append]
  have : pre.find? p = none := List.find?_eq_none.2 fun y hy => by rw [hp y hy]; simp
  rw [this]
  simp [hx]
theorem findN_no {xs : List Nat} {p : Nat → Bool} (hp : ∀ y ∈ xs, p y = false) : xs.find? p = none := List.find?_eq_none.2 fun y hy => by rw [hp y hy]; simp
theorem setsN_lt (things : List Nat) (b : Nat) (ht : ∀ t ∈ things, t < b) : ∀ left k set, set < 2 ^ b → ∀ s ∈ setsN things left k set, s < 2 ^ b
  | 0, k, set, h, s, hs => by rw [List.mem_singleton.1 hs]; exact h
  | left + 1, k, set, h, s, hs => by
    rw [setsN, List.mem_flatMap] at hs
    obtain ⟨j, hj, hs⟩ := hs
    have hj := List.mem_range.1 hj
    have hkj : k + j < things.length := by omega
    refine setsN_lt things b ht left _ _ (Nat.or_lt_two_pow h ?_) s hs
    rw [List.getElem?_eq_getElem hkj, Option.getD_some]
    exact Nat.pow_lt_pow_right (by decide) (ht _ (List.getElem_mem hkj))
theorem allSetsN_lt {things : List Nat} {b : Nat} (ht : ∀ t ∈ things, t < b) {s : Nat} (hs : s ∈ allSetsN things) : s < 2 ^ b := by
  unfold allSetsN at hs
  rw [List.mem_flatMap] at hs
  obtain ⟨m, _, hs⟩ := hs
  exact setsN_lt things b ht m 0 0 (Nat.two_pow_pos b) s hs
/-- What is told stays below the facts. -/
theorem base_lt (c : ChH) (b : Nat) (hf : ∀ i, i < c.copies.length → (copyAt c i).facts.toNat < 2 ^ b) (copies : Nat) : ∀ k, k ≤ c.copies.length → baseTo c copies k < 2 ^ b
  | 0, _ => Nat.two_pow_pos b
  | k + 1, hk => by
    rw [baseTo]
    split
    · exact Nat.or_lt_two_pow (base_lt c b hf copies k (by omega)) (hf k (by omega))
    · exact base_lt c b hf copies k (by omega)
theorem step_lt {b set : Nat} {x : ChR} (hx : x.gives.toNat < b) (h : set < 2 ^ b) : ruleStep set x < 2 ^ b := by
  unfold ruleStep
  split
  · exact Nat.or_lt_two_pow h (Nat.pow_lt_pow_right (by decide) hx)
  · exact h
theorem pass_lt {b : Nat} : ∀ (L : List ChR) (set : Nat), (∀ x ∈ L, x.gives.toNat < b) → set < 2 ^ b → L.foldl ruleStep set < 2 ^ b
  | [], _, _, h => h
  | x :: L, set, hL, h => pass_lt L _ (fun y hy => hL y (by simp [hy])) (step_lt (hL x (by simp)) h)
/-- A pass that changes nothing is the last one. -/
theorem iter_fix {c : ChH} {set : Nat} (h : rulePass c set = set) : ∀ k, ruleIter c k set = set
  | 0 => rfl
  | k + 1 => by rw [ruleIter, h]; exact iter_fix h k
theorem iter_add (c : ChH) : ∀ (a b set : Nat), ruleIter c (a + b) set = ruleIter c b (ruleIter c a set)
  | 0, b, set => by rw [Nat.zero_add]; rfl
  | a + 1, b, set => by rw [show a + 1 + b = (a + b) + 1 from by omega, ruleIter, iter_add c a b, ruleIter]
theorem iter_next (c : ChH) (m set : Nat) : ruleIter c (m + 1) set = rulePass c (ruleIter c m set) := by rw [iter_add c m 1]; rfl
/-- What is reached when a pass changes nothing is what is told. -/
theorem tell_end {c : ChH} {copies m set : Nat} (h : ruleIter c m (baseTo c copies c.copies.length) = set) (hm : m ≤ 64) (hfix : rulePass c set = set) : tellN c copies = set := by
  unfold tellN
  rw [show 64 = m + (64 - m) from by omega, iter_add, h, iter_fix hfix]
theorem step_ge (set : Nat) (x : ChR) : set ≤ ruleStep set x := by
  unfold ruleStep
  split
  · exact Nat.left_le_or
  · exact Nat.le_refl _
theorem step_gt {set : Nat} {x : ChR} (h : x.need.toNat &&& set = x.need.toNat ∧ set.testBit x.gives.toNat = false) : set < ruleStep set x := by
  unfold ruleStep
  rw [if_pos h]
  refine Nat.lt_of_le_of_ne Nat.left_le_or fun e => ?_
  have h2 : (set ||| 2 ^ x.gives.toNat).testBit x.gives.toNat = true := by rw [Nat.testBit_or, Nat.testBit_two_pow_self, Bool.or_true]
  rw [← e, h.2] at h2
  cases h2
theorem pass_ge : ∀ (L : List ChR) (set : Nat), set ≤ L.foldl ruleStep set
  | [], _ => Nat.le_refl _
  | x :: L, set => Nat.le_trans (step_ge set x) (pass_ge L _)
/-- The first so many rules of a pass. -/
def passTo (c : ChH) (set : Nat) : Nat → Nat
  | 0 => set
  | k + 1 => match c.rules[k]? with | some x => ruleStep (passTo c set k) x | none => passTo c set k
theorem passTo_is (c : ChH) (set : Nat) : ∀ k, passTo c set k = (c.rules.take k).foldl ruleStep set
  | 0 => rfl
  | k + 1 => by
    rw [passTo, passTo_is c set k]
    by_cases hk : k < c.rules.length
    · rw [List.getElem?_eq_getElem hk, List.take_add_one, List.getElem?_eq_getElem hk, List.foldl_append]; rfl
    · rw [List.getElem?_eq_none (by omega), List.take_of_length_le (by omega), List.take_of_length_le (by omega)]
theorem passTo_all (c : ChH) (set : Nat) : passTo c set c.rules.length = rulePass c set := by
  rw [passTo_is, List.take_length]; rfl
end Go.Proofs.YtcgplocmncionaaGreat
