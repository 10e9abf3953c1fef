/- What is proved here: plain Lean functions for the small helpers of the references (escribanoref01), and plain facts on them. No program. No condition. -/
/- What is proved here: plain Lean functions for checks part by part, and for searches of lists; plain facts on them. No program. No condition. -/
/- What is proved here: plain facts: the first of the shortest lists of numbers that are so, however it is sought. No program. No condition. -/
/- What is proved here: plain facts: the first of the fewest numbers that do, sought among lists or among sets. No program. No condition. -/

set_option linter.unusedVariables false
set_option linter.unusedSimpArgs false
namespace Go.Proofs.Ytchnpekgmkhacaa

/-- 'In'. -/
def inB (n lo hi : Int) : Bool := decide (lo ≤ n) && decide (n ≤ hi)
theorem inB_iff {n lo hi : Int} : inB n lo hi = true ↔ lo ≤ n ∧ n ≤ hi := by simp [inB]
theorem inB_no {n lo hi : Int} : inB n lo hi = false ↔ n < lo ∨ hi < n := by
  cases h : inB n lo hi
  · have : ¬ (lo ≤ n ∧ n ≤ hi) := fun h' => by rw [inB_iff.2 h'] at h; cases h
    simp; omega
  · have := inB_iff.1 h
    simp; omega

/-- 'Has'. -/
def hasB (l : List Int) (n : Int) : Bool := l.any (· == n)
theorem hasB_iff {l : List Int} {n : Int} : hasB l n = true ↔ n ∈ l := by
  simp [hasB]
theorem hasB_snoc (l : List Int) (k : Nat) (h : k < l.length) (n : Int) : hasB (l.take (k+1)) n = (hasB (l.take k) n || (l[k] == n)) := by
  unfold hasB
  rw [List.take_succ_eq_append_getElem h, List.any_append]
  simp

/-- 'Less': lists of numbers, the first number that differs decides. -/
def less : List Int → List Int → Bool
  | _, [] => false
  | [], _ :: _ => true
  | x :: xs, y :: ys => if x = y then less xs ys else decide (x < y)
theorem less_drop (a b : List Int) (k : Nat) (ha : k < a.length) (hb : k < b.length) :
    less (a.drop k) (b.drop k) = if a[k] = b[k] then less (a.drop (k+1)) (b.drop (k+1)) else decide (a[k] < b[k]) := by
  rw [List.drop_eq_getElem_cons ha, List.drop_eq_getElem_cons hb, less]
theorem less_end (a b : List Int) (k : Nat) (hb : b.length ≤ k) : less (a.drop k) (b.drop k) = false := by
  rw [List.drop_of_length_le hb]; cases a.drop k <;> rfl
theorem less_short (a b : List Int) (k : Nat) (ha : a.length ≤ k) (hb : k < b.length) : less (a.drop k) (b.drop k) = true := by
  rw [List.drop_of_length_le ha, List.drop_eq_getElem_cons hb]; rfl
theorem less_irrefl (a : List Int) : less a a = false := by
  induction a with
  | nil => rfl
  | cons x xs ih => simp [less, ih]
theorem less_total : ∀ (a b : List Int), a.length = b.length → less a b = false → less b a = false → a = b
  | [], [], _, _, _ => rfl
  | x :: xs, y :: ys, hl, h1, h2 => by
    simp only [less] at h1 h2
    by_cases e : x = y
    · subst e
      simp only [if_true] at h1 h2
      rw [less_total xs ys (by simpa using hl) h1 h2]
    · rw [if_neg e] at h1
      rw [if_neg (fun h => e h.symm)] at h2
      simp at h1 h2
      omega
theorem less_asymm : ∀ (a b : List Int), less a b = true → less b a = false
  | [], [], h => by simp [less] at h
  | [], y :: ys, _ => rfl
  | x :: xs, [], h => by simp [less] at h
  | x :: xs, y :: ys, h => by
    simp only [less] at h ⊢
    by_cases e : x = y
    · subst e
      simp only [if_true] at h ⊢
      exact less_asymm xs ys h
    · rw [if_neg e] at h
      rw [if_neg (fun h => e h.symm)]
      simp at h ⊢
      omega
theorem less_trans : ∀ (a b c : List Int), less a b = true → less b c = true → less a c = true
  | [], [], _, h, _ => by simp [less] at h
  | x :: xs, [], _, h, _ => by simp [less] at h
  | _, y :: ys, [], _, h => by simp [less] at h
  | [], y :: ys, z :: zs, _, _ => rfl
  | x :: xs, y :: ys, z :: zs, h, k => by
    simp only [less] at h k ⊢
    by_cases e : x = y
    · subst e
      simp only [if_true] at h
      by_cases f : x = z
      · subst f
        simp only [if_true] at k ⊢
        exact less_trans xs ys zs h k
      · rw [if_neg f] at k ⊢
        exact k
    · rw [if_neg e] at h
      simp at h
      by_cases f : y = z
      · subst f
        rw [if_neg e]
        simpa using h
      · rw [if_neg f] at k
        simp at k
        rw [if_neg (by omega)]
        simp
        omega

/-- 'Ints'. -/
def intsB (a b : List Int) : Bool := decide (a.length = b.length) && !less a b && !less b a
theorem intsB_iff {a b : List Int} : intsB a b = true ↔ a = b := by
  constructor
  · intro h
    simp [intsB] at h
    exact less_total a b h.1.1 h.1.2 h.2
  · rintro rfl
    simp [intsB, less_irrefl]

/-- 'Fewer'. -/
def fewer (a b : List Int) : Bool := if a.length = b.length then less a b else decide (a.length < b.length)

/-- 'Rising': ascending numbers from behind 'last' to below 'below'. -/
def risingFrom (last below : Int) : List Int → Bool
  | [] => true
  | x :: xs => decide (last < x) && decide (x < below) && risingFrom x below xs
def rising (l : List Int) (below : Int) : Bool := risingFrom (-1) below l

/-- 'Bit'. -/
def bitB (n : Int) (k : Nat) : Bool := n.toNat.testBit k
theorem bit_zero (n : Int) : bitB n 0 = decide (n.tmod 2 = 1) := by
  unfold bitB
  rw [Nat.testBit_zero]
  by_cases h : 0 ≤ n
  · obtain ⟨m, rfl⟩ := Int.eq_ofNat_of_zero_le h
    simp only [Int.toNat_natCast]
    have : ((m : Int).tmod 2) = ((m % 2 : Nat) : Int) := by rw [Int.tmod_eq_emod_of_nonneg (by omega)]; omega
    rw [this]
    by_cases h : m % 2 = 1 <;> simp [h] <;> omega
  · have h0 : n.toNat = 0 := by omega
    rw [h0]
    have : n.tmod 2 ≤ 0 := by
      have := Int.tmod_nonneg 2 (a := -n) (by omega)
      rw [Int.neg_tmod] at this
      omega
    simp
    omega
theorem bit_succ (n : Int) (k : Nat) : bitB n (k+1) = bitB (n.tdiv 2) k := by
  unfold bitB
  by_cases h : 0 ≤ n
  · obtain ⟨m, rfl⟩ := Int.eq_ofNat_of_zero_le h
    have : ((m : Int).tdiv 2) = ((m / 2 : Nat) : Int) := by rw [Int.tdiv_eq_ediv_of_nonneg (by omega)]; omega
    rw [this]
    simp only [Int.toNat_natCast, Nat.testBit_succ]
  · have h0 : n.toNat = 0 := by omega
    have h1 : (n.tdiv 2).toNat = 0 := by
      have : n.tdiv 2 ≤ 0 := by
        have := Int.tdiv_nonneg (a := -n) (b := 2) (by omega) (by omega)
        rw [Int.neg_tdiv] at this
        omega
      omega
    rw [h0, h1]
    simp

theorem half_bd (x : Int) (h1 : -9223372036854775808 ≤ x) (h2 : x ≤ 9223372036854775807) : -9223372036854775808 ≤ x.tdiv 2 ∧ x.tdiv 2 ≤ 9223372036854775807 := by
  by_cases h : 0 ≤ x
  · rw [Int.tdiv_eq_ediv_of_nonneg h]
    omega
  · have := Int.neg_tdiv x 2
    rw [Int.tdiv_eq_ediv_of_nonneg (show 0 ≤ -x by omega)] at this
    omega

/-- 'Where'. -/
def whereFrom (l : List ByteArray) (s : ByteArray) (k : Nat) : Int :=
  match l with
  | [] => -1
  | x :: xs => if x = s then k else whereFrom xs s (k+1)
def whereI (l : List ByteArray) (s : ByteArray) : Int := whereFrom l s 0

/-- A name's bytes: from a to z, or, not at the beginning, a dot or a digit. -/
def low (c : UInt8) : Bool := decide (97 ≤ c.toNat) && decide (c.toNat ≤ 122)
def late (c : UInt8) : Bool := c.toNat == 46 || (decide (48 ≤ c.toNat) && decide (c.toNat ≤ 57))
def nameFrom (k : Nat) : List UInt8 → Bool
  | [] => true
  | c :: cs => (low c || (decide (0 < k) && late c)) && nameFrom (k+1) cs
def nameB (s : ByteArray) : Bool := decide (1 ≤ s.size) && decide (s.size ≤ 16) && nameFrom 0 s.data.toList

/-- 'Fresh': the error of a name that must not be one of some before it (6: no name; 5: it is there already). -/
def hasS (l : List ByteArray) (s : ByteArray) : Bool := l.any fun x => decide (x = s)
def fresh (s : ByteArray) (before : List ByteArray) : Int := if nameB s then (if hasS before s then 5 else 0) else 6

/-- 'Choices', round by round. -/
def choiceStep (below : Int) (first : Bool) (l : List Int) : List (List Int) :=
  let least : Int := if first then 0 else l.getLast?.getD 0 + 1
  (List.range (below - least).toNat).map fun (j : Nat) => l ++ [least + (j : Int)]
def choicesTo (below : Int) : Nat → List (List Int)
  | 0 => [[]]
  | i + 1 => (choicesTo below i).flatMap (choiceStep below (i == 0))
def choices (below many : Int) : List (List Int) := choicesTo below many.toNat
end Go.Proofs.Ytchnpekgmkhacaa
namespace Go.Proofs.Ytchnpekgmkhacaa
/-- The first index below n at which f is not 0. -/
def firstErr (n : Nat) (f : Nat → Int) : Option Nat := (List.range n).find? fun i => f i != 0
theorem firstErr_none {n : Nat} {f : Nat → Int} (h : ∀ i, i < n → f i = 0) : firstErr n f = none := by
  unfold firstErr
  rw [List.find?_eq_none]
  intro i hi
  simp at hi
  simp [h i hi]
theorem firstErr_some {n k : Nat} {f : Nat → Int} (hk : k < n) (h : ∀ i, i < k → f i = 0) (hf : f k ≠ 0) : firstErr n f = some k := by
  unfold firstErr
  rw [List.find?_eq_some_iff_append]
  refine ⟨by simpa using hf, List.range k, (List.range' (k+1) (n - k - 1)), ?_, ?_⟩
  · rw [List.range_eq_range', List.range_eq_range', ← List.range'_succ, show n = k + (n - k - 1 + 1) from by omega, ← List.range'_append]
    congr 2 <;> omega
  · intro i hi
    simp at hi
    simp [h i hi]
theorem firstErr_zero {n : Nat} {f : Nat → Int} (h : firstErr n f = none) : ∀ i, i < n → f i = 0 := by
  intro i hi
  unfold firstErr at h
  rw [List.find?_eq_none] at h
  have := h i (by simpa using hi)
  simpa using this

/-- The bits of so many claimants. -/
def allBits (n : Nat) : Int := 2 ^ n - 1

/-- One part of the check: too many (3), or the first with an error. -/
def checkPart (part : Int) (len most : Nat) (f : Nat → Int) (next : Int × Int × Int) : Int × Int × Int :=
  if most < len then (part, 0, 3) else match firstErr len f with | some i => (part, i, f i) | none => next
theorem checkPart_long {part : Int} {len most : Nat} {f : Nat → Int} {next : Int × Int × Int} (h : most < len) : checkPart part len most f next = (part, 0, 3) := by unfold checkPart; rw [if_pos h]
theorem checkPart_err {part : Int} {len most k : Nat} {f : Nat → Int} {next : Int × Int × Int} (h : len ≤ most) (hk : k < len) (h0 : ∀ i, i < k → f i = 0) (hf : f k ≠ 0) : checkPart part len most f next = (part, (k : Int), f k) := by
  unfold checkPart; rw [if_neg (by omega), firstErr_some hk h0 hf]
theorem checkPart_ok {part : Int} {len most : Nat} {f : Nat → Int} {next : Int × Int × Int} (h : len ≤ most) (h0 : ∀ i, i < len → f i = 0) : checkPart part len most f next = next := by
  unfold checkPart; rw [if_neg (by omega), firstErr_none h0]

/-- The index and the error of the first thing with one, of at most so many. -/
def failOf (n most : Nat) (f : Nat → Int) : Int × Int := if most < n then (0, 3) else match firstErr n f with | some i => ((i : Int), f i) | none => (0, 0)
theorem failOf_long {n most : Nat} {f : Nat → Int} (h : most < n) : failOf n most f = (0, 3) := if_pos h
theorem failOf_err {n most k : Nat} {f : Nat → Int} (h : n ≤ most) (hk : k < n) (h0 : ∀ i, i < k → f i = 0) (hf : f k ≠ 0) : failOf n most f = ((k : Int), f k) := by
  unfold failOf; rw [if_neg (by omega), firstErr_some hk h0 hf]
theorem failOf_ok {n most : Nat} {f : Nat → Int} (h : n ≤ most) (h0 : ∀ i, i < n → f i = 0) : failOf n most f = (0, 0) := by
  unfold failOf; rw [if_neg (by omega), firstErr_none h0]

theorem checkPart_zero {part : Int} {len most : Nat} {f : Nat → Int} {next : Int × Int × Int} (h : (checkPart part len most f next).2.2 = 0) : len ≤ most ∧ (∀ i, i < len → f i = 0) ∧ next.2.2 = 0 := by
  unfold checkPart at h
  by_cases hl : most < len
  · rw [if_pos hl] at h; simp at h
  · rw [if_neg hl] at h
    cases hf : firstErr len f with
    | none => rw [hf] at h; exact ⟨by omega, firstErr_zero hf, h⟩
    | some i =>
      rw [hf] at h
      have hi : i ∈ List.range len ∧ (f i != 0) = true := by
        unfold firstErr at hf
        have h2 := List.find?_some (p := fun i => f i != 0) hf
        exact ⟨List.mem_of_find?_eq_some hf, h2⟩
      simp at h
      simp [h] at hi

/-- The first of lists that is so, the fewest numbers first. -/
def searchOne (so : List Int → Bool) (below : Int) (k : Nat) : Option (List Int) := (choicesTo below k).find? so
def searchFrom (so : List Int → Bool) (below : Int) (k : Nat) : Nat → Option (List Int)
  | 0 => none
  | fuel + 1 => match searchOne so below k with | some l => some l | none => searchFrom so below (k+1) fuel
theorem none_succ {α : Type} {so : α → Bool} {L : List α} {k : Nat} (h0 : ∀ j (_ : j < k) (h : j < L.length), so L[j] = false) (hk : k < L.length) (h : so L[k] = false) : ∀ j (_ : j < k + 1) (h : j < L.length), so L[j] = false := by
  intro j hj h2
  by_cases hjk : j < k
  · exact h0 j hjk h2
  · have : j = k := by omega
    subst this
    exact h
theorem any_hit {α : Type} {so : α → Bool} {L : List α} {i : Nat} (hi : i < L.length) (h : so L[i] = true) : L.any so = true := by
  rw [List.any_eq_true]; exact ⟨_, List.getElem_mem hi, h⟩
theorem any_none {α : Type} {so : α → Bool} {L : List α} (h : ∀ i (_ : i < L.length), so L[i] = false) : L.any so = false := by
  rw [List.any_eq_false]
  intro x hx
  obtain ⟨i, hi, rfl⟩ := List.getElem_of_mem hx
  simp [h i hi]
theorem find_hit {α : Type} {so : α → Bool} {L : List α} {i : Nat} (hi : i < L.length) (h0 : ∀ j (_ : j < i) (h : j < L.length), so L[j] = false) (h : so L[i] = true) : L.find? so = some L[i] := by
  rw [List.find?_eq_some_iff_append]
  refine ⟨h, L.take i, L.drop (i+1), ?_, ?_⟩
  · rw [← List.drop_eq_getElem_cons hi, List.take_append_drop]
  · intro x hx
    obtain ⟨j, hj, rfl⟩ := List.getElem_of_mem hx
    rw [List.length_take] at hj
    simp [h0 j (by omega) (by omega)]
theorem find_none {α : Type} {so : α → Bool} {L : List α} (h : ∀ i (_ : i < L.length), so L[i] = false) : L.find? so = none := by
  rw [List.find?_eq_none]
  intro x hx
  obtain ⟨i, hi, rfl⟩ := List.getElem_of_mem hx
  simp [h i hi]

theorem search_none {so : List Int → Bool} {n : Int} {k f : Nat} (h : (choicesTo n k).find? so = none) : searchFrom so n k (f + 1) = searchFrom so n (k + 1) f := by
  rw [searchFrom, searchOne, h]
theorem search_some {so : List Int → Bool} {n : Int} {k f : Nat} {l : List Int} (h : (choicesTo n k).find? so = some l) : searchFrom so n k (f + 1) = some l := by
  rw [searchFrom, searchOne, h]
theorem choices_all (n : Nat) (h : n ≤ 5) : 0 < (choicesTo n n).length := by
  rcases n with _ | _ | _ | _ | _ | _ | n
  · decide
  · decide
  · decide
  · decide
  · decide
  · decide
  · omega
end Go.Proofs.Ytchnpekgmkhacaa
namespace Go.Proofs.Ytchnpekgmkhacaa
theorem less_snoc_same (t : List Int) (c d : Int) (h : c < d) : less (t ++ [c]) (t ++ [d]) = true := by
  induction t with
  | nil => simp [less, Int.ne_of_lt h, h]
  | cons x t ih => simp only [List.cons_append, less, if_true]; exact ih
theorem less_snoc : ∀ (s t : List Int) (c d : Int), s.length = t.length → less s t = true → less (s ++ [c]) (t ++ [d]) = true
  | [], [], _, _, _, h => by simp [less] at h
  | x :: s, y :: t, c, d, hl, h => by
    simp only [List.cons_append, less] at h ⊢
    by_cases e : x = y
    · subst e
      simp only [if_true] at h ⊢
      exact less_snoc s t c d (by simpa using hl) h
    · rw [if_neg e] at h ⊢
      exact h
/-- The numbers of a set, as bits, below n. -/
def bitsList (s n : Nat) : List Int := ((List.range n).filter fun i => s.testBit i).map fun (i : Nat) => (i : Int)


/-- Ascending numbers from 0 to below n. -/
def incr (n : Int) (l : List Int) : Prop := l.Pairwise (fun a b => a < b) ∧ ∀ x ∈ l, 0 ≤ x ∧ x < n
theorem nil_snoc (l : List Int) : l = [] ∨ ∃ l' x, l = l' ++ [x] := by
  rcases List.eq_nil_or_concat l with h | ⟨l', x, h⟩
  · exact .inl h
  · exact .inr ⟨l', x, by rw [h, List.concat_eq_append]⟩
theorem incr_nil (n : Int) : incr n [] := ⟨List.Pairwise.nil, by simp⟩
theorem incr_snoc {n : Int} {l : List Int} {x : Int} : incr n (l ++ [x]) ↔ incr n l ∧ (∀ y ∈ l, y < x) ∧ 0 ≤ x ∧ x < n := by
  unfold incr
  rw [List.pairwise_append]
  constructor
  · rintro ⟨⟨h1, _, h3⟩, h4⟩
    exact ⟨⟨h1, fun y hy => h4 y (by simp [hy])⟩, fun y hy => h3 y hy x (by simp), h4 x (by simp)⟩
  · rintro ⟨⟨h1, h2⟩, h3, h4⟩
    refine ⟨⟨h1, by simp, fun a ha b hb => by simp at hb; subst hb; exact h3 a ha⟩, fun y hy => ?_⟩
    rcases List.mem_append.1 hy with hy | hy
    · exact h2 y hy
    · simp at hy; subst hy; exact h4
theorem last_max {l : List Int} (h : l.Pairwise (fun a b => a < b)) (y : Int) (hy : y ∈ l) : y ≤ l.getLast?.getD 0 := by
  rcases nil_snoc l with rfl | ⟨l', x, rfl⟩
  · simp at hy
  · rw [List.getLast?_append]
    simp only [List.getLast?_singleton, Option.some_or, Option.getD_some]
    rcases List.mem_append.1 hy with hy | hy
    · rw [List.pairwise_append] at h
      exact Int.le_of_lt (h.2.2 y hy x (by simp))
    · simp at hy; omega
theorem last_mem {l : List Int} (h : 0 < l.length) : l.getLast?.getD 0 ∈ l := by
  rcases nil_snoc l with rfl | ⟨l', x, rfl⟩
  · simp at h
  · rw [List.getLast?_append]; simp
theorem choicesTo_mem (n : Int) (k : Nat) : ∀ l, l ∈ choicesTo n k ↔ l.length = k ∧ incr n l := by
  induction k with
  | zero =>
    intro l
    simp only [choicesTo, List.mem_singleton, List.length_eq_zero_iff]
    exact ⟨fun h => ⟨h, h ▸ incr_nil n⟩, fun h => h.1⟩
  | succ k ih =>
    intro l
    rw [choicesTo, List.mem_flatMap]
    constructor
    · rintro ⟨l', hl', hs⟩
      obtain ⟨h1, h2⟩ := (ih l').1 hl'
      unfold choiceStep at hs
      obtain ⟨j, hj, rfl⟩ := List.mem_map.1 hs
      have hj' := List.mem_range.1 hj
      refine ⟨by simp [h1], incr_snoc.2 ⟨h2, ?_, ?_⟩⟩
      · intro y hy
        have := last_max h2.1 y hy
        have hk : k ≠ 0 := fun e => by subst e; rw [List.eq_nil_of_length_eq_zero h1] at hy; simp at hy
        simp only [beq_iff_eq, hk, if_false]
        omega
      · by_cases hk : k = 0
        · subst hk
          simp at hj' ⊢
          omega
        · simp only [beq_iff_eq, hk, if_false] at hj' ⊢
          have := h2.2 _ (last_mem (l := l') (by omega))
          omega
    · rintro ⟨h1, h2⟩
      rcases nil_snoc l with rfl | ⟨l', x, rfl⟩
      · simp at h1
      · obtain ⟨h3, h4, h5⟩ := incr_snoc.1 h2
        have hl' : l'.length = k := by simpa using h1
        refine ⟨l', (ih l').2 ⟨hl', h3⟩, ?_⟩
        unfold choiceStep
        by_cases hk : k = 0
        · subst hk
          refine List.mem_map.2 ⟨x.toNat, ?_, ?_⟩
          · simp; omega
          · have : (x.toNat : Int) = x := by omega
            simp [this]
        · have hlast := h4 _ (last_mem (l := l') (by omega))
          refine List.mem_map.2 ⟨(x - (l'.getLast?.getD 0 + 1)).toNat, ?_, ?_⟩
          · simp only [beq_iff_eq, hk, if_false, List.mem_range]; omega
          · have : l'.getLast?.getD 0 + 1 + ((x - (l'.getLast?.getD 0 + 1)).toNat : Int) = x := by omega
            simp only [beq_iff_eq, hk, if_false, this]
theorem less_snoc_eq (t : List Int) (c d : Int) : less (t ++ [c]) (t ++ [d]) = decide (c < d) := by
  induction t with
  | nil =>
    simp only [List.nil_append, less]
    by_cases e : c = d
    · subst e; simp
    · rw [if_neg e]
  | cons x t ih => simp only [List.cons_append, less, if_true]; exact ih
theorem choicesTo_sorted (n : Int) (k : Nat) : (choicesTo n k).Pairwise (fun a b => less a b = true) := by
  induction k with
  | zero => simp [choicesTo]
  | succ k ih =>
    rw [choicesTo, List.pairwise_flatMap]
    refine ⟨fun t _ => ?_, ih.imp_of_mem ?_⟩
    · unfold choiceStep
      rw [List.pairwise_map]
      refine (List.pairwise_lt_range (n := _)).imp ?_
      intro a b h
      rw [less_snoc_eq]
      simp; omega
    · intro a b ha hb hab x hx y hy
      unfold choiceStep at hx hy
      obtain ⟨i, _, rfl⟩ := List.mem_map.1 hx
      obtain ⟨j, _, rfl⟩ := List.mem_map.1 hy
      exact less_snoc a b _ _ (by rw [((choicesTo_mem n k a).1 ha).1, ((choicesTo_mem n k b).1 hb).1]) hab

/-- The first of the shortest ones. -/
def FirstOf (P : List Int → Prop) (l : List Int) : Prop := P l ∧ ∀ k, P k → k = l ∨ fewer l k = true
theorem fewer_asymm {a b : List Int} (h : fewer a b = true) : fewer b a = false := by
  unfold fewer at h ⊢
  by_cases e : a.length = b.length
  · rw [if_pos e] at h; rw [if_pos e.symm]; exact less_asymm _ _ h
  · rw [if_neg e] at h; rw [if_neg (fun h => e h.symm)]
    simp at h ⊢; omega
theorem fewer_irrefl (a : List Int) : fewer a a = false := by unfold fewer; rw [if_pos rfl]; exact less_irrefl a
theorem fewer_trans {a b c : List Int} (h : fewer a b = true) (k : fewer b c = true) : fewer a c = true := by
  unfold fewer at h k ⊢
  by_cases e : a.length = b.length
  · rw [if_pos e] at h
    by_cases f : b.length = c.length
    · rw [if_pos f] at k; rw [if_pos (e.trans f)]; exact less_trans _ _ _ h k
    · rw [if_neg f] at k; rw [if_neg (by omega)]; simp at k ⊢; omega
  · rw [if_neg e] at h
    simp at h
    by_cases f : b.length = c.length
    · rw [if_pos f] at k; rw [if_neg (by omega)]; simp; omega
    · rw [if_neg f] at k; simp at k; rw [if_neg (by omega)]; simp; omega
theorem fewer_total {a b : List Int} (h : fewer a b = false) (h2 : fewer b a = false) : a = b := by
  unfold fewer at h h2
  by_cases e : a.length = b.length
  · rw [if_pos e] at h; rw [if_pos e.symm] at h2; exact less_total _ _ e h h2
  · rw [if_neg e] at h; rw [if_neg (fun h => e h.symm)] at h2
    simp at h h2; omega
theorem firstOf_one {P : List Int → Prop} {a b : List Int} (h : FirstOf P a) (k : FirstOf P b) : a = b := by
  rcases h.2 b k.1 with e | h1
  · exact e.symm
  · rcases k.2 a h.1 with e | h2
    · exact e
    · rw [fewer_asymm h1] at h2; cases h2
theorem firstOf_iff {P Q : List Int → Prop} (h : ∀ l, P l ↔ Q l) {l : List Int} (k : FirstOf P l) : FirstOf Q l := ⟨(h l).1 k.1, fun x hx => k.2 x ((h x).2 hx)⟩

theorem find_first {so : List Int → Bool} : ∀ {L : List (List Int)}, L.Pairwise (fun a b => less a b = true) → ∀ {l}, L.find? so = some l → l ∈ L ∧ so l = true ∧ ∀ k ∈ L, so k = true → k = l ∨ less l k = true
  | [], _, l, h => by simp at h
  | a :: L, hs, l, h => by
    rw [List.pairwise_cons] at hs
    cases ha : so a with
    | true =>
      rw [List.find?_cons_of_pos ha] at h
      cases h
      refine ⟨by simp, ha, fun k hk _ => ?_⟩
      rcases List.mem_cons.1 hk with e | hk
      · exact .inl e
      · exact .inr (hs.1 k hk)
    | false =>
      rw [List.find?_cons_of_neg (by simp [ha])] at h
      obtain ⟨h1, h2, h3⟩ := find_first hs.2 h
      refine ⟨by simp [h1], h2, fun k hk hso => ?_⟩
      rcases List.mem_cons.1 hk with e | hk
      · subst e; rw [ha] at hso; cases hso
      · exact h3 k hk hso
theorem find_no {so : List Int → Bool} {L : List (List Int)} (h : L.find? so = none) : ∀ k ∈ L, so k = false := by
  rw [List.find?_eq_none] at h
  intro k hk
  have := h k hk
  simpa using this
theorem searchFrom_spec (so : List Int → Bool) (n : Int) : ∀ (f k : Nat), (∀ l, searchFrom so n k f = some l → FirstOf (fun l => incr n l ∧ k ≤ l.length ∧ l.length < k + f ∧ so l = true) l) ∧ (searchFrom so n k f = none → ∀ l, incr n l → k ≤ l.length → l.length < k + f → so l = false)
  | 0, k => ⟨fun l h => by simp [searchFrom] at h, fun _ l _ h1 h2 => by omega⟩
  | f + 1, k => by
    cases hc : (choicesTo n k).find? so with
    | some l0 =>
      rw [search_some hc]
      refine ⟨fun l h => ?_, fun h => by cases h⟩
      cases h
      obtain ⟨h1, h2, h3⟩ := find_first (choicesTo_sorted n k) hc
      obtain ⟨h4, h5⟩ := (choicesTo_mem n k l0).1 h1
      refine ⟨⟨h5, by omega, by omega, h2⟩, fun x hx => ?_⟩
      obtain ⟨g1, g2, g3, g4⟩ := hx
      by_cases e : x.length = k
      · rcases h3 x ((choicesTo_mem n k x).2 ⟨e, g1⟩) g4 with h | h
        · exact .inl h
        · refine .inr ?_
          unfold fewer
          rw [if_pos (by omega)]
          exact h
      · refine .inr ?_
        unfold fewer
        rw [if_neg (by omega)]
        simp; omega
    | none =>
      rw [search_none hc]
      have hno := find_no hc
      obtain ⟨i1, i2⟩ := searchFrom_spec so n f (k + 1)
      have hk : ∀ l, incr n l → l.length = k → so l = false := fun l h1 h2 => hno l ((choicesTo_mem n k l).2 ⟨h2, h1⟩)
      refine ⟨fun l h => ?_, fun h l h1 h2 h3 => ?_⟩
      · have := i1 l h
        obtain ⟨⟨g1, g2, g3, g4⟩, g5⟩ := this
        refine ⟨⟨g1, by omega, by omega, g4⟩, fun x ⟨x1, x2, x3, x4⟩ => ?_⟩
        by_cases e : x.length = k
        · rw [hk x x1 e] at x4; cases x4
        · exact g5 x ⟨x1, by omega, by omega, x4⟩
      · by_cases e : l.length = k
        · exact hk l h1 e
        · exact i2 h l h1 (by omega) (by omega)
theorem incr_len {n : Nat} {l : List Int} (h : incr n l) : l.length ≤ n := by
  induction n generalizing l with
  | zero =>
    cases l with
    | nil => simp
    | cons a l => have := h.2 a (by simp); omega
  | succ n ih =>
    rcases nil_snoc l with rfl | ⟨l', x, rfl⟩
    · simp
    · obtain ⟨h3, h4, h5⟩ := incr_snoc.1 h
      have := ih (l := l') ⟨h3.1, fun y hy => ⟨(h3.2 y hy).1, by have := h4 y hy; omega⟩⟩
      simp; omega

/-- Bits as lists. -/
theorem bits_incr (s n : Nat) : incr n (bitsList s n) := by
  unfold bitsList incr
  refine ⟨?_, fun x hx => ?_⟩
  · rw [List.pairwise_map]
    refine List.Pairwise.filter _ ?_
    exact (List.pairwise_lt_range (n := n)).imp (fun h => by omega)
  · obtain ⟨i, hi, rfl⟩ := List.mem_map.1 hx
    have := (List.mem_filter.1 hi).1
    simp at this
    omega
theorem bits_mem (s n : Nat) (x : Int) : x ∈ bitsList s n ↔ 0 ≤ x ∧ x < n ∧ s.testBit x.toNat = true := by
  unfold bitsList
  rw [List.mem_map]
  constructor
  · rintro ⟨i, hi, rfl⟩
    obtain ⟨h1, h2⟩ := List.mem_filter.1 hi
    simp at h1
    exact ⟨by omega, by omega, by simpa using h2⟩
  · rintro ⟨h1, h2, h3⟩
    exact ⟨x.toNat, List.mem_filter.2 ⟨by simp; omega, h3⟩, by omega⟩
theorem incr_ext : ∀ {a b : List Int}, a.Pairwise (fun x y => x < y) → b.Pairwise (fun x y => x < y) → (∀ x, x ∈ a ↔ x ∈ b) → a = b
  | [], [], _, _, _ => rfl
  | [], y :: ys, _, _, h => by have := (h y).2 (by simp); simp at this
  | x :: xs, [], _, _, h => by have := (h x).1 (by simp); simp at this
  | x :: xs, y :: ys, ha, hb, h => by
    rw [List.pairwise_cons] at ha hb
    have e : x = y := by
      have h1 := (h x).1 (by simp)
      have h2 := (h y).2 (by simp)
      rcases List.mem_cons.1 h1 with e | h1
      · exact e
      · rcases List.mem_cons.1 h2 with e | h2
        · exact e.symm
        · have := ha.1 y h2; have := hb.1 x h1; omega
    subst e
    rw [incr_ext ha.2 hb.2 (fun z => ?_)]
    constructor
    · intro hz
      rcases List.mem_cons.1 ((h z).1 (by simp [hz])) with e | h1
      · subst e; have := ha.1 z hz; omega
      · exact h1
    · intro hz
      rcases List.mem_cons.1 ((h z).2 (by simp [hz])) with e | h1
      · subst e; have := hb.1 z hz; omega
      · exact h1
/-- A list as bits. -/
def setOf (l : List Int) : Nat := l.foldl (fun s x => s ||| (1 <<< x.toNat)) 0
theorem setOf_bit (l : List Int) (k : Nat) (hl : ∀ x ∈ l, 0 ≤ x) : (setOf l).testBit k = decide ((k : Int) ∈ l) := by
  unfold setOf
  suffices h : ∀ (l : List Int) (s : Nat), (∀ x ∈ l, 0 ≤ x) → (l.foldl (fun s x => s ||| (1 <<< x.toNat)) s).testBit k = (s.testBit k || decide ((k : Int) ∈ l)) from by
    have := h l 0 hl; simpa using this
  intro l
  induction l with
  | nil => intro s _; simp
  | cons a l ih =>
    intro s h
    rw [List.foldl_cons, ih _ (fun x hx => h x (by simp [hx])), Nat.testBit_or, Nat.one_shiftLeft, Nat.testBit_two_pow, Bool.or_assoc]
    congr 1
    have ha := h a (by simp)
    rw [Bool.eq_iff_iff]
    simp only [Bool.or_eq_true, decide_eq_true_eq, List.mem_cons]
    constructor
    · rintro (h | h)
      · exact .inl (by omega)
      · exact .inr h
    · rintro (h | h)
      · exact .inl (by omega)
      · exact .inr h
theorem setOf_lt (l : List Int) (n : Nat) (hl : ∀ x ∈ l, 0 ≤ x ∧ x < n) : setOf l < 2 ^ n := by
  unfold setOf
  suffices h : ∀ (l : List Int) (s : Nat), s < 2 ^ n → (∀ x ∈ l, 0 ≤ x ∧ x < n) → l.foldl (fun s x => s ||| (1 <<< x.toNat)) s < 2 ^ n from h l 0 (Nat.two_pow_pos n) hl
  intro l
  induction l with
  | nil => intro s hs _; exact hs
  | cons a l ih =>
    intro s hs h
    rw [List.foldl_cons]
    refine ih _ (Nat.or_lt_two_pow hs ?_) (fun x hx => h x (by simp [hx]))
    rw [Nat.one_shiftLeft]
    have := h a (by simp)
    exact Nat.pow_lt_pow_right (by omega) (by omega)
theorem setOf_bits {l : List Int} {n : Nat} (h : incr n l) : bitsList (setOf l) n = l := by
  refine incr_ext (bits_incr _ n).1 h.1 (fun x => ?_)
  rw [bits_mem]
  constructor
  · rintro ⟨h1, h2, h3⟩
    rw [setOf_bit l _ (fun x hx => (h.2 x hx).1)] at h3
    have e : ((x.toNat : Nat) : Int) = x := by omega
    rw [e] at h3
    simpa using h3
  · intro hx
    have := h.2 x hx
    refine ⟨this.1, this.2, ?_⟩
    rw [setOf_bit l _ (fun x hx => (h.2 x hx).1)]
    have e : ((x.toNat : Nat) : Int) = x := by omega
    rw [e]
    simpa using hx

/-- What fewest has found among the sets below k. -/
def Found (n : Nat) (so : Nat → Bool) (k : Nat) (best : List Int) (found : Bool) : Prop :=
  (found = false → best = [] ∧ ∀ s, s < k → so s = false) ∧ (found = true → FirstOf (fun l => ∃ s, s < k ∧ so s = true ∧ l = bitsList s n) best)
theorem found_zero (n : Nat) (so : Nat → Bool) : Found n so 0 [] false := ⟨fun _ => ⟨rfl, fun s h => by omega⟩, fun h => by cases h⟩
theorem found_skip {n k : Nat} {so : Nat → Bool} {best : List Int} (h : Found n so k best true) (hf : bitsList k n = best ∨ fewer best (bitsList k n) = true) : Found n so (k + 1) best true := by
  refine ⟨(fun h => by cases h), fun _ => ?_⟩
  obtain ⟨⟨s, h1, h2, h3⟩, h4⟩ := h.2 rfl
  refine ⟨⟨s, by omega, h2, h3⟩, fun x ⟨t, t1, t2, t3⟩ => ?_⟩
  by_cases e : t < k
  · exact h4 x ⟨t, e, t2, t3⟩
  · have : t = k := by omega
    subst this
    rw [t3]
    exact hf
theorem found_no {n k : Nat} {so : Nat → Bool} {best : List Int} {found : Bool} (h : Found n so k best found) (hs : so k = false) : Found n so (k + 1) best found := by
  refine ⟨fun e => ⟨(h.1 e).1, fun s hs' => ?_⟩, fun e => ?_⟩
  · by_cases e2 : s < k
    · exact (h.1 e).2 s e2
    · have : s = k := by omega
      subst this
      exact hs
  · obtain ⟨⟨s, h1, h2, h3⟩, h4⟩ := h.2 e
    refine ⟨⟨s, by omega, h2, h3⟩, fun x ⟨t, t1, t2, t3⟩ => ?_⟩
    by_cases e : t < k
    · exact h4 x ⟨t, e, t2, t3⟩
    · have : t = k := by omega
      subst this
      rw [hs] at t2; cases t2
theorem found_yes {n k : Nat} {so : Nat → Bool} {best : List Int} {found : Bool} (h : Found n so k best found) (hs : so k = true) (hf : found = true → fewer best (bitsList k n) = false) : Found n so (k + 1) (bitsList k n) true := by
  refine ⟨(fun e => by cases e), fun _ => ⟨⟨k, by omega, hs, rfl⟩, fun x ⟨t, t1, t2, t3⟩ => ?_⟩⟩
  by_cases e : t < k
  · cases found with
    | false => rw [(h.1 rfl).2 t e] at t2; cases t2
    | true =>
      have h1 := hf rfl
      rcases (h.2 rfl).2 x ⟨t, e, t2, t3⟩ with e2 | h2
      · cases h3 : fewer (bitsList k n) best with
        | true => rw [e2]; exact .inr h3
        | false => rw [e2]; exact .inl (fewer_total h1 h3)
      · cases h3 : fewer (bitsList k n) best with
        | true => exact .inr (fewer_trans h3 h2)
        | false => rw [← fewer_total h1 h3]; exact .inr h2
  · have : t = k := by omega
    subst this
    exact .inl t3
theorem hasB_bits (s n : Nat) (i : Nat) (h : i < n) : hasB (bitsList s n) i = s.testBit i := by
  rw [Bool.eq_iff_iff, hasB_iff, bits_mem]
  constructor
  · rintro ⟨_, _, h⟩; simpa using h
  · intro h2; exact ⟨by omega, by omega, by simpa using h2⟩

end Go.Proofs.Ytchnpekgmkhacaa
namespace Go.Proofs.Ytchnpekgmkhacaa
theorem incr_fullE {n : Nat} {l : List Int} (h : incr n l) (hl : l.length = n) : ∀ i, i < n → (i : Int) ∈ l := by
  induction n generalizing l with
  | zero => intro i hi; omega
  | succ n ih =>
    rcases nil_snoc l with rfl | ⟨l', x, rfl⟩
    · simp at hl
    · obtain ⟨h3, h4, h5⟩ := incr_snoc.1 h
      have hl' : l'.length = n := by simpa using hl
      have hi' : incr n l' := ⟨h3.1, fun y hy => ⟨(h3.2 y hy).1, by have := h4 y hy; omega⟩⟩
      intro i hi
      by_cases e : i < n
      · have := ih hi' hl' i e
        simp [this]
      · have hx : x = (n : Int) := by
          by_cases h0 : n = 0
          · subst h0; omega
          · have h1 := ih hi' hl' (n - 1) (by omega)
            have := h4 _ h1
            omega
        have : i = n := by omega
        subst this
        simp [hx]
/-- The first of the fewest, or all. -/
theorem first_or_all (so : List Int → Bool) (n : Nat) (hn : n ≤ 5) (hall : ∀ l, incr n l → l.length = n → so l = true) : FirstOf (fun l => incr n l ∧ so l = true) ((searchFrom so n 0 n).getD ((choicesTo n n).headD [])) := by
  obtain ⟨s1, s2⟩ := searchFrom_spec so n n 0
  cases hs : searchFrom so (n : Int) 0 n with
  | some l =>
    have h := s1 l hs
    refine ⟨⟨h.1.1, h.1.2.2.2⟩, fun x ⟨x1, x2⟩ => ?_⟩
    have hxl := incr_len x1
    by_cases e : x.length < n
    · exact h.2 x ⟨x1, by omega, by omega, x2⟩
    · refine .inr ?_
      have := h.1.2.2.1
      unfold fewer
      rw [if_neg (by show ¬ l.length = x.length; omega)]
      show decide (l.length < x.length) = true
      simp; omega
  | none =>
    have hn' := s2 hs
    have hc := choices_all n hn
    have hsort := choicesTo_sorted (n : Int) n
    have hmem := choicesTo_mem (n : Int) n
    generalize choicesTo (n : Int) n = L at hc hsort hmem
    cases L with
    | nil => simp at hc
    | cons a L =>
      obtain ⟨a1, a2⟩ := (hmem a).1 (by simp)
      refine ⟨⟨a2, hall a a2 a1⟩, fun x ⟨x1, x2⟩ => ?_⟩
      show x = a ∨ fewer a x = true
      have hxl := incr_len x1
      by_cases e : x.length < n
      · rw [hn' x x1 (by omega) (by omega)] at x2; cases x2
      · have hx : x ∈ a :: L := (hmem x).2 ⟨by omega, x1⟩
        rcases List.mem_cons.1 hx with e2 | h2
        · exact .inl e2
        · refine .inr ?_
          unfold fewer
          rw [if_pos (by omega)]
          exact (List.pairwise_cons.1 hsort).1 x h2
/-- The first of the fewest of all. -/
theorem first_all (so : List Int → Bool) (n : Nat) : (∀ l, searchFrom so n 0 (n + 1) = some l → FirstOf (fun l => incr n l ∧ so l = true) l) ∧ (searchFrom so n 0 (n + 1) = none → ∀ l, incr n l → so l = false) := by
  obtain ⟨s1, s2⟩ := searchFrom_spec so n (n + 1) 0
  refine ⟨fun l hl => ?_, fun hn l hl => ?_⟩
  · have h := s1 l hl
    exact ⟨⟨h.1.1, h.1.2.2.2⟩, fun x ⟨x1, x2⟩ => h.2 x ⟨x1, by omega, by have := incr_len x1; omega, x2⟩⟩
  · exact s2 hn l hl (by omega) (by have := incr_len hl; omega)
theorem found_iff (so : List Int → Bool) (n : Nat) (l : List Int) : (∃ s, s < 2 ^ n ∧ so (bitsList s n) = true ∧ l = bitsList s n) ↔ (incr n l ∧ so l = true) := by
  constructor
  · rintro ⟨s, _, h2, rfl⟩; exact ⟨bits_incr _ _, h2⟩
  · rintro ⟨h1, h2⟩; exact ⟨setOf l, setOf_lt l _ h1.2, by rw [setOf_bits h1]; exact h2, (setOf_bits h1).symm⟩
theorem found_first {so : List Int → Bool} {n : Nat} {w best : List Int} {found : Bool} (hw : FirstOf (fun l => incr n l ∧ so l = true) w) (h : Found n (fun s => so (bitsList s n)) (2 ^ n) best found) : found = true ∧ best = w := by
  cases found with
  | true => exact ⟨rfl, firstOf_one (firstOf_iff (found_iff so n) (h.2 rfl)) hw⟩
  | false =>
    have := (h.1 rfl).2 (setOf w) (setOf_lt _ _ hw.1.1.2)
    simp only at this
    rw [setOf_bits hw.1.1, hw.1.2] at this
    cases this
theorem found_search {so : List Int → Bool} {n : Nat} {best : List Int} {found : Bool} (h : Found n (fun s => so (bitsList s n)) (2 ^ n) best found) : searchFrom so n 0 (n + 1) = if found then some best else none := by
  obtain ⟨s1, s2⟩ := first_all so n
  cases found with
  | true =>
    have hf := firstOf_iff (found_iff so n) (h.2 rfl)
    cases hs : searchFrom so (n : Int) 0 (n + 1) with
    | some l => rw [firstOf_one (s1 l hs) hf]; rfl
    | none => have := s2 hs best hf.1.1; rw [hf.1.2] at this; cases this
  | false =>
    cases hs : searchFrom so (n : Int) 0 (n + 1) with
    | none => rfl
    | some l =>
      have hf := s1 l hs
      have := (h.1 rfl).2 (setOf l) (setOf_lt _ _ hf.1.1.2)
      simp only at this
      rw [setOf_bits hf.1.1, hf.1.2] at this
      cases this
/-- 'Rising' of ascending numbers. -/
theorem risingFrom_incr (below : Int) : ∀ (l : List Int) (last : Int), l.Pairwise (fun a b => a < b) → (∀ x ∈ l, last < x ∧ x < below) → risingFrom last below l = true
  | [], _, _, _ => rfl
  | x :: xs, last, hp, h => by
    rw [List.pairwise_cons] at hp
    have hx := h x (by simp)
    rw [risingFrom, risingFrom_incr below xs x hp.2 fun y hy => ⟨hp.1 y hy, (h y (by simp [hy])).2⟩]
    simp [hx.1, hx.2]
theorem rising_incr {n : Int} {l : List Int} (h : incr n l) : rising l n = true :=
  risingFrom_incr n l (-1) h.1 fun x hx => by have := h.2 x hx; omega
/-- The numbers below j at which a bit is. -/
def idxTo (b : Int) : Nat → List Int
  | 0 => []
  | j + 1 => idxTo b j ++ (if bitB b j then [(j : Int)] else [])
theorem idxTo_yes {b : Int} {j : Nat} (hb : bitB b j = true) : idxTo b (j + 1) = idxTo b j ++ [(j : Int)] := by rw [idxTo, if_pos hb]
theorem idxTo_no {b : Int} {j : Nat} (hb : bitB b j = false) : idxTo b (j + 1) = idxTo b j := by rw [idxTo, if_neg (by simp [hb])]; simp
theorem idxTo_len (b : Int) : ∀ j, (idxTo b j).length ≤ j
  | 0 => by simp [idxTo]
  | j + 1 => by
    have := idxTo_len b j
    rw [idxTo, List.length_append]
    split <;> simp <;> omega
theorem idxTo_incr (b : Int) : ∀ j : Nat, incr j (idxTo b j)
  | 0 => incr_nil _
  | j + 1 => by
    have h := idxTo_incr b j
    have h' : incr ((j + 1 : Nat) : Int) (idxTo b j) := ⟨h.1, fun x hx => by have := h.2 x hx; omega⟩
    rw [idxTo]
    split
    · exact incr_snoc.2 ⟨h', fun y hy => (h.2 y hy).2, by omega, by omega⟩
    · simpa using h'
end Go.Proofs.Ytchnpekgmkhacaa
