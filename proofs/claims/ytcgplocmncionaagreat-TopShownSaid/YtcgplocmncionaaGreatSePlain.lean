/- What is proved here: plain Lean functions for the small helpers of the references (escribanoref01), and plain facts on them. No program. No condition. -/
/- What is proved here: plain Lean functions for checks part by part, and for searches of lists; plain facts on them. No program. No condition. -/
/- What is proved here: plain facts: the first of the shortest lists of numbers that are so, however it is sought. No program. No condition. -/
/- What is proved here: plain Lean functions for layer 12 (secret), as the reference has them. No program. No condition. -/
/- What is proved here: plain facts: what is told from day to day by leaks: so many rounds as writers reach the greatest days that no leak can lower, however one gets there. No program. No condition. -/

set_option linter.unusedVariables false
set_option linter.unusedSimpArgs false
namespace Go.Proofs.YtcgplocmncionaaGreat

/-- 'In'. -/
def inB (n lo hi : Int) : Bool := decide (lo ≤ n) && decide (n ≤ hi)
theorem inB_iff {n lo hi : Int} : inB n lo hi = true ↔ lo ≤ n ∧ n ≤ hi := by simp [inB]
theorem inB_no {n lo hi : Int} : inB n lo hi = false ↔ n < lo ∨ hi < n := by
  cases h : inB n lo hi
  · have : ¬ (lo ≤ n ∧ n ≤ hi) := fun h' => by rw [inB_iff.2 h'] at h; cases h
    simp; omega
  · have := inB_iff.1 h
    simp; omega

/-- 'Has'. -/
def hasB (l : List Int) (n : Int) : Bool := l.any (· == n)
theorem hasB_iff {l : List Int} {n : Int} : hasB l n = true ↔ n ∈ l := by
  simp [hasB]
theorem hasB_snoc (l : List Int) (k : Nat) (h : k < l.length) (n : Int) : hasB (l.take (k+1)) n = (hasB (l.take k) n || (l[k] == n)) := by
  unfold hasB
  rw [List.take_succ_eq_append_getElem h, List.any_append]
  simp

/-- 'Less': lists of numbers, the first number that differs decides. -/
def less : List Int → List Int → Bool
  | _, [] => false
  | [], _ :: _ => true
  | x :: xs, y :: ys => if x = y then less xs ys else decide (x < y)
theorem less_drop (a b : List Int) (k : Nat) (ha : k < a.length) (hb : k < b.length) :
    less (a.drop k) (b.drop k) = if a[k] = b[k] then less (a.drop (k+1)) (b.drop (k+1)) else decide (a[k] < b[k]) := by
  rw [List.drop_eq_getElem_cons ha, List.drop_eq_getElem_cons hb, less]
theorem less_end (a b : List Int) (k : Nat) (hb : b.length ≤ k) : less (a.drop k) (b.drop k) = false := by
  rw [List.drop_of_length_le hb]; cases a.drop k <;> rfl
theorem less_short (a b : List Int) (k : Nat) (ha : a.length ≤ k) (hb : k < b.length) : less (a.drop k) (b.drop k) = true := by
  rw [List.drop_of_length_le ha, List.drop_eq_getElem_cons hb]; rfl
theorem less_irrefl (a : List Int) : less a a = false := by
  induction a with
  | nil => rfl
  | cons x xs ih => simp [less, ih]
theorem less_total : ∀ (a b : List Int), a.length = b.length → less a b = false → less b a = false → a = b
  | [], [], _, _, _ => rfl
  | x :: xs, y :: ys, hl, h1, h2 => by
    simp only [less] at h1 h2
    by_cases e : x = y
    · subst e
      simp only [if_true] at h1 h2
      rw [less_total xs ys (by simpa using hl) h1 h2]
    · rw [if_neg e] at h1
      rw [if_neg (fun h => e h.symm)] at h2
      simp at h1 h2
      omega
theorem less_asymm : ∀ (a b : List Int), less a b = true → less b a = false
  | [], [], h => by simp [less] at h
  | [], y :: ys, _ => rfl
  | x :: xs, [], h => by simp [less] at h
  | x :: xs, y :: ys, h => by
    simp only [less] at h ⊢
    by_cases e : x = y
    · subst e
      simp only [if_true] at h ⊢
      exact less_asymm xs ys h
    · rw [if_neg e] at h
      rw [if_neg (fun h => e h.symm)]
      simp at h ⊢
      omega
theorem less_trans : ∀ (a b c : List Int), less a b = true → less b c = true → less a c = true
  | [], [], _, h, _ => by simp [less] at h
  | x :: xs, [], _, h, _ => by simp [less] at h
  | _, y :: ys, [], _, h => by simp [less] at h
  | [], y :: ys, z :: zs, _, _ => rfl
  | x :: xs, y :: ys, z :: zs, h, k => by
    simp only [less] at h k ⊢
    by_cases e : x = y
    · subst e
      simp only [if_true] at h
      by_cases f : x = z
      · subst f
        simp only [if_true] at k ⊢
        exact less_trans xs ys zs h k
      · rw [if_neg f] at k ⊢
        exact k
    · rw [if_neg e] at h
      simp at h
      by_cases f : y = z
      · subst f
        rw [if_neg e]
        simpa using h
      · rw [if_neg f] at k
        simp at k
        rw [if_neg (by omega)]
        simp
        omega

/-- 'Ints'. -/
def intsB (a b : List Int) : Bool := decide (a.length = b.length) && !less a b && !less b a
theorem intsB_iff {a b : List Int} : intsB a b = true ↔ a = b := by
  constructor
  · intro h
    simp [intsB] at h
    exact less_total a b h.1.1 h.1.2 h.2
  · rintro rfl
    simp [intsB, less_irrefl]

/-- 'Fewer'. -/
def fewer (a b : List Int) : Bool := if a.length = b.length then less a b else decide (a.length < b.length)

/-- 'Rising': ascending numbers from behind 'last' to below 'below'. -/
def risingFrom (last below : Int) : List Int → Bool
  | [] => true
  | x :: xs => decide (last < x) && decide (x < below) && risingFrom x below xs
def rising (l : List Int) (below : Int) : Bool := risingFrom (-1) below l

/-- 'Bit'. -/
def bitB (n : Int) (k : Nat) : Bool := n.toNat.testBit k
theorem bit_zero (n : Int) : bitB n 0 = decide (n.tmod 2 = 1) := by
  unfold bitB
  rw [Nat.testBit_zero]
  by_cases h : 0 ≤ n
  · obtain ⟨m, rfl⟩ := Int.eq_ofNat_of_zero_le h
    simp only [Int.toNat_natCast]
    have : ((m : Int).tmod 2) = ((m % 2 : Nat) : Int) := by rw [Int.tmod_eq_emod_of_nonneg (by omega)]; omega
    rw [this]
    by_cases h : m % 2 = 1 <;> simp [h] <;> omega
  · have h0 : n.toNat = 0 := by omega
    rw [h0]
    have : n.tmod 2 ≤ 0 := by
      have := Int.tmod_nonneg 2 (a := -n) (by omega)
      rw [Int.neg_tmod] at this
      omega
    simp
    omega
theorem bit_succ (n : Int) (k : Nat) : bitB n (k+1) = bitB (n.tdiv 2) k := by
  unfold bitB
  by_cases h : 0 ≤ n
  · obtain ⟨m, rfl⟩ := Int.eq_ofNat_of_zero_le h
    have : ((m : Int).tdiv 2) = ((m / 2 : Nat) : Int) := by rw [Int.tdiv_eq_ediv_of_nonneg (by omega)]; omega
    rw [this]
    simp only [Int.toNat_natCast, Nat.testBit_succ]
  · have h0 : n.toNat = 0 := by omega
    have h1 : (n.tdiv 2).toNat = 0 := by
      have : n.tdiv 2 ≤ 0 := by
        have := Int.tdiv_nonneg (a := -n) (b := 2) (by omega) (by omega)
        rw [Int.neg_tdiv] at this
        omega
      omega
    rw [h0, h1]
    simp

theorem half_bd (x : Int) (h1 : -9223372036854775808 ≤ x) (h2 : x ≤ 9223372036854775807) : -9223372036854775808 ≤ x.tdiv 2 ∧ x.tdiv 2 ≤ 9223372036854775807 := by
  by_cases h : 0 ≤ x
  · rw [Int.tdiv_eq_ediv_of_nonneg h]
    omega
  · have := Int.neg_tdiv x 2
    rw [Int.tdiv_eq_ediv_of_nonneg (show 0 ≤ -x by omega)] at this
    omega

/-- 'Where'. -/
def whereFrom (l : List ByteArray) (s : ByteArray) (k : Nat) : Int :=
  match l with
  | [] => -1
  | x :: xs => if x = s then k else whereFrom xs s (k+1)
def whereI (l : List ByteArray) (s : ByteArray) : Int := whereFrom l s 0

/-- A name's bytes: from 'a' to 'z', or, not at the beginning, a dot or a digit. -/
def low (c : UInt8) : Bool := decide (97 ≤ c.toNat) && decide (c.toNat ≤ 122)
def late (c : UInt8) : Bool := c.toNat == 46 || (decide (48 ≤ c.toNat) && decide (c.toNat ≤ 57))
def nameFrom (k : Nat) : List UInt8 → Bool
  | [] => true
  | c :: cs => (low c || (decide (0 < k) && late c)) && nameFrom (k+1) cs
def nameB (s : ByteArray) : Bool := decide (1 ≤ s.size) && decide (s.size ≤ 16) && nameFrom 0 s.data.toList

/-- 'Fresh': the error of a name that must not be one of some before it (6: no name; 5: it is there already). -/
def hasS (l : List ByteArray) (s : ByteArray) : Bool := l.any fun x => decide (x = s)
def fresh (s : ByteArray) (before : List ByteArray) : Int := if nameB s then (if hasS before s then 5 else 0) else 6

/-- 'Choices', round by round. -/
def choiceStep (below : Int) (first : Bool) (l : List Int) : List (List Int) :=
  let least : Int := if first then 0 else l.getLast?.getD 0 + 1
  (List.range (below - least).toNat).map fun (j : Nat) => l ++ [least + (j : Int)]
def choicesTo (below : Int) : Nat → List (List Int)
  | 0 => [[]]
  | i + 1 => (choicesTo below i).flatMap (choiceStep below (i == 0))
end Go.Proofs.YtcgplocmncionaaGreat
namespace Go.Proofs.YtcgplocmncionaaGreat
/-- The first index below n at which f is not 0. -/
def firstErr (n : Nat) (f : Nat → Int) : Option Nat := (List.range n).find? fun i => f i != 0
theorem firstErr_none {n : Nat} {f : Nat → Int} (h : ∀ i, i < n → f i = 0) : firstErr n f = none := by
  unfold firstErr
  rw [List.find?_eq_none]
  intro i hi
  simp at hi
  simp [h i hi]
theorem firstErr_some {n k : Nat} {f : Nat → Int} (hk : k < n) (h : ∀ i, i < k → f i = 0) (hf : f k ≠ 0) : firstErr n f = some k := by
  unfold firstErr
  rw [List.find?_eq_some_iff_append]
  refine ⟨by simpa using hf, List.range k, (List.range' (k+1) (n - k - 1)), ?_, ?_⟩
  · rw [List.range_eq_range', List.range_eq_range', ← List.range'_succ, show n = k + (n - k - 1 + 1) from by omega, ← List.range'_append]
    congr 2 <;> omega
  · intro i hi
    simp at hi
    simp [h i hi]
theorem firstErr_zero {n : Nat} {f : Nat → Int} (h : firstErr n f = none) : ∀ i, i < n → f i = 0 := by
  intro i hi
  unfold firstErr at h
  rw [List.find?_eq_none] at h
  have := h i (by simpa using hi)
  simpa using this

/-- The bits of so many claimants. -/
def allBits (n : Nat) : Int := 2 ^ n - 1

/-- One part of the check: too many (3), or the first with an error. -/
def checkPart (part : Int) (len most : Nat) (f : Nat → Int) (next : Int × Int × Int) : Int × Int × Int :=
  if most < len then (part, 0, 3) else match firstErr len f with | some i => (part, i, f i) | none => next
theorem checkPart_long {part : Int} {len most : Nat} {f : Nat → Int} {next : Int × Int × Int} (h : most < len) : checkPart part len most f next = (part, 0, 3) := by unfold checkPart; rw [if_pos h]
theorem checkPart_err {part : Int} {len most k : Nat} {f : Nat → Int} {next : Int × Int × Int} (h : len ≤ most) (hk : k < len) (h0 : ∀ i, i < k → f i = 0) (hf : f k ≠ 0) : checkPart part len most f next = (part, (k : Int), f k) := by
  unfold checkPart; rw [if_neg (by omega), firstErr_some hk h0 hf]
theorem checkPart_ok {part : Int} {len most : Nat} {f : Nat → Int} {next : Int × Int × Int} (h : len ≤ most) (h0 : ∀ i, i < len → f i = 0) : checkPart part len most f next = next := by
  unfold checkPart; rw [if_neg (by omega), firstErr_none h0]

/-- The index and the error of the first thing with one, of at most so many. -/
def failOf (n most : Nat) (f : Nat → Int) : Int × Int := if most < n then (0, 3) else match firstErr n f with | some i => ((i : Int), f i) | none => (0, 0)
theorem failOf_long {n most : Nat} {f : Nat → Int} (h : most < n) : failOf n most f = (0, 3) := if_pos h
theorem failOf_err {n most k : Nat} {f : Nat → Int} (h : n ≤ most) (hk : k < n) (h0 : ∀ i, i < k → f i = 0) (hf : f k ≠ 0) : failOf n most f = ((k : Int), f k) := by
  unfold failOf; rw [if_neg (by omega), firstErr_some hk h0 hf]
theorem failOf_ok {n most : Nat} {f : Nat → Int} (h : n ≤ most) (h0 : ∀ i, i < n → f i = 0) : failOf n most f = (0, 0) := by
  unfold failOf; rw [if_neg (by omega), firstErr_none h0]

theorem checkPart_zero {part : Int} {len most : Nat} {f : Nat → Int} {next : Int × Int × Int} (h : (checkPart part len most f next).2.2 = 0) : len ≤ most ∧ (∀ i, i < len → f i = 0) ∧ next.2.2 = 0 := by
  unfold checkPart at h
  by_cases hl : most < len
  · rw [if_pos hl] at h; simp at h
  · rw [if_neg hl] at h
    cases hf : firstErr len f with
    | none => rw [hf] at h; exact ⟨by omega, firstErr_zero hf, h⟩
    | some i =>
      rw [hf] at h
      have hi : i ∈ List.range len ∧ (f i != 0) = true := by
        unfold firstErr at hf
        have h2 := List.find?_some (p := fun i => f i != 0) hf
        exact ⟨List.mem_of_find?_eq_some hf, h2⟩
      simp at h
      simp [h] at hi

/-- The first of lists that is so, the fewest numbers first. -/
def searchOne (so : List Int → Bool) (below : Int) (k : Nat) : Option (List Int) := (choicesTo below k).find? so
def searchFrom (so : List Int → Bool) (below : Int) (k : Nat) : Nat → Option (List Int)
  | 0 => none
  | fuel + 1 => match searchOne so below k with | some l => some l | none => searchFrom so below (k+1) fuel
theorem none_succ {α : Type} {so : α → Bool} {L : List α} {k : Nat} (h0 : ∀ j (_ : j < k) (h : j < L.length), so L[j] = false) (hk : k < L.length) (h : so L[k] = false) : ∀ j (_ : j < k + 1) (h : j < L.length), so L[j] = false := by
  intro j hj h2
  by_cases hjk : j < k
  · exact h0 j hjk h2
  · have : j = k := by omega
    subst this
    exact h
theorem any_hit {α : Type} {so : α → Bool} {L : List α} {i : Nat} (hi : i < L.length) (h : so L[i] = true) : L.any so = true := by
  rw [List.any_eq_true]; exact ⟨_, List.getElem_mem hi, h⟩
theorem any_none {α : Type} {so : α → Bool} {L : List α} (h : ∀ i (_ : i < L.length), so L[i] = false) : L.any so = false := by
  rw [List.any_eq_false]
  intro x hx
  obtain ⟨i, hi, rfl⟩ := List.getElem_of_mem hx
  simp [h i hi]
theorem find_hit {α : Type} {so : α → Bool} {L : List α} {i : Nat} (hi : i < L.length) (h0 : ∀ j (_ : j < i) (h : j < L.length), so L[j] = false) (h : so L[i] = true) : L.find? so = some L[i] := by
  rw [List.find?_eq_some_iff_append]
  refine ⟨h, L.take i, L.drop (i+1), ?_, ?_⟩
  · rw [← List.drop_eq_getElem_cons hi, List.take_append_drop]
  · intro x hx
    obtain ⟨j, hj, rfl⟩ := List.getElem_of_mem hx
    rw [List.length_take] at hj
    simp [h0 j (by omega) (by omega)]
theorem find_none {α : Type} {so : α → Bool} {L : List α} (h : ∀ i (_ : i < L.length), so L[i] = false) : L.find? so = none := by
  rw [List.find?_eq_none]
  intro x hx
  obtain ⟨i, hi, rfl⟩ := List.getElem_of_mem hx
  simp [h i hi]

theorem search_none {so : List Int → Bool} {n : Int} {k f : Nat} (h : (choicesTo n k).find? so = none) : searchFrom so n k (f + 1) = searchFrom so n (k + 1) f := by
  rw [searchFrom, searchOne, h]
theorem search_some {so : List Int → Bool} {n : Int} {k f : Nat} {l : List Int} (h : (choicesTo n k).find? so = some l) : searchFrom so n k (f + 1) = some l := by
  rw [searchFrom, searchOne, h]
theorem choices_all (n : Nat) (h : n ≤ 5) : 0 < (choicesTo n n).length := by
  rcases n with _ | _ | _ | _ | _ | _ | n
  · decide
  · decide
  · decide
  · decide
  · decide
  · decide
  · omega
end Go.Proofs.YtcgplocmncionaaGreat
namespace Go.Proofs.YtcgplocmncionaaGreat
theorem less_snoc : ∀ (s t : List Int) (c d : Int), s.length = t.length → less s t = true → less (s ++ [c]) (t ++ [d]) = true
  | [], [], _, _, _, h => by simp [less] at h
  | x :: s, y :: t, c, d, hl, h => by
    simp only [List.cons_append, less] at h ⊢
    by_cases e : x = y
    · subst e
      simp only [if_true] at h ⊢
      exact less_snoc s t c d (by simpa using hl) h
    · rw [if_neg e] at h ⊢
      exact h
/-- The numbers of a set, as bits, below n. -/
def bitsList (s n : Nat) : List Int := ((List.range n).filter fun i => s.testBit i).map fun (i : Nat) => (i : Int)


/-- Ascending numbers from 0 to below n. -/
def incr (n : Int) (l : List Int) : Prop := l.Pairwise (fun a b => a < b) ∧ ∀ x ∈ l, 0 ≤ x ∧ x < n
theorem nil_snoc (l : List Int) : l = [] ∨ ∃ l' x, l = l' ++ [x] := by
  rcases List.eq_nil_or_concat l with h | ⟨l', x, h⟩
  · exact .inl h
  · exact .inr ⟨l', x, by rw [h, List.concat_eq_append]⟩
theorem incr_nil (n : Int) : incr n [] := ⟨List.Pairwise.nil, by simp⟩
theorem incr_snoc {n : Int} {l : List Int} {x : Int} : incr n (l ++ [x]) ↔ incr n l ∧ (∀ y ∈ l, y < x) ∧ 0 ≤ x ∧ x < n := by
  unfold incr
  rw [List.pairwise_append]
  constructor
  · rintro ⟨⟨h1, _, h3⟩, h4⟩
    exact ⟨⟨h1, fun y hy => h4 y (by simp [hy])⟩, fun y hy => h3 y hy x (by simp), h4 x (by simp)⟩
  · rintro ⟨⟨h1, h2⟩, h3, h4⟩
    refine ⟨⟨h1, by simp, fun a ha b hb => by simp at hb; subst hb; exact h3 a ha⟩, fun y hy => ?_⟩
    rcases List.mem_append.1 hy with hy | hy
    · exact h2 y hy
    · simp at hy; subst hy; exact h4
theorem last_max {l : List Int} (h : l.Pairwise (fun a b => a < b)) (y : Int) (hy : y ∈ l) : y ≤ l.getLast?.getD 0 := by
  rcases nil_snoc l with rfl | ⟨l', x, rfl⟩
  · simp at hy
  · rw [List.getLast?_append]
    simp only [List.getLast?_singleton, Option.some_or, Option.getD_some]
    rcases List.mem_append.1 hy with hy | hy
    · rw [List.pairwise_append] at h
      exact Int.le_of_lt (h.2.2 y hy x (by simp))
    · simp at hy; omega
theorem last_mem {l : List Int} (h : 0 < l.length) : l.getLast?.getD 0 ∈ l := by
  rcases nil_snoc l with rfl | ⟨l', x, rfl⟩
  · simp at h
  · rw [List.getLast?_append]; simp
theorem choicesTo_mem (n : Int) (k : Nat) : ∀ l, l ∈ choicesTo n k ↔ l.length = k ∧ incr n l := by
  induction k with
  | zero =>
    intro l
    simp only [choicesTo, List.mem_singleton, List.length_eq_zero_iff]
    exact ⟨fun h => ⟨h, h ▸ incr_nil n⟩, fun h => h.1⟩
  | succ k ih =>
    intro l
    rw [choicesTo, List.mem_flatMap]
    constructor
    · rintro ⟨l', hl', hs⟩
      obtain ⟨h1, h2⟩ := (ih l').1 hl'
      unfold choiceStep at hs
      obtain ⟨j, hj, rfl⟩ := List.mem_map.1 hs
      have hj' := List.mem_range.1 hj
      refine ⟨by simp [h1], incr_snoc.2 ⟨h2, ?_, ?_⟩⟩
      · intro y hy
        have := last_max h2.1 y hy
        have hk : k ≠ 0 := fun e => by subst e; rw [List.eq_nil_of_length_eq_zero h1] at hy; simp at hy
        simp only [beq_iff_eq, hk, if_false]
        omega
      · by_cases hk : k = 0
        · subst hk
          simp at hj' ⊢
          omega
        · simp only [beq_iff_eq, hk, if_false] at hj' ⊢
          have := h2.2 _ (last_mem (l := l') (by omega))
          omega
    · rintro ⟨h1, h2⟩
      rcases nil_snoc l with rfl | ⟨l', x, rfl⟩
      · simp at h1
      · obtain ⟨h3, h4, h5⟩ := incr_snoc.1 h2
        have hl' : l'.length = k := by simpa using h1
        refine ⟨l', (ih l').2 ⟨hl', h3⟩, ?_⟩
        unfold choiceStep
        by_cases hk : k = 0
        · subst hk
          refine List.mem_map.2 ⟨x.toNat, ?_, ?_⟩
          · simp; omega
          · have : (x.toNat : Int) = x := by omega
            simp [this]
        · have hlast := h4 _ (last_mem (l := l') (by omega))
          refine List.mem_map.2 ⟨(x - (l'.getLast?.getD 0 + 1)).toNat, ?_, ?_⟩
          · simp only [beq_iff_eq, hk, if_false, List.mem_range]; omega
          · have : l'.getLast?.getD 0 + 1 + ((x - (l'.getLast?.getD 0 + 1)).toNat : Int) = x := by omega
            simp only [beq_iff_eq, hk, if_false, this]
theorem less_snoc_eq (t : List Int) (c d : Int) : less (t ++ [c]) (t ++ [d]) = decide (c < d) := by
  induction t with
  | nil =>
    simp only [List.nil_append, less]
    by_cases e : c = d
    · subst e; simp
    · rw [if_neg e]
  | cons x t ih => simp only [List.cons_append, less, if_true]; exact ih
theorem choicesTo_sorted (n : Int) (k : Nat) : (choicesTo n k).Pairwise (fun a b => less a b = true) := by
  induction k with
  | zero => simp [choicesTo]
  | succ k ih =>
    rw [choicesTo, List.pairwise_flatMap]
    refine ⟨fun t _ => ?_, ih.imp_of_mem ?_⟩
    · unfold choiceStep
      rw [List.pairwise_map]
      refine (List.pairwise_lt_range (n := _)).imp ?_
      intro a b h
      rw [less_snoc_eq]
      simp; omega
    · intro a b ha hb hab x hx y hy
      unfold choiceStep at hx hy
      obtain ⟨i, _, rfl⟩ := List.mem_map.1 hx
      obtain ⟨j, _, rfl⟩ := List.mem_map.1 hy
      exact less_snoc a b _ _ (by rw [((choicesTo_mem n k a).1 ha).1, ((choicesTo_mem n k b).1 hb).1]) hab

/-- The first of the shortest ones. -/
def FirstOf (P : List Int → Prop) (l : List Int) : Prop := P l ∧ ∀ k, P k → k = l ∨ fewer l k = true
theorem fewer_asymm {a b : List Int} (h : fewer a b = true) : fewer b a = false := by
  unfold fewer at h ⊢
  by_cases e : a.length = b.length
  · rw [if_pos e] at h; rw [if_pos e.symm]; exact less_asymm _ _ h
  · rw [if_neg e] at h; rw [if_neg (fun h => e h.symm)]
    simp at h ⊢; omega
theorem fewer_trans {a b c : List Int} (h : fewer a b = true) (k : fewer b c = true) : fewer a c = true := by
  unfold fewer at h k ⊢
  by_cases e : a.length = b.length
  · rw [if_pos e] at h
    by_cases f : b.length = c.length
    · rw [if_pos f] at k; rw [if_pos (e.trans f)]; exact less_trans _ _ _ h k
    · rw [if_neg f] at k; rw [if_neg (by omega)]; simp at k ⊢; omega
  · rw [if_neg e] at h
    simp at h
    by_cases f : b.length = c.length
    · rw [if_pos f] at k; rw [if_neg (by omega)]; simp; omega
    · rw [if_neg f] at k; simp at k; rw [if_neg (by omega)]; simp; omega
theorem fewer_total {a b : List Int} (h : fewer a b = false) (h2 : fewer b a = false) : a = b := by
  unfold fewer at h h2
  by_cases e : a.length = b.length
  · rw [if_pos e] at h; rw [if_pos e.symm] at h2; exact less_total _ _ e h h2
  · rw [if_neg e] at h; rw [if_neg (fun h => e h.symm)] at h2
    simp at h h2; omega
theorem firstOf_one {P : List Int → Prop} {a b : List Int} (h : FirstOf P a) (k : FirstOf P b) : a = b := by
  rcases h.2 b k.1 with e | h1
  · exact e.symm
  · rcases k.2 a h.1 with e | h2
    · exact e
    · rw [fewer_asymm h1] at h2; cases h2
theorem firstOf_iff {P Q : List Int → Prop} (h : ∀ l, P l ↔ Q l) {l : List Int} (k : FirstOf P l) : FirstOf Q l := ⟨(h l).1 k.1, fun x hx => k.2 x ((h x).2 hx)⟩

theorem find_first {so : List Int → Bool} : ∀ {L : List (List Int)}, L.Pairwise (fun a b => less a b = true) → ∀ {l}, L.find? so = some l → l ∈ L ∧ so l = true ∧ ∀ k ∈ L, so k = true → k = l ∨ less l k = true
  | [], _, l, h => by simp at h
  | a :: L, hs, l, h => by
    rw [List.pairwise_cons] at hs
    cases ha : so a with
    | true =>
      rw [List.find?_cons_of_pos ha] at h
      cases h
      refine ⟨by simp, ha, fun k hk _ => ?_⟩
      rcases List.mem_cons.1 hk with e | hk
      · exact .inl e
      · exact .inr (hs.1 k hk)
    | false =>
      rw [List.find?_cons_of_neg (by simp [ha])] at h
      obtain ⟨h1, h2, h3⟩ := find_first hs.2 h
      refine ⟨by simp [h1], h2, fun k hk hso => ?_⟩
      rcases List.mem_cons.1 hk with e | hk
      · subst e; rw [ha] at hso; cases hso
      · exact h3 k hk hso
theorem find_no {so : List Int → Bool} {L : List (List Int)} (h : L.find? so = none) : ∀ k ∈ L, so k = false := by
  rw [List.find?_eq_none] at h
  intro k hk
  have := h k hk
  simpa using this
theorem searchFrom_spec (so : List Int → Bool) (n : Int) : ∀ (f k : Nat), (∀ l, searchFrom so n k f = some l → FirstOf (fun l => incr n l ∧ k ≤ l.length ∧ l.length < k + f ∧ so l = true) l) ∧ (searchFrom so n k f = none → ∀ l, incr n l → k ≤ l.length → l.length < k + f → so l = false)
  | 0, k => ⟨fun l h => by simp [searchFrom] at h, fun _ l _ h1 h2 => by omega⟩
  | f + 1, k => by
    cases hc : (choicesTo n k).find? so with
    | some l0 =>
      rw [search_some hc]
      refine ⟨fun l h => ?_, fun h => by cases h⟩
      cases h
      obtain ⟨h1, h2, h3⟩ := find_first (choicesTo_sorted n k) hc
      obtain ⟨h4, h5⟩ := (choicesTo_mem n k l0).1 h1
      refine ⟨⟨h5, by omega, by omega, h2⟩, fun x hx => ?_⟩
      obtain ⟨g1, g2, g3, g4⟩ := hx
      by_cases e : x.length = k
      · rcases h3 x ((choicesTo_mem n k x).2 ⟨e, g1⟩) g4 with h | h
        · exact .inl h
        · refine .inr ?_
          unfold fewer
          rw [if_pos (by omega)]
          exact h
      · refine .inr ?_
        unfold fewer
        rw [if_neg (by omega)]
        simp; omega
    | none =>
      rw [search_none hc]
      have hno := find_no hc
      obtain ⟨i1, i2⟩ := searchFrom_spec so n f (k + 1)
      have hk : ∀ l, incr n l → l.length = k → so l = false := fun l h1 h2 => hno l ((choicesTo_mem n k l).2 ⟨h2, h1⟩)
      refine ⟨fun l h => ?_, fun h l h1 h2 h3 => ?_⟩
      · have := i1 l h
        obtain ⟨⟨g1, g2, g3, g4⟩, g5⟩ := this
        refine ⟨⟨g1, by omega, by omega, g4⟩, fun x ⟨x1, x2, x3, x4⟩ => ?_⟩
        by_cases e : x.length = k
        · rw [hk x x1 e] at x4; cases x4
        · exact g5 x ⟨x1, by omega, by omega, x4⟩
      · by_cases e : l.length = k
        · exact hk l h1 e
        · exact i2 h l h1 (by omega) (by omega)
theorem incr_len {n : Nat} {l : List Int} (h : incr n l) : l.length ≤ n := by
  induction n generalizing l with
  | zero =>
    cases l with
    | nil => simp
    | cons a l => have := h.2 a (by simp); omega
  | succ n ih =>
    rcases nil_snoc l with rfl | ⟨l', x, rfl⟩
    · simp
    · obtain ⟨h3, h4, h5⟩ := incr_snoc.1 h
      have := ih (l := l') ⟨h3.1, fun y hy => ⟨(h3.2 y hy).1, by have := h4 y hy; omega⟩⟩
      simp; omega

/-- Bits as lists. -/
theorem bits_incr (s n : Nat) : incr n (bitsList s n) := by
  unfold bitsList incr
  refine ⟨?_, fun x hx => ?_⟩
  · rw [List.pairwise_map]
    refine List.Pairwise.filter _ ?_
    exact (List.pairwise_lt_range (n := n)).imp (fun h => by omega)
  · obtain ⟨i, hi, rfl⟩ := List.mem_map.1 hx
    have := (List.mem_filter.1 hi).1
    simp at this
    omega
theorem bits_mem (s n : Nat) (x : Int) : x ∈ bitsList s n ↔ 0 ≤ x ∧ x < n ∧ s.testBit x.toNat = true := by
  unfold bitsList
  rw [List.mem_map]
  constructor
  · rintro ⟨i, hi, rfl⟩
    obtain ⟨h1, h2⟩ := List.mem_filter.1 hi
    simp at h1
    exact ⟨by omega, by omega, by simpa using h2⟩
  · rintro ⟨h1, h2, h3⟩
    exact ⟨x.toNat, List.mem_filter.2 ⟨by simp; omega, h3⟩, by omega⟩
theorem incr_ext : ∀ {a b : List Int}, a.Pairwise (fun x y => x < y) → b.Pairwise (fun x y => x < y) → (∀ x, x ∈ a ↔ x ∈ b) → a = b
  | [], [], _, _, _ => rfl
  | [], y :: ys, _, _, h => by have := (h y).2 (by simp); simp at this
  | x :: xs, [], _, _, h => by have := (h x).1 (by simp); simp at this
  | x :: xs, y :: ys, ha, hb, h => by
    rw [List.pairwise_cons] at ha hb
    have e : x = y := by
      have h1 := (h x).1 (by simp)
      have h2 := (h y).2 (by simp)
      rcases List.mem_cons.1 h1 with e | h1
      · exact e
      · rcases List.mem_cons.1 h2 with e | h2
        · exact e.symm
        · have := ha.1 y h2; have := hb.1 x h1; omega
    subst e
    rw [incr_ext ha.2 hb.2 (fun z => ?_)]
    constructor
    · intro hz
      rcases List.mem_cons.1 ((h z).1 (by simp [hz])) with e | h1
      · subst e; have := ha.1 z hz; omega
      · exact h1
    · intro hz
      rcases List.mem_cons.1 ((h z).2 (by simp [hz])) with e | h1
      · subst e; have := hb.1 z hz; omega
      · exact h1
/-- A list as bits. -/
def setOf (l : List Int) : Nat := l.foldl (fun s x => s ||| (1 <<< x.toNat)) 0
theorem setOf_bit (l : List Int) (k : Nat) (hl : ∀ x ∈ l, 0 ≤ x) : (setOf l).testBit k = decide ((k : Int) ∈ l) := by
  unfold setOf
  suffices h : ∀ (l : List Int) (s : Nat), (∀ x ∈ l, 0 ≤ x) → (l.foldl (fun s x => s ||| (1 <<< x.toNat)) s).testBit k = (s.testBit k || decide ((k : Int) ∈ l)) from by
    have := h l 0 hl; simpa using this
  intro l
  induction l with
  | nil => intro s _; simp
  | cons a l ih =>
    intro s h
    rw [List.foldl_cons, ih _ (fun x hx => h x (by simp [hx])), Nat.testBit_or, Nat.one_shiftLeft, Nat.testBit_two_pow, Bool.or_assoc]
    congr 1
    have ha := h a (by simp)
    rw [Bool.eq_iff_iff]
    simp only [Bool.or_eq_true, decide_eq_true_eq, List.mem_cons]
    constructor
    · rintro (h | h)
      · exact .inl (by omega)
      · exact .inr h
    · rintro (h | h)
      · exact .inl (by omega)
      · exact .inr h
theorem setOf_lt (l : List Int) (n : Nat) (hl : ∀ x ∈ l, 0 ≤ x ∧ x < n) : setOf l < 2 ^ n := by
  unfold setOf
  suffices h : ∀ (l : List Int) (s : Nat), s < 2 ^ n → (∀ x ∈ l, 0 ≤ x ∧ x < n) → l.foldl (fun s x => s ||| (1 <<< x.toNat)) s < 2 ^ n from h l 0 (Nat.two_pow_pos n) hl
  intro l
  induction l with
  | nil => intro s hs _; exact hs
  | cons a l ih =>
    intro s hs h
    rw [List.foldl_cons]
    refine ih _ (Nat.or_lt_two_pow hs ?_) (fun x hx => h x (by simp [hx]))
    rw [Nat.one_shiftLeft]
    have := h a (by simp)
    exact Nat.pow_lt_pow_right (by omega) (by omega)
theorem setOf_bits {l : List Int} {n : Nat} (h : incr n l) : bitsList (setOf l) n = l := by
  refine incr_ext (bits_incr _ n).1 h.1 (fun x => ?_)
  rw [bits_mem]
  constructor
  · rintro ⟨h1, h2, h3⟩
    rw [setOf_bit l _ (fun x hx => (h.2 x hx).1)] at h3
    have e : ((x.toNat : Nat) : Int) = x := by omega
    rw [e] at h3
    simpa using h3
  · intro hx
    have := h.2 x hx
    refine ⟨this.1, this.2, ?_⟩
    rw [setOf_bit l _ (fun x hx => (h.2 x hx).1)]
    have e : ((x.toNat : Nat) : Int) = x := by omega
    rw [e]
    simpa using hx

/-- What fewest has found among the sets below k. -/
def Found (n : Nat) (so : Nat → Bool) (k : Nat) (best : List Int) (found : Bool) : Prop :=
  (found = false → best = [] ∧ ∀ s, s < k → so s = false) ∧ (found = true → FirstOf (fun l => ∃ s, s < k ∧ so s = true ∧ l = bitsList s n) best)
theorem found_zero (n : Nat) (so : Nat → Bool) : Found n so 0 [] false := ⟨fun _ => ⟨rfl, fun s h => by omega⟩, fun h => by cases h⟩
theorem found_skip {n k : Nat} {so : Nat → Bool} {best : List Int} (h : Found n so k best true) (hf : bitsList k n = best ∨ fewer best (bitsList k n) = true) : Found n so (k + 1) best true := by
  refine ⟨(fun h => by cases h), fun _ => ?_⟩
  obtain ⟨⟨s, h1, h2, h3⟩, h4⟩ := h.2 rfl
  refine ⟨⟨s, by omega, h2, h3⟩, fun x ⟨t, t1, t2, t3⟩ => ?_⟩
  by_cases e : t < k
  · exact h4 x ⟨t, e, t2, t3⟩
  · have : t = k := by omega
    subst this
    rw [t3]
    exact hf
theorem found_no {n k : Nat} {so : Nat → Bool} {best : List Int} {found : Bool} (h : Found n so k best found) (hs : so k = false) : Found n so (k + 1) best found := by
  refine ⟨fun e => ⟨(h.1 e).1, fun s hs' => ?_⟩, fun e => ?_⟩
  · by_cases e2 : s < k
    · exact (h.1 e).2 s e2
    · have : s = k := by omega
      subst this
      exact hs
  · obtain ⟨⟨s, h1, h2, h3⟩, h4⟩ := h.2 e
    refine ⟨⟨s, by omega, h2, h3⟩, fun x ⟨t, t1, t2, t3⟩ => ?_⟩
    by_cases e : t < k
    · exact h4 x ⟨t, e, t2, t3⟩
    · have : t = k := by omega
      subst this
      rw [hs] at t2; cases t2
theorem found_yes {n k : Nat} {so : Nat → Bool} {best : List Int} {found : Bool} (h : Found n so k best found) (hs : so k = true) (hf : found = true → fewer best (bitsList k n) = false) : Found n so (k + 1) (bitsList k n) true := by
  refine ⟨(fun e => by cases e), fun _ => ⟨⟨k, by omega, hs, rfl⟩, fun x ⟨t, t1, t2, t3⟩ => ?_⟩⟩
  by_cases e : t < k
  · cases found with
    | false => rw [(h.1 rfl).2 t e] at t2; cases t2
    | true =>
      have h1 := hf rfl
      rcases (h.2 rfl).2 x ⟨t, e, t2, t3⟩ with e2 | h2
      · cases h3 : fewer (bitsList k n) best with
        | true => rw [e2]; exact .inr h3
        | false => rw [e2]; exact .inl (fewer_total h1 h3)
      · cases h3 : fewer (bitsList k n) best with
        | true => exact .inr (fewer_trans h3 h2)
        | false => rw [← fewer_total h1 h3]; exact .inr h2
  · have : t = k := by omega
    subst this
    exact .inl t3
theorem hasB_bits (s n : Nat) (i : Nat) (h : i < n) : hasB (bitsList s n) i = s.testBit i := by
  rw [Bool.eq_iff_iff, hasB_iff, bits_mem]
  constructor
  · rintro ⟨_, _, h⟩; simpa using h
  · intro h2; exact ⟨by omega, by omega, by simpa using h2⟩

end Go.Proofs.YtcgplocmncionaaGreat
namespace Go.Proofs.YtcgplocmncionaaGreat

structure SeLeak where
  src : Int
  dst : Int
  sure : Bool
structure SeLetter where
  day : Int
  secrets : Int
  writer : Int
structure SeHeard where
  writer : Int
  secret : Int
  day : Int
  knew : Bool
structure SeRoom where
  writers : List ByteArray
  kept : List Int
  leaks : List SeLeak
  letters : List SeLetter
  heard : List SeHeard

def seWho (r : SeRoom) (n : Int) : Bool := inB n 0 ((r.writers.length : Int) - 1)
def writerErr (r : SeRoom) (i : Nat) : Int := match r.writers[i]? with | some s => fresh s (r.writers.take i) | none => 0
def keptErr (r : SeRoom) (i : Nat) : Int := match r.kept[i]? with | some n => if inB n 0 (allBits r.writers.length) then 0 else 4 | none => 0
def leakErrOf (r : SeRoom) (i : Nat) (x : SeLeak) : Int :=
  if seWho r x.src && seWho r x.dst then (if x.src = x.dst then 2 else if (r.leaks.take i).any (fun y => decide (y.src = x.src) && decide (y.dst = x.dst)) then 5 else 0) else 4
def leakErr (r : SeRoom) (i : Nat) : Int := match r.leaks[i]? with | some x => leakErrOf r i x | none => 0
def letterErrOf (r : SeRoom) (i : Nat) (x : SeLetter) : Int :=
  if inB x.day 0 9 then (if inB x.secrets 0 (allBits r.kept.length) && inB x.writer (-1) ((r.writers.length : Int) - 1) then
    (if !(x.writer == -1) && (r.letters.take i).any (fun y => decide (y.writer = x.writer) && decide (y.day = x.day)) then 5 else 0) else 4) else 7
def letterErr (r : SeRoom) (i : Nat) : Int := match r.letters[i]? with | some x => letterErrOf r i x | none => 0
def heardErrOf (r : SeRoom) (x : SeHeard) : Int := if seWho r x.writer && inB x.secret 0 ((r.kept.length : Int) - 1) then (if inB x.day 0 9 then 0 else 7) else 4
def heardErr (r : SeRoom) (i : Nat) : Int := match r.heard[i]? with | some x => heardErrOf r x | none => 0
def seCheck (r : SeRoom) : Int × Int × Int :=
  checkPart 1 r.writers.length 4 (writerErr r) (checkPart 2 r.kept.length 3 (keptErr r) (checkPart 3 r.leaks.length 4 (leakErr r) (checkPart 4 r.letters.length 4 (letterErr r) (checkPart 5 r.heard.length 3 (heardErr r) (0, 0, 0)))))
/-- The error of a room: 0: it is valid. -/
def seErr (r : SeRoom) : Int := (seCheck r).2.2

/-- Since when writers know a secret, by letters alone: 10: never. -/
def startDay (letters : List SeLetter) (s w : Nat) : Int := letters.foldl (fun d x => if x.writer = (w : Int) ∧ bitB x.secrets s = true then min d x.day else d) 10
/-- One leak tells. -/
def relax (d : Nat → Int) (x : SeLeak) : Nat → Int := fun w => if w = x.dst.toNat then min (d w) (d x.src.toNat + 1) else d w
def relaxL (L : List SeLeak) (d : Nat → Int) : Nat → Int := L.foldl relax d
def rounds (L : List SeLeak) (d : Nat → Int) : Nat → Nat → Int
  | 0 => d
  | k + 1 => relaxL L (rounds L d k)
def leaksOf (r : SeRoom) (l : List Int) : List SeLeak := l.filterMap fun i => r.leaks[i.toNat]?
def fromD (r : SeRoom) (letters : List SeLetter) (l : List Int) (s : Nat) : Nat → Int := rounds (leaksOf r l) (startDay letters s) r.writers.length
def dayOf (r : SeRoom) (l : List Int) (w s : Nat) : Int := min 10 (fromD r r.letters l s w)

/-- All sets of leaks that have all sure ones. -/
def sureAt (r : SeRoom) (i : Nat) : Bool := match r.leaks[i]? with | some x => x.sure | none => false
def setStep (r : SeRoom) (i : Nat) (l : List Int) : List (List Int) := (if sureAt r i then [] else [l]) ++ [l ++ [(i : Int)]]
def setsTo (r : SeRoom) : Nat → List (List Int)
  | 0 => [[]]
  | i + 1 => (setsTo r i).flatMap (setStep r i)
def seSets (r : SeRoom) : List (List Int) := setsTo r r.leaks.length
/-- What was heard is so. -/
def soB (r : SeRoom) (x : SeHeard) (l : List Int) : Bool := x.knew == decide (dayOf r l x.writer.toNat x.secret.toNat ≤ x.day)
def soAt (r : SeRoom) (but : List Int) (l : List Int) (k : Nat) : Bool := hasB but k || match r.heard[k]? with | some x => soB r x l | none => true
def seTrue (r : SeRoom) (but l : List Int) : Bool := (List.range r.heard.length).all fun k => soAt r but l k
def seTruths (r : SeRoom) (but : List Int) : List (List Int) := (seSets r).filter (seTrue r but)

def settled (yes all : Nat) : Int := if yes = all then 1 else if yes = 0 then 2 else 0
def knownErr (r : SeRoom) (e : Int) : Int := if e = 0 then (if (seTruths r []).length = 0 then 8 else 0) else e
def indexErr (r : SeRoom) (n below : Int) : Int := if seErr r = 0 then (if inB n 0 (below - 1) then 0 else 4) else seErr r
def whoErr (r : SeRoom) (who s : Int) : Int := if indexErr r who r.writers.length = 0 then indexErr r s r.kept.length else indexErr r who r.writers.length

/-- The days of those that know. -/
def daysTo (f : List Int → Int) : List (List Int) → Nat × Int × Int
  | [] => (0, 0, 0)
  | t :: l => let p := daysTo f l; if 9 < f t then p else if p.1 = 0 then (1, f t, f t) else (p.1 + 1, min p.2.1 (f t), max p.2.2 (f t))
def sinceErr (r : SeRoom) (who s : Int) : Int := knownErr r (whoErr r who s)
def sinceOf (r : SeRoom) (who s : Int) : (Int × Int) × Int × Int :=
  if sinceErr r who s = 0 then (((daysTo (fun t => dayOf r t who.toNat s.toNat) (seTruths r []).reverse).2), settled (daysTo (fun t => dayOf r t who.toNat s.toNat) (seTruths r []).reverse).1 (seTruths r []).length, 0) else ((0, 0), 0, sinceErr r who s)
def knowsErr (r : SeRoom) (who s day : Int) : Int := knownErr r (if whoErr r who s = 0 then (if inB day 0 9 then 0 else 7) else whoErr r who s)
def knowsOf (r : SeRoom) (who s day : Int) : Int × Int :=
  if knowsErr r who s day = 0 then (settled ((seTruths r []).countP fun t => decide (dayOf r t who.toNat s.toNat ≤ day)) (seTruths r []).length, 0) else (0, knowsErr r who s day)
def toldErr (r : SeRoom) (n : Int) : Int := knownErr r (indexErr r n r.leaks.length)
def toldOf (r : SeRoom) (n : Int) : Int × Int := if toldErr r n = 0 then (settled ((seTruths r []).countP fun t => hasB t n) (seTruths r []).length, 0) else (0, toldErr r n)
/-- The first of the fewest that do, or all. -/
def seWrongOf (r : SeRoom) : List Int × Int :=
  if seErr r = 0 then ((searchFrom (fun l => decide (0 < (seTruths r l).length)) r.heard.length 0 r.heard.length).getD ((choicesTo r.heard.length r.heard.length).headD []), 0) else ([], seErr r)
def keptAt (r : SeRoom) (s : Nat) : Int := r.kept[s]?.getD 0
/-- Nobody from whom a secret is kept knows it, by some letters, in a truth. -/
def keepsIn (r : SeRoom) (letters : List SeLetter) (s : Nat) (t : List Int) : Bool := (List.range r.writers.length).all fun w => !(bitB (keptAt r s) w && decide (fromD r letters t s w ≤ 9))
def keepsB (r : SeRoom) (letters : List SeLetter) (T : List (List Int)) (s : Nat) : Bool := T.all (keepsIn r letters s)
def canB (r : SeRoom) (T : List (List Int)) (x : SeLetter) (who : Int) : Bool := (List.range r.kept.length).all fun s => !(bitB x.secrets s) || keepsB r [{ x with writer := who }] T s
def mayErr (r : SeRoom) (n : Int) : Int := knownErr r (indexErr r n r.letters.length)
def mayList (r : SeRoom) (T : List (List Int)) (x : SeLetter) : List Int := ((List.range r.writers.length).filter fun (w : Nat) => canB r T x (w : Int)).map fun (w : Nat) => (w : Int)
def letterAt (r : SeRoom) (n : Nat) : SeLetter := r.letters[n]?.getD ⟨0, 0, 0⟩
def mayOf (r : SeRoom) (n : Int) : List Int × Int := if mayErr r n = 0 then (mayList r (seTruths r []) (letterAt r n.toNat), 0) else ([], mayErr r n)

/-- Writers are a plan, at letter i. -/
def fitsAt (r : SeRoom) (T : List (List Int)) (p : List Int) (i : Nat) : Bool :=
  let x := letterAt r i; let w := p[i]?.getD 0
  (decide (x.writer = -1) || decide (w = x.writer)) && (decide (w = -1) || (seWho r w && canB r T x w && (List.range i).all fun k => !(decide (p[k]?.getD 0 = w) && decide ((letterAt r k).day = x.day))))
def fitsB (r : SeRoom) (T : List (List Int)) (p : List Int) : Bool := decide (p.length = r.letters.length) && (List.range p.length).all fun i => fitsAt r T p i
def waitingOf (p : List Int) : Nat := p.countP fun w => decide (w = -1)
def planStep (r : SeRoom) (p : List Int) : List (List Int) := ((List.range r.writers.length).map fun (w : Nat) => p ++ [(w : Int)]) ++ [p ++ [-1]]
def plansTo (r : SeRoom) : Nat → List (List Int)
  | 0 => [[]]
  | i + 1 => (plansTo r i).flatMap (planStep r)
def sePlans (r : SeRoom) : List (List Int) := plansTo r r.letters.length
/-- The best of plans so far. -/
def bestStep (r : SeRoom) (T : List (List Int)) (b : Option (List Int)) (p : List Int) : Option (List Int) :=
  match b with
  | none => if fitsB r T p then some p else none
  | some q => if decide (waitingOf p < waitingOf q) && fitsB r T p then some p else some q
def bestPlan (r : SeRoom) (T : List (List Int)) : Option (List Int) := (sePlans r).foldl (bestStep r T) none
def planErr (r : SeRoom) : Int := knownErr r (seErr r)
def planOf (r : SeRoom) : List Int × Int × Int :=
  if planErr r = 0 then (match bestPlan r (seTruths r []) with | some p => (p, (waitingOf p : Int), 0) | none => ([], 0, 9)) else ([], 0, planErr r)
def lessOf (T : List (List Int)) (but : List Int) : List (List Int) := T.map fun t => t.filter fun x => !hasB but x
def cutErr (r : SeRoom) (s : Int) : Int := knownErr r (indexErr r s r.kept.length)
def cutOf (r : SeRoom) (s : Int) : List Int × Int :=
  if cutErr r s = 0 then (match searchFrom (fun l => keepsB r r.letters (lessOf (seTruths r []) l) s.toNat) r.leaks.length 0 (r.leaks.length + 1) with | some l => (l, 0) | none => ([], 9)) else ([], cutErr r s)
end Go.Proofs.YtcgplocmncionaaGreat
namespace Go.Proofs.YtcgplocmncionaaGreat

/-- No leak can lower a day. -/
def Stable (L : List SeLeak) (d : Nat → Int) : Prop := ∀ x ∈ L, d x.dst.toNat ≤ d x.src.toNat + 1
def LeD (d e : Nat → Int) : Prop := ∀ w, d w ≤ e w
theorem LeD.refl (d : Nat → Int) : LeD d d := fun _ => Int.le_refl _
theorem LeD.trans {a b c : Nat → Int} (h : LeD a b) (k : LeD b c) : LeD a c := fun w => Int.le_trans (h w) (k w)
theorem LeD.antisymm {a b : Nat → Int} (h : LeD a b) (k : LeD b a) : a = b := funext fun w => Int.le_antisymm (h w) (k w)

theorem relax_le (d : Nat → Int) (x : SeLeak) : LeD (relax d x) d := fun w => by
  unfold relax; split <;> omega
theorem relax_at (d : Nat → Int) (x : SeLeak) : relax d x x.dst.toNat ≤ d x.src.toNat + 1 := by
  unfold relax; rw [if_pos rfl]; omega
theorem relax_ge {d g : Nat → Int} {x : SeLeak} (h : LeD g d) (hs : g x.dst.toNat ≤ g x.src.toNat + 1) : LeD g (relax d x) := fun w => by
  unfold relax
  have h1 := h w
  have h2 := h x.src.toNat
  split
  · rename_i e; subst e; omega
  · exact h1
theorem relax_mono {d e : Nat → Int} (x : SeLeak) (h : LeD d e) : LeD (relax d x) (relax e x) := fun w => by
  unfold relax
  have h1 := h w
  have h2 := h x.src.toNat
  split <;> omega
theorem relaxL_le : ∀ (L : List SeLeak) (d : Nat → Int), LeD (relaxL L d) d
  | [], d => LeD.refl d
  | x :: L, d => LeD.trans (relaxL_le L (relax d x)) (relax_le d x)
theorem relaxL_ge : ∀ (L : List SeLeak) {d g : Nat → Int}, LeD g d → Stable L g → LeD g (relaxL L d)
  | [], _, _, h, _ => h
  | x :: L, d, g, h, hs => relaxL_ge L (relax_ge h (hs x (by simp))) (fun y hy => hs y (by simp [hy]))
theorem relaxL_at : ∀ (L : List SeLeak) (d : Nat → Int), ∀ x ∈ L, relaxL L d x.dst.toNat ≤ d x.src.toNat + 1
  | y :: L, d, x, hx => by
    rcases List.mem_cons.1 hx with rfl | hx
    · exact Int.le_trans (relaxL_le L _ _) (relax_at d x)
    · have := relaxL_at L (relax d y) x hx
      have h2 := relax_le d y x.src.toNat
      show relaxL L (relax d y) _ ≤ _
      omega
theorem stable_of_fix {L : List SeLeak} {d : Nat → Int} (h : relaxL L d = d) : Stable L d := fun x hx => by
  have := relaxL_at L d x hx
  rwa [h] at this
theorem rounds_le (L : List SeLeak) (d : Nat → Int) : ∀ k, LeD (rounds L d k) d
  | 0 => LeD.refl d
  | k + 1 => LeD.trans (relaxL_le L _) (rounds_le L d k)
theorem rounds_ge {L : List SeLeak} {d g : Nat → Int} (h : LeD g d) (hs : Stable L g) : ∀ k, LeD g (rounds L d k)
  | 0 => h
  | k + 1 => relaxL_ge L (rounds_ge h hs k) hs
/-- Where a day comes from: by itself, or by a leak. -/
def Ground (L : List SeLeak) (d0 d : Nat → Int) : Prop := ∀ w, d w = d0 w ∨ ∃ x ∈ L, x.dst.toNat = w ∧ d x.src.toNat + 1 ≤ d w
theorem relax_ground {M : List SeLeak} {d0 d : Nat → Int} {x : SeLeak} (hx : x ∈ M) (h : Ground M d0 d) : Ground M d0 (relax d x) := fun w => by
  have hle := relax_le d x
  by_cases hw : w = x.dst.toNat ∧ d x.src.toNat + 1 < d w
  · right
    refine ⟨x, hx, hw.1.symm, ?_⟩
    have e : relax d x w = d x.src.toNat + 1 := by unfold relax; rw [if_pos hw.1]; omega
    rw [e]
    have := hle x.src.toNat
    omega
  · have e : relax d x w = d w := by
      unfold relax
      by_cases h1 : w = x.dst.toNat
      · rw [if_pos h1]; have : ¬ d x.src.toNat + 1 < d w := fun h2 => hw ⟨h1, h2⟩; omega
      · rw [if_neg h1]
    rcases h w with h1 | ⟨y, hy, h1, h2⟩
    · exact .inl (e.trans h1)
    · exact .inr ⟨y, hy, h1, by have := hle y.src.toNat; omega⟩
theorem relaxL_ground {M : List SeLeak} {d0 : Nat → Int} : ∀ (L : List SeLeak) {d : Nat → Int}, (∀ x ∈ L, x ∈ M) → Ground M d0 d → Ground M d0 (relaxL L d)
  | [], _, _, h => h
  | x :: L, d, hL, h => relaxL_ground L (fun y hy => hL y (by simp [hy])) (relax_ground (hL x (by simp)) h)
theorem rounds_ground (L : List SeLeak) (d : Nat → Int) : ∀ k, Ground L d (rounds L d k)
  | 0 => fun _ => .inl rfl
  | k + 1 => relaxL_ground L (fun _ h => h) (rounds_ground L d k)

/-- How far the days of F are reached in k rounds. -/
theorem reach {L : List SeLeak} {d F : Nat → Int} (hg : Ground L d F) (n : Nat) (hn : ∀ x ∈ L, x.src.toNat < n) : ∀ (k w : Nat), ((List.range n).filter fun u => decide (F u < F w)).length ≤ k → rounds L d k w ≤ F w := by
  intro k
  induction k with
  | zero =>
    intro w hk
    rcases hg w with h | ⟨x, hx, _, h⟩
    · exact Int.le_of_eq h.symm
    · exfalso
      have : x.src.toNat ∈ (List.range n).filter fun u => decide (F u < F w) := by
        rw [List.mem_filter]
        exact ⟨by simpa using hn x hx, by simp; omega⟩
      have := List.length_pos_of_mem this
      omega
  | succ k ih =>
    intro w hk
    rcases hg w with h | ⟨x, hx, hd, h⟩
    · rw [h]; exact rounds_le L d (k + 1) w
    · have h1 : rounds L d k x.src.toNat ≤ F x.src.toNat := by
        refine ih _ ?_
        have hlt : ((List.range n).filter fun u => decide (F u < F x.src.toNat)).length < ((List.range n).filter fun u => decide (F u < F w)).length := by
          have hsub : ∀ (l : List Nat), x.src.toNat ∈ l → (l.filter fun u => decide (F u < F x.src.toNat)).length < (l.filter fun u => decide (F u < F w)).length := by
            have hle : ∀ (l : List Nat), (l.filter fun u => decide (F u < F x.src.toNat)).length ≤ (l.filter fun u => decide (F u < F w)).length := by
              intro l
              induction l with
              | nil => simp
              | cons a l ihl =>
                by_cases ha : F a < F x.src.toNat
                · have hb : F a < F w := by omega
                  rw [List.filter_cons_of_pos (by simpa using ha), List.filter_cons_of_pos (by simpa using hb)]
                  simp only [List.length_cons]; omega
                · rw [List.filter_cons_of_neg (by simpa using ha)]
                  by_cases hb : F a < F w
                  · rw [List.filter_cons_of_pos (by simpa using hb)]; simp only [List.length_cons]; omega
                  · rw [List.filter_cons_of_neg (by simpa using hb)]; exact ihl
            intro l
            induction l with
            | nil => simp
            | cons a l ihl =>
              intro hm
              by_cases he : x.src.toNat = a
              · have h1 : ¬ F a < F x.src.toNat := by rw [he]; omega
                have h2 : F a < F w := by rw [← he]; omega
                rw [List.filter_cons_of_neg (by simpa using h1), List.filter_cons_of_pos (by simpa using h2)]
                have := hle l
                simp only [List.length_cons]; omega
              · have hm' : x.src.toNat ∈ l := by
                  rcases List.mem_cons.1 hm with h | h
                  · exact absurd h he
                  · exact h
                have := ihl hm'
                by_cases ha : F a < F x.src.toNat
                · have hb : F a < F w := by omega
                  rw [List.filter_cons_of_pos (by simpa using ha), List.filter_cons_of_pos (by simpa using hb)]
                  simp only [List.length_cons]; omega
                · rw [List.filter_cons_of_neg (by simpa using ha)]
                  by_cases hb : F a < F w
                  · rw [List.filter_cons_of_pos (by simpa using hb)]; simp only [List.length_cons]; omega
                  · rw [List.filter_cons_of_neg (by simpa using hb)]; exact this
          exact hsub _ (by simpa using hn x hx)
        omega
      have h2 := relaxL_at L (rounds L d k) x hx
      rw [hd] at h2
      show relaxL L (rounds L d k) w ≤ F w
      omega
/-- Once no round turns anything, it is what as many rounds as writers reach. -/
theorem rounds_fix {L : List SeLeak} {d : Nat → Int} {n k : Nat} (hn : ∀ x ∈ L, x.src.toNat < n) (h : relaxL L (rounds L d k) = rounds L d k) : rounds L d k = rounds L d n := by
  have hs := stable_of_fix h
  refine LeD.antisymm (rounds_ge (rounds_le L d k) hs n) (fun w => ?_)
  refine reach (rounds_ground L d k) n hn n w ?_
  have := List.length_filter_le (fun u => decide (rounds L d k u < rounds L d k w)) (List.range n)
  simpa using this
end Go.Proofs.YtcgplocmncionaaGreat
