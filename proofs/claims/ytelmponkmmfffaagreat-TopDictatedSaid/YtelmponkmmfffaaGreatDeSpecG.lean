/- What is proved here: plain Lean functions for the small helpers of the references (escribanoref01), and plain facts on them. No program. No condition. -/
/- What is proved here: plain Lean functions for checks part by part, and for searches of lists; plain facts on them. No program. No condition. -/
/- What is proved here: plain facts: the first of the shortest lists of numbers that are so, however it is sought. No program. No condition. -/
/- What is proved here: plain Lean functions for layer 9 (desk), as the reference has them. No program. No condition. -/

set_option linter.unusedVariables false
set_option linter.unusedSimpArgs false
namespace Go.Proofs.YtelmponkmmfffaaGreat

/-- 'In'. -/
def inB (n lo hi : Int) : Bool := decide (lo ≤ n) && decide (n ≤ hi)
theorem inB_iff {n lo hi : Int} : inB n lo hi = true ↔ lo ≤ n ∧ n ≤ hi := by simp [inB]
theorem inB_no {n lo hi : Int} : inB n lo hi = false ↔ n < lo ∨ hi < n := by
  cases h : inB n lo hi
  · have : ¬ (lo ≤ n ∧ n ≤ hi) := fun h' => by rw [inB_iff.2 h'] at h; cases h
    simp; omega
  · have := inB_iff.1 h
    simp; omega

/-- 'Has'. -/
def hasB (l : List Int) (n : Int) : Bool := l.any (· == n)
theorem hasB_iff {l : List Int} {n : Int} : hasB l n = true ↔ n ∈ l := by
  simp [hasB]
theorem hasB_snoc (l : List Int) (k : Nat) (h : k < l.length) (n : Int) : hasB (l.take (k+1)) n = (hasB (l.take k) n || (l[k] == n)) := by
  unfold hasB
  rw [List.take_succ_eq_append_getElem h, List.any_append]
  simp

/-- 'Less': lists of numbers, the first number that differs decides. -/
def less : List Int → List Int → Bool
  | _, [] => false
  | [], _ :: _ => true
  | x :: xs, y :: ys => if x = y then less xs ys else decide (x < y)
theorem less_drop (a b : List Int) (k : Nat) (ha : k < a.length) (hb : k < b.length) :
    less (a.drop k) (b.drop k) = if a[k] = b[k] then less (a.drop (k+1)) (b.drop (k+1)) else decide (a[k] < b[k]) := by
  rw [List.drop_eq_getElem_cons ha, List.drop_eq_getElem_cons hb, less]
theorem less_end (a b : List Int) (k : Nat) (hb : b.length ≤ k) : less (a.drop k) (b.drop k) = false := by
  rw [List.drop_of_length_le hb]; cases a.drop k <;> rfl
theorem less_short (a b : List Int) (k : Nat) (ha : a.length ≤ k) (hb : k < b.length) : less (a.drop k) (b.drop k) = true := by
  rw [List.drop_of_length_le ha, List.drop_eq_getElem_cons hb]; rfl
theorem less_irrefl (a : List Int) : less a a = false := by
  induction a with
  | nil => rfl
  | cons x xs ih => simp [less, ih]
theorem less_total : ∀ (a b : List Int), a.length = b.length → less a b = false → less b a = false → a = b
  | [], [], _, _, _ => rfl
  | x :: xs, y :: ys, hl, h1, h2 => by
    simp only [less] at h1 h2
    by_cases e : x = y
    · subst e
      simp only [if_true] at h1 h2
      rw [less_total xs ys (by simpa using hl) h1 h2]
    · rw [if_neg e] at h1
      rw [if_neg (fun h => e h.symm)] at h2
      simp at h1 h2
      omega
theorem less_asymm : ∀ (a b : List Int), less a b = true → less b a = false
  | [], [], h => by simp [less] at h
  | [], y :: ys, _ => rfl
  | x :: xs, [], h => by simp [less] at h
  | x :: xs, y :: ys, h => by
    simp only [less] at h ⊢
    by_cases e : x = y
    · subst e
      simp only [if_true] at h ⊢
      exact less_asymm xs ys h
    · rw [if_neg e] at h
      rw [if_neg (fun h => e h.symm)]
      simp at h ⊢
      omega
theorem less_trans : ∀ (a b c : List Int), less a b = true → less b c = true → less a c = true
  | [], [], _, h, _ => by simp [less] at h
  | x :: xs, [], _, h, _ => by simp [less] at h
  | _, y :: ys, [], _, h => by simp [less] at h
  | [], y :: ys, z :: zs, _, _ => rfl
  | x :: xs, y :: ys, z :: zs, h, k => by
    simp only [less] at h k ⊢
    by_cases e : x = y
    · subst e
      simp only [if_true] at h
      by_cases f : x = z
      · subst f
        simp only [if_true] at k ⊢
        exact less_trans xs ys zs h k
      · rw [if_neg f] at k ⊢
        exact k
    · rw [if_neg e] at h
      simp at h
      by_cases f : y = z
      · subst f
        rw [if_neg e]
        simpa using h
      · rw [if_neg f] at k
        simp at k
        rw [if_neg (by omega)]
        simp
        omega

/-- 'Ints'. -/
def intsB (a b : List Int) : Bool := decide (a.length = b.length) && !less a b && !less b a
theorem intsB_iff {a b : List Int} : intsB a b = true ↔ a = b := by
  constructor
  · intro h
    simp [intsB] at h
    exact less_total a b h.1.1 h.1.2 h.2
  · rintro rfl
    simp [intsB, less_irrefl]

/-- 'Fewer'. -/
def fewer (a b : List Int) : Bool := if a.length = b.length then less a b else decide (a.length < b.length)

/-- 'Bit'. -/
def bitB (n : Int) (k : Nat) : Bool := n.toNat.testBit k
theorem bit_zero (n : Int) : bitB n 0 = decide (n.tmod 2 = 1) := by
  unfold bitB
  rw [Nat.testBit_zero]
  by_cases h : 0 ≤ n
  · obtain ⟨m, rfl⟩ := Int.eq_ofNat_of_zero_le h
    simp only [Int.toNat_natCast]
    have : ((m : Int).tmod 2) = ((m % 2 : Nat) : Int) := by rw [Int.tmod_eq_emod_of_nonneg (by omega)]; omega
    rw [this]
    by_cases h : m % 2 = 1 <;> simp [h] <;> omega
  · have h0 : n.toNat = 0 := by omega
    rw [h0]
    have : n.tmod 2 ≤ 0 := by
      have := Int.tmod_nonneg 2 (a := -n) (by omega)
      rw [Int.neg_tmod] at this
      omega
    simp
    omega
theorem bit_succ (n : Int) (k : Nat) : bitB n (k+1) = bitB (n.tdiv 2) k := by
  unfold bitB
  by_cases h : 0 ≤ n
  · obtain ⟨m, rfl⟩ := Int.eq_ofNat_of_zero_le h
    have : ((m : Int).tdiv 2) = ((m / 2 : Nat) : Int) := by rw [Int.tdiv_eq_ediv_of_nonneg (by omega)]; omega
    rw [this]
    simp only [Int.toNat_natCast, Nat.testBit_succ]
  · have h0 : n.toNat = 0 := by omega
    have h1 : (n.tdiv 2).toNat = 0 := by
      have : n.tdiv 2 ≤ 0 := by
        have := Int.tdiv_nonneg (a := -n) (b := 2) (by omega) (by omega)
        rw [Int.neg_tdiv] at this
        omega
      omega
    rw [h0, h1]
    simp

theorem half_bd (x : Int) (h1 : -9223372036854775808 ≤ x) (h2 : x ≤ 9223372036854775807) : -9223372036854775808 ≤ x.tdiv 2 ∧ x.tdiv 2 ≤ 9223372036854775807 := by
  by_cases h : 0 ≤ x
  · rw [Int.tdiv_eq_ediv_of_nonneg h]
    omega
  · have := Int.neg_tdiv x 2
    rw [Int.tdiv_eq_ediv_of_nonneg (show 0 ≤ -x by omega)] at this
    omega

/-- 'Where'. -/
def whereFrom (l : List ByteArray) (s : ByteArray) (k : Nat) : Int :=
  match l with
  | [] => -1
  | x :: xs => if x = s then k else whereFrom xs s (k+1)
def whereI (l : List ByteArray) (s : ByteArray) : Int := whereFrom l s 0

/-- A name's bytes: from a to z, or, not at the beginning, a dot or a digit. -/
def low (c : UInt8) : Bool := decide (97 ≤ c.toNat) && decide (c.toNat ≤ 122)
def late (c : UInt8) : Bool := c.toNat == 46 || (decide (48 ≤ c.toNat) && decide (c.toNat ≤ 57))
def nameFrom (k : Nat) : List UInt8 → Bool
  | [] => true
  | c :: cs => (low c || (decide (0 < k) && late c)) && nameFrom (k+1) cs
def nameB (s : ByteArray) : Bool := decide (1 ≤ s.size) && decide (s.size ≤ 16) && nameFrom 0 s.data.toList

/-- 'Fresh': the error of a name that must not be one of some before it (6: no name; 5: it is there already). -/
def hasS (l : List ByteArray) (s : ByteArray) : Bool := l.any fun x => decide (x = s)
def fresh (s : ByteArray) (before : List ByteArray) : Int := if nameB s then (if hasS before s then 5 else 0) else 6

/-- 'Choices', round by round. -/
def choiceStep (below : Int) (first : Bool) (l : List Int) : List (List Int) :=
  let least : Int := if first then 0 else l.getLast?.getD 0 + 1
  (List.range (below - least).toNat).map fun (j : Nat) => l ++ [least + (j : Int)]
def choicesTo (below : Int) : Nat → List (List Int)
  | 0 => [[]]
  | i + 1 => (choicesTo below i).flatMap (choiceStep below (i == 0))
end Go.Proofs.YtelmponkmmfffaaGreat
namespace Go.Proofs.YtelmponkmmfffaaGreat
/-- The first index below n at which f is not 0. -/
def firstErr (n : Nat) (f : Nat → Int) : Option Nat := (List.range n).find? fun i => f i != 0
theorem firstErr_none {n : Nat} {f : Nat → Int} (h : ∀ i, i < n → f i = 0) : firstErr n f = none := by
  unfold firstErr
  rw [List.find?_eq_none]
  intro i hi
  simp at hi
  simp [h i hi]
theorem firstErr_some {n k : Nat} {f : Nat → Int} (hk : k < n) (h : ∀ i, i < k → f i = 0) (hf : f k ≠ 0) : firstErr n f = some k := by
  unfold firstErr
  rw [List.find?_eq_some_iff_append]
  refine ⟨by simpa using hf, List.range k, (List.range' (k+1) (n - k - 1)), ?_, ?_⟩
  · rw [List.range_eq_range', List.range_eq_range', ← List.range'_succ, show n = k + (n - k - 1 + 1) from by omega, ← List.range'_append]
    congr 2 <;> omega
  · intro i hi
    simp at hi
    simp [h i hi]
theorem firstErr_zero {n : Nat} {f : Nat → Int} (h : firstErr n f = none) : ∀ i, i < n → f i = 0 := by
  intro i hi
  unfold firstErr at h
  rw [List.find?_eq_none] at h
  have := h i (by simpa using hi)
  simpa using this

/-- One part of the check: too many (3), or the first with an error. -/
def checkPart (part : Int) (len most : Nat) (f : Nat → Int) (next : Int × Int × Int) : Int × Int × Int :=
  if most < len then (part, 0, 3) else match firstErr len f with | some i => (part, i, f i) | none => next
theorem checkPart_long {part : Int} {len most : Nat} {f : Nat → Int} {next : Int × Int × Int} (h : most < len) : checkPart part len most f next = (part, 0, 3) := by unfold checkPart; rw [if_pos h]
theorem checkPart_err {part : Int} {len most k : Nat} {f : Nat → Int} {next : Int × Int × Int} (h : len ≤ most) (hk : k < len) (h0 : ∀ i, i < k → f i = 0) (hf : f k ≠ 0) : checkPart part len most f next = (part, (k : Int), f k) := by
  unfold checkPart; rw [if_neg (by omega), firstErr_some hk h0 hf]
theorem checkPart_ok {part : Int} {len most : Nat} {f : Nat → Int} {next : Int × Int × Int} (h : len ≤ most) (h0 : ∀ i, i < len → f i = 0) : checkPart part len most f next = next := by
  unfold checkPart; rw [if_neg (by omega), firstErr_none h0]

/-- The index and the error of the first thing with one, of at most so many. -/
def failOf (n most : Nat) (f : Nat → Int) : Int × Int := if most < n then (0, 3) else match firstErr n f with | some i => ((i : Int), f i) | none => (0, 0)
theorem failOf_long {n most : Nat} {f : Nat → Int} (h : most < n) : failOf n most f = (0, 3) := if_pos h
theorem failOf_err {n most k : Nat} {f : Nat → Int} (h : n ≤ most) (hk : k < n) (h0 : ∀ i, i < k → f i = 0) (hf : f k ≠ 0) : failOf n most f = ((k : Int), f k) := by
  unfold failOf; rw [if_neg (by omega), firstErr_some hk h0 hf]
theorem failOf_ok {n most : Nat} {f : Nat → Int} (h : n ≤ most) (h0 : ∀ i, i < n → f i = 0) : failOf n most f = (0, 0) := by
  unfold failOf; rw [if_neg (by omega), firstErr_none h0]

theorem checkPart_zero {part : Int} {len most : Nat} {f : Nat → Int} {next : Int × Int × Int} (h : (checkPart part len most f next).2.2 = 0) : len ≤ most ∧ (∀ i, i < len → f i = 0) ∧ next.2.2 = 0 := by
  unfold checkPart at h
  by_cases hl : most < len
  · rw [if_pos hl] at h; simp at h
  · rw [if_neg hl] at h
    cases hf : firstErr len f with
    | none => rw [hf] at h; exact ⟨by omega, firstErr_zero hf, h⟩
    | some i =>
      rw [hf] at h
      have hi : i ∈ List.range len ∧ (f i != 0) = true := by
        unfold firstErr at hf
        have h2 := List.find?_some (p := fun i => f i != 0) hf
        exact ⟨List.mem_of_find?_eq_some hf, h2⟩
      simp at h
      simp [h] at hi

/-- The first of lists that is so, the fewest numbers first. -/
def searchOne (so : List Int → Bool) (below : Int) (k : Nat) : Option (List Int) := (choicesTo below k).find? so
def searchFrom (so : List Int → Bool) (below : Int) (k : Nat) : Nat → Option (List Int)
  | 0 => none
  | fuel + 1 => match searchOne so below k with | some l => some l | none => searchFrom so below (k+1) fuel
theorem search_none {so : List Int → Bool} {n : Int} {k f : Nat} (h : (choicesTo n k).find? so = none) : searchFrom so n k (f + 1) = searchFrom so n (k + 1) f := by
  rw [searchFrom, searchOne, h]
theorem search_some {so : List Int → Bool} {n : Int} {k f : Nat} {l : List Int} (h : (choicesTo n k).find? so = some l) : searchFrom so n k (f + 1) = some l := by
  rw [searchFrom, searchOne, h]
theorem choices_all (n : Nat) (h : n ≤ 5) : 0 < (choicesTo n n).length := by
  rcases n with _ | _ | _ | _ | _ | _ | n
  · decide
  · decide
  · decide
  · decide
  · decide
  · decide
  · omega
end Go.Proofs.YtelmponkmmfffaaGreat
namespace Go.Proofs.YtelmponkmmfffaaGreat
theorem less_snoc : ∀ (s t : List Int) (c d : Int), s.length = t.length → less s t = true → less (s ++ [c]) (t ++ [d]) = true
  | [], [], _, _, _, h => by simp [less] at h
  | x :: s, y :: t, c, d, hl, h => by
    simp only [List.cons_append, less] at h ⊢
    by_cases e : x = y
    · subst e
      simp only [if_true] at h ⊢
      exact less_snoc s t c d (by simpa using hl) h
    · rw [if_neg e] at h ⊢
      exact h
/-- The numbers of a set, as bits, below n. -/
def bitsList (s n : Nat) : List Int := ((List.range n).filter fun i => s.testBit i).map fun (i : Nat) => (i : Int)


/-- Ascending numbers from 0 to below n. -/
def incr (n : Int) (l : List Int) : Prop := l.Pairwise (fun a b => a < b) ∧ ∀ x ∈ l, 0 ≤ x ∧ x < n
theorem nil_snoc (l : List Int) : l = [] ∨ ∃ l' x, l = l' ++ [x] := by
  rcases List.eq_nil_or_concat l with h | ⟨l', x, h⟩
  · exact .inl h
  · exact .inr ⟨l', x, by rw [h, List.concat_eq_append]⟩
theorem incr_nil (n : Int) : incr n [] := ⟨List.Pairwise.nil, by simp⟩
theorem incr_snoc {n : Int} {l : List Int} {x : Int} : incr n (l ++ [x]) ↔ incr n l ∧ (∀ y ∈ l, y < x) ∧ 0 ≤ x ∧ x < n := by
  unfold incr
  rw [List.pairwise_append]
  constructor
  · rintro ⟨⟨h1, _, h3⟩, h4⟩
    exact ⟨⟨h1, fun y hy => h4 y (by simp [hy])⟩, fun y hy => h3 y hy x (by simp), h4 x (by simp)⟩
  · rintro ⟨⟨h1, h2⟩, h3, h4⟩
    refine ⟨⟨h1, by simp, fun a ha b hb => by simp at hb; subst hb; exact h3 a ha⟩, fun y hy => ?_⟩
    rcases List.mem_append.1 hy with hy | hy
    · exact h2 y hy
    · simp at hy; subst hy; exact h4
theorem last_max {l : List Int} (h : l.Pairwise (fun a b => a < b)) (y : Int) (hy : y ∈ l) : y ≤ l.getLast?.getD 0 := by
  rcases nil_snoc l with rfl | ⟨l', x, rfl⟩
  · simp at hy
  · rw [List.getLast?_append]
    simp only [List.getLast?_singleton, Option.some_or, Option.getD_some]
    rcases List.mem_append.1 hy with hy | hy
    · rw [List.pairwise_append] at h
      exact Int.le_of_lt (h.2.2 y hy x (by simp))
    · simp at hy; omega
theorem last_mem {l : List Int} (h : 0 < l.length) : l.getLast?.getD 0 ∈ l := by
  rcases nil_snoc l with rfl | ⟨l', x, rfl⟩
  · simp at h
  · rw [List.getLast?_append]; simp
theorem choicesTo_mem (n : Int) (k : Nat) : ∀ l, l ∈ choicesTo n k ↔ l.length = k ∧ incr n l := by
  induction k with
  | zero =>
    intro l
    simp only [choicesTo, List.mem_singleton, List.length_eq_zero_iff]
    exact ⟨fun h => ⟨h, h ▸ incr_nil n⟩, fun h => h.1⟩
  | succ k ih =>
    intro l
    rw [choicesTo, List.mem_flatMap]
    constructor
    · rintro ⟨l', hl', hs⟩
      obtain ⟨h1, h2⟩ := (ih l').1 hl'
      unfold choiceStep at hs
      obtain ⟨j, hj, rfl⟩ := List.mem_map.1 hs
      have hj' := List.mem_range.1 hj
      refine ⟨by simp [h1], incr_snoc.2 ⟨h2, ?_, ?_⟩⟩
      · intro y hy
        have := last_max h2.1 y hy
        have hk : k ≠ 0 := fun e => by subst e; rw [List.eq_nil_of_length_eq_zero h1] at hy; simp at hy
        simp only [beq_iff_eq, hk, if_false]
        omega
      · by_cases hk : k = 0
        · subst hk
          simp at hj' ⊢
          omega
        · simp only [beq_iff_eq, hk, if_false] at hj' ⊢
          have := h2.2 _ (last_mem (l := l') (by omega))
          omega
    · rintro ⟨h1, h2⟩
      rcases nil_snoc l with rfl | ⟨l', x, rfl⟩
      · simp at h1
      · obtain ⟨h3, h4, h5⟩ := incr_snoc.1 h2
        have hl' : l'.length = k := by simpa using h1
        refine ⟨l', (ih l').2 ⟨hl', h3⟩, ?_⟩
        unfold choiceStep
        by_cases hk : k = 0
        · subst hk
          refine List.mem_map.2 ⟨x.toNat, ?_, ?_⟩
          · simp; omega
          · have : (x.toNat : Int) = x := by omega
            simp [this]
        · have hlast := h4 _ (last_mem (l := l') (by omega))
          refine List.mem_map.2 ⟨(x - (l'.getLast?.getD 0 + 1)).toNat, ?_, ?_⟩
          · simp only [beq_iff_eq, hk, if_false, List.mem_range]; omega
          · have : l'.getLast?.getD 0 + 1 + ((x - (l'.getLast?.getD 0 + 1)).toNat : Int) = x := by omega
            simp only [beq_iff_eq, hk, if_false, this]
theorem less_snoc_eq (t : List Int) (c d : Int) : less (t ++ [c]) (t ++ [d]) = decide (c < d) := by
  induction t with
  | nil =>
    simp only [List.nil_append, less]
    by_cases e : c = d
    · subst e; simp
    · rw [if_neg e]
  | cons x t ih => simp only [List.cons_append, less, if_true]; exact ih
theorem choicesTo_sorted (n : Int) (k : Nat) : (choicesTo n k).Pairwise (fun a b => less a b = true) := by
  induction k with
  | zero => simp [choicesTo]
  | succ k ih =>
    rw [choicesTo, List.pairwise_flatMap]
    refine ⟨fun t _ => ?_, ih.imp_of_mem ?_⟩
    · unfold choiceStep
      rw [List.pairwise_map]
      refine (List.pairwise_lt_range (n := _)).imp ?_
      intro a b h
      rw [less_snoc_eq]
      simp; omega
    · intro a b ha hb hab x hx y hy
      unfold choiceStep at hx hy
      obtain ⟨i, _, rfl⟩ := List.mem_map.1 hx
      obtain ⟨j, _, rfl⟩ := List.mem_map.1 hy
      exact less_snoc a b _ _ (by rw [((choicesTo_mem n k a).1 ha).1, ((choicesTo_mem n k b).1 hb).1]) hab

/-- The first of the shortest ones. -/
def FirstOf (P : List Int → Prop) (l : List Int) : Prop := P l ∧ ∀ k, P k → k = l ∨ fewer l k = true
theorem fewer_asymm {a b : List Int} (h : fewer a b = true) : fewer b a = false := by
  unfold fewer at h ⊢
  by_cases e : a.length = b.length
  · rw [if_pos e] at h; rw [if_pos e.symm]; exact less_asymm _ _ h
  · rw [if_neg e] at h; rw [if_neg (fun h => e h.symm)]
    simp at h ⊢; omega
theorem fewer_trans {a b c : List Int} (h : fewer a b = true) (k : fewer b c = true) : fewer a c = true := by
  unfold fewer at h k ⊢
  by_cases e : a.length = b.length
  · rw [if_pos e] at h
    by_cases f : b.length = c.length
    · rw [if_pos f] at k; rw [if_pos (e.trans f)]; exact less_trans _ _ _ h k
    · rw [if_neg f] at k; rw [if_neg (by omega)]; simp at k ⊢; omega
  · rw [if_neg e] at h
    simp at h
    by_cases f : b.length = c.length
    · rw [if_pos f] at k; rw [if_neg (by omega)]; simp; omega
    · rw [if_neg f] at k; simp at k; rw [if_neg (by omega)]; simp; omega
theorem fewer_total {a b : List Int} (h : fewer a b = false) (h2 : fewer b a = false) : a = b := by
  unfold fewer at h h2
  by_cases e : a.length = b.length
  · rw [if_pos e] at h; rw [if_pos e.symm] at h2; exact less_total _ _ e h h2
  · rw [if_neg e] at h; rw [if_neg (fun h => e h.symm)] at h2
    simp at h h2; omega
theorem firstOf_one {P : List Int → Prop} {a b : List Int} (h : FirstOf P a) (k : FirstOf P b) : a = b := by
  rcases h.2 b k.1 with e | h1
  · exact e.symm
  · rcases k.2 a h.1 with e | h2
    · exact e
    · rw [fewer_asymm h1] at h2; cases h2
theorem firstOf_iff {P Q : List Int → Prop} (h : ∀ l, P l ↔ Q l) {l : List Int} (k : FirstOf P l) : FirstOf Q l := ⟨(h l).1 k.1, fun x hx => k.2 x ((h x).2 hx)⟩

theorem find_first {so : List Int → Bool} : ∀ {L : List (List Int)}, L.Pairwise (fun a b => less a b = true) → ∀ {l}, L.find? so = some l → l ∈ L ∧ so l = true ∧ ∀ k ∈ L, so k = true → k = l ∨ less l k = true
  | [], _, l, h => by simp at h
  | a :: L, hs, l, h => by
    rw [List.pairwise_cons] at hs
    cases ha : so a with
    | true =>
      rw [List.find?_cons_of_pos ha] at h
      cases h
      refine ⟨by simp, ha, fun k hk _ => ?_⟩
      rcases List.mem_cons.1 hk with e | hk
      · exact .inl e
      · exact .inr (hs.1 k hk)
    | false =>
      rw [List.find?_cons_of_neg (by simp [ha])] at h
      obtain ⟨h1, h2, h3⟩ := find_first hs.2 h
      refine ⟨by simp [h1], h2, fun k hk hso => ?_⟩
      rcases List.mem_cons.1 hk with e | hk
      · subst e; rw [ha] at hso; cases hso
      · exact h3 k hk hso
theorem find_no {so : List Int → Bool} {L : List (List Int)} (h : L.find? so = none) : ∀ k ∈ L, so k = false := by
  rw [List.find?_eq_none] at h
  intro k hk
  have := h k hk
  simpa using this
theorem searchFrom_spec (so : List Int → Bool) (n : Int) : ∀ (f k : Nat), (∀ l, searchFrom so n k f = some l → FirstOf (fun l => incr n l ∧ k ≤ l.length ∧ l.length < k + f ∧ so l = true) l) ∧ (searchFrom so n k f = none → ∀ l, incr n l → k ≤ l.length → l.length < k + f → so l = false)
  | 0, k => ⟨fun l h => by simp [searchFrom] at h, fun _ l _ h1 h2 => by omega⟩
  | f + 1, k => by
    cases hc : (choicesTo n k).find? so with
    | some l0 =>
      rw [search_some hc]
      refine ⟨fun l h => ?_, fun h => by cases h⟩
      cases h
      obtain ⟨h1, h2, h3⟩ := find_first (choicesTo_sorted n k) hc
      obtain ⟨h4, h5⟩ := (choicesTo_mem n k l0).1 h1
      refine ⟨⟨h5, by omega, by omega, h2⟩, fun x hx => ?_⟩
      obtain ⟨g1, g2, g3, g4⟩ := hx
      by_cases e : x.length = k
      · rcases h3 x ((choicesTo_mem n k x).2 ⟨e, g1⟩) g4 with h | h
        · exact .inl h
        · refine .inr ?_
          unfold fewer
          rw [if_pos (by omega)]
          exact h
      · refine .inr ?_
        unfold fewer
        rw [if_neg (by omega)]
        simp; omega
    | none =>
      rw [search_none hc]
      have hno := find_no hc
      obtain ⟨i1, i2⟩ := searchFrom_spec so n f (k + 1)
      have hk : ∀ l, incr n l → l.length = k → so l = false := fun l h1 h2 => hno l ((choicesTo_mem n k l).2 ⟨h2, h1⟩)
      refine ⟨fun l h => ?_, fun h l h1 h2 h3 => ?_⟩
      · have := i1 l h
        obtain ⟨⟨g1, g2, g3, g4⟩, g5⟩ := this
        refine ⟨⟨g1, by omega, by omega, g4⟩, fun x ⟨x1, x2, x3, x4⟩ => ?_⟩
        by_cases e : x.length = k
        · rw [hk x x1 e] at x4; cases x4
        · exact g5 x ⟨x1, by omega, by omega, x4⟩
      · by_cases e : l.length = k
        · exact hk l h1 e
        · exact i2 h l h1 (by omega) (by omega)
theorem incr_len {n : Nat} {l : List Int} (h : incr n l) : l.length ≤ n := by
  induction n generalizing l with
  | zero =>
    cases l with
    | nil => simp
    | cons a l => have := h.2 a (by simp); omega
  | succ n ih =>
    rcases nil_snoc l with rfl | ⟨l', x, rfl⟩
    · simp
    · obtain ⟨h3, h4, h5⟩ := incr_snoc.1 h
      have := ih (l := l') ⟨h3.1, fun y hy => ⟨(h3.2 y hy).1, by have := h4 y hy; omega⟩⟩
      simp; omega

/-- Bits as lists. -/
theorem bits_incr (s n : Nat) : incr n (bitsList s n) := by
  unfold bitsList incr
  refine ⟨?_, fun x hx => ?_⟩
  · rw [List.pairwise_map]
    refine List.Pairwise.filter _ ?_
    exact (List.pairwise_lt_range (n := n)).imp (fun h => by omega)
  · obtain ⟨i, hi, rfl⟩ := List.mem_map.1 hx
    have := (List.mem_filter.1 hi).1
    simp at this
    omega
theorem bits_mem (s n : Nat) (x : Int) : x ∈ bitsList s n ↔ 0 ≤ x ∧ x < n ∧ s.testBit x.toNat = true := by
  unfold bitsList
  rw [List.mem_map]
  constructor
  · rintro ⟨i, hi, rfl⟩
    obtain ⟨h1, h2⟩ := List.mem_filter.1 hi
    simp at h1
    exact ⟨by omega, by omega, by simpa using h2⟩
  · rintro ⟨h1, h2, h3⟩
    exact ⟨x.toNat, List.mem_filter.2 ⟨by simp; omega, h3⟩, by omega⟩
theorem incr_ext : ∀ {a b : List Int}, a.Pairwise (fun x y => x < y) → b.Pairwise (fun x y => x < y) → (∀ x, x ∈ a ↔ x ∈ b) → a = b
  | [], [], _, _, _ => rfl
  | [], y :: ys, _, _, h => by have := (h y).2 (by simp); simp at this
  | x :: xs, [], _, _, h => by have := (h x).1 (by simp); simp at this
  | x :: xs, y :: ys, ha, hb, h => by
    rw [List.pairwise_cons] at ha hb
    have e : x = y := by
      have h1 := (h x).1 (by simp)
      have h2 := (h y).2 (by simp)
      rcases List.mem_cons.1 h1 with e | h1
      · exact e
      · rcases List.mem_cons.1 h2 with e | h2
        · exact e.symm
        · have := ha.1 y h2; have := hb.1 x h1; omega
    subst e
    rw [incr_ext ha.2 hb.2 (fun z => ?_)]
    constructor
    · intro hz
      rcases List.mem_cons.1 ((h z).1 (by simp [hz])) with e | h1
      · subst e; have := ha.1 z hz; omega
      · exact h1
    · intro hz
      rcases List.mem_cons.1 ((h z).2 (by simp [hz])) with e | h1
      · subst e; have := hb.1 z hz; omega
      · exact h1
/-- A list as bits. -/
def setOf (l : List Int) : Nat := l.foldl (fun s x => s ||| (1 <<< x.toNat)) 0
theorem setOf_bit (l : List Int) (k : Nat) (hl : ∀ x ∈ l, 0 ≤ x) : (setOf l).testBit k = decide ((k : Int) ∈ l) := by
  unfold setOf
  suffices h : ∀ (l : List Int) (s : Nat), (∀ x ∈ l, 0 ≤ x) → (l.foldl (fun s x => s ||| (1 <<< x.toNat)) s).testBit k = (s.testBit k || decide ((k : Int) ∈ l)) from by
    have := h l 0 hl; simpa using this
  intro l
  induction l with
  | nil => intro s _; simp
  | cons a l ih =>
    intro s h
    rw [List.foldl_cons, ih _ (fun x hx => h x (by simp [hx])), Nat.testBit_or, Nat.one_shiftLeft, Nat.testBit_two_pow, Bool.or_assoc]
    congr 1
    have ha := h a (by simp)
    rw [Bool.eq_iff_iff]
    simp only [Bool.or_eq_true, decide_eq_true_eq, List.mem_cons]
    constructor
    · rintro (h | h)
      · exact .inl (by omega)
      · exact .inr h
    · rintro (h | h)
      · exact .inl (by omega)
      · exact .inr h
theorem setOf_lt (l : List Int) (n : Nat) (hl : ∀ x ∈ l, 0 ≤ x ∧ x < n) : setOf l < 2 ^ n := by
  unfold setOf
  suffices h : ∀ (l : List Int) (s : Nat), s < 2 ^ n → (∀ x ∈ l, 0 ≤ x ∧ x < n) → l.foldl (fun s x => s ||| (1 <<< x.toNat)) s < 2 ^ n from h l 0 (Nat.two_pow_pos n) hl
  intro l
  induction l with
  | nil => intro s hs _; exact hs
  | cons a l ih =>
    intro s hs h
    rw [List.foldl_cons]
    refine ih _ (Nat.or_lt_two_pow hs ?_) (fun x hx => h x (by simp [hx]))
    rw [Nat.one_shiftLeft]
    have := h a (by simp)
    exact Nat.pow_lt_pow_right (by omega) (by omega)
theorem setOf_bits {l : List Int} {n : Nat} (h : incr n l) : bitsList (setOf l) n = l := by
  refine incr_ext (bits_incr _ n).1 h.1 (fun x => ?_)
  rw [bits_mem]
  constructor
  · rintro ⟨h1, h2, h3⟩
    rw [setOf_bit l _ (fun x hx => (h.2 x hx).1)] at h3
    have e : ((x.toNat : Nat) : Int) = x := by omega
    rw [e] at h3
    simpa using h3
  · intro hx
    have := h.2 x hx
    refine ⟨this.1, this.2, ?_⟩
    rw [setOf_bit l _ (fun x hx => (h.2 x hx).1)]
    have e : ((x.toNat : Nat) : Int) = x := by omega
    rw [e]
    simpa using hx

/-- What fewest has found among the sets below k. -/
def Found (n : Nat) (so : Nat → Bool) (k : Nat) (best : List Int) (found : Bool) : Prop :=
  (found = false → best = [] ∧ ∀ s, s < k → so s = false) ∧ (found = true → FirstOf (fun l => ∃ s, s < k ∧ so s = true ∧ l = bitsList s n) best)
theorem found_zero (n : Nat) (so : Nat → Bool) : Found n so 0 [] false := ⟨fun _ => ⟨rfl, fun s h => by omega⟩, fun h => by cases h⟩
theorem found_skip {n k : Nat} {so : Nat → Bool} {best : List Int} (h : Found n so k best true) (hf : bitsList k n = best ∨ fewer best (bitsList k n) = true) : Found n so (k + 1) best true := by
  refine ⟨(fun h => by cases h), fun _ => ?_⟩
  obtain ⟨⟨s, h1, h2, h3⟩, h4⟩ := h.2 rfl
  refine ⟨⟨s, by omega, h2, h3⟩, fun x ⟨t, t1, t2, t3⟩ => ?_⟩
  by_cases e : t < k
  · exact h4 x ⟨t, e, t2, t3⟩
  · have : t = k := by omega
    subst this
    rw [t3]
    exact hf
theorem found_no {n k : Nat} {so : Nat → Bool} {best : List Int} {found : Bool} (h : Found n so k best found) (hs : so k = false) : Found n so (k + 1) best found := by
  refine ⟨fun e => ⟨(h.1 e).1, fun s hs' => ?_⟩, fun e => ?_⟩
  · by_cases e2 : s < k
    · exact (h.1 e).2 s e2
    · have : s = k := by omega
      subst this
      exact hs
  · obtain ⟨⟨s, h1, h2, h3⟩, h4⟩ := h.2 e
    refine ⟨⟨s, by omega, h2, h3⟩, fun x ⟨t, t1, t2, t3⟩ => ?_⟩
    by_cases e : t < k
    · exact h4 x ⟨t, e, t2, t3⟩
    · have : t = k := by omega
      subst this
      rw [hs] at t2; cases t2
theorem found_yes {n k : Nat} {so : Nat → Bool} {best : List Int} {found : Bool} (h : Found n so k best found) (hs : so k = true) (hf : found = true → fewer best (bitsList k n) = false) : Found n so (k + 1) (bitsList k n) true := by
  refine ⟨(fun e => by cases e), fun _ => ⟨⟨k, by omega, hs, rfl⟩, fun x ⟨t, t1, t2, t3⟩ => ?_⟩⟩
  by_cases e : t < k
  · cases found with
    | false => rw [(h.1 rfl).2 t e] at t2; cases t2
    | true =>
      have h1 := hf rfl
      rcases (h.2 rfl).2 x ⟨t, e, t2, t3⟩ with e2 | h2
      · cases h3 : fewer (bitsList k n) best with
        | true => rw [e2]; exact .inr h3
        | false => rw [e2]; exact .inl (fewer_total h1 h3)
      · cases h3 : fewer (bitsList k n) best with
        | true => exact .inr (fewer_trans h3 h2)
        | false => rw [← fewer_total h1 h3]; exact .inr h2
  · have : t = k := by omega
    subst this
    exact .inl t3
theorem hasB_bits (s n : Nat) (i : Nat) (h : i < n) : hasB (bitsList s n) i = s.testBit i := by
  rw [Bool.eq_iff_iff, hasB_iff, bits_mem]
  constructor
  · rintro ⟨_, _, h⟩; simpa using h
  · intro h2; exact ⟨by omega, by omega, by simpa using h2⟩

end Go.Proofs.YtelmponkmmfffaaGreat
namespace Go.Proofs.YtelmponkmmfffaaGreat

structure DeW where
  name : ByteArray
  kinds : Int
  lo : Int
  hi : Int
structure DeC where
  name : ByteArray
  kind : Int
  lo : Int
  hi : Int
  ship : Int
structure DeH where
  wax : Int
  writers : List DeW
  customers : List DeC

/-- 'Ends' of a span: 7: out of range; 2: turned round. -/
def endsE (lo hi a b : Int) : Int := if inB lo a b && inB hi a b then (if hi < lo then 2 else 0) else 7
def deWErrOf (w : DeW) : Int := if inB w.kinds 0 15 then endsE w.lo w.hi 0 240 else 7
def deCErrOf (c : DeC) : Int := if inB c.kind 0 3 && inB c.ship 0 240 then endsE c.lo c.hi 1 30 else 7
def deWErr (h : DeH) (i : Nat) : Int := match h.writers[i]? with
  | some w => if fresh w.name ((h.writers.take i).map (·.name)) = 0 then deWErrOf w else fresh w.name ((h.writers.take i).map (·.name))
  | none => 0
def deCErr (h : DeH) (i : Nat) : Int := match h.customers[i]? with
  | some c => if fresh c.name ((h.customers.take i).map (·.name)) = 0 then deCErrOf c else fresh c.name ((h.customers.take i).map (·.name))
  | none => 0
def deCheck (h : DeH) : Int × Int × Int :=
  if inB h.wax 0 5 then checkPart 2 h.writers.length 3 (deWErr h) (checkPart 3 h.customers.length 5 (deCErr h) (0, 0, 0)) else (1, 0, 7)
/-- The error of a hall: 0: it is valid. -/
def deErr (h : DeH) : Int := (deCheck h).2.2

def writerAt (h : DeH) (w : Nat) : DeW := h.writers[w]?.getD ⟨ByteArray.empty, 0, 0, 0⟩
def customerAt (h : DeH) (c : Nat) : DeC := h.customers[c]?.getD ⟨ByteArray.empty, 0, 0, 0, 0⟩
/-- 'Can'. -/
def canD (h : DeH) (w c : Nat) : Bool := bitB (writerAt h w).kinds (customerAt h c).kind.toNat

/-- Some number stands twice. -/
def twiceB : List Int → Bool
  | [] => false
  | x :: l => hasB l x || twiceB l
/-- Somebody who cannot write some letter has it. -/
def wrongB (h : DeH) : Nat → List (List Int) → Bool
  | _, [] => false
  | w, l :: p => l.any (fun c => !canD h w c.toNat) || wrongB h (w + 1) p
/-- 'Plan': the error of a hall and a plan. -/
def dePlanErr (h : DeH) (p : List (List Int)) : Int :=
  if deErr h = 0 then
    if p.length = h.writers.length then
      if p.flatten.all (fun c => inB c 0 ((h.customers.length : Int) - 1)) then
        if twiceB p.flatten then 5 else if wrongB h 0 p then 2 else if p.flatten.length < h.customers.length then 8 else 0
      else 4
    else 3
  else deErr h

/-- The letters of one writer, sealed one behind the other. -/
def sealRow (h : DeH) : List Int → Int × Int → List (Int × Int) → List (Int × Int)
  | [], _, out => out
  | c :: l, s, out => sealRow h l (s.1 + (customerAt h c.toNat).lo + h.wax, s.2 + (customerAt h c.toNat).hi + h.wax) (out.set c.toNat (s.1 + (customerAt h c.toNat).lo + h.wax, s.2 + (customerAt h c.toNat).hi + h.wax))
def sealRows (h : DeH) : Nat → List (List Int) → List (Int × Int) → List (Int × Int)
  | _, [], out => out
  | w, l :: p, out => sealRows h (w + 1) p (sealRow h l ((writerAt h w).lo, (writerAt h w).hi) out)
/-- 'Sealed': when letters are sealed, at least and at most. -/
def deSealed (h : DeH) (p : List (List Int)) : List (Int × Int) := sealRows h 0 p (List.replicate h.customers.length (0, 0))
def deEnds (h : DeH) (p : List (List Int)) : List (Int × Int) × Int := if dePlanErr h p = 0 then (deSealed h p, 0) else ([], dePlanErr h p)

/-- 'Does' from a customer on: 2: never; 0: may be; 1: surely. -/
def doesFrom (h : DeH) : Nat → List (Int × Int) → Int → Int
  | _, [], out => out
  | c, s :: l, out => if (customerAt h c).ship < s.1 then 2 else doesFrom h (c + 1) l (if (customerAt h c).ship < s.2 then 0 else out)
def deDoes (h : DeH) (p : List (List Int)) : Int := doesFrom h 0 (deSealed h p) 1
def deFate (h : DeH) (p : List (List Int)) : Int × Int := if dePlanErr h p = 0 then (deDoes h p, 0) else (0, dePlanErr h p)

/-- 'Late' from a customer on: the first of the least ships that may be missed. -/
def lateFrom (h : DeH) : Nat → List (Int × Int) → Option Nat → Option Nat
  | _, [], out => out
  | c, s :: l, out => lateFrom h (c + 1) l (if decide ((customerAt h c).ship < s.2) && (match out with | none => true | some f => decide ((customerAt h c).ship < (customerAt h f).ship)) then some c else out)
def deLate (h : DeH) (p : List (List Int)) : Int × Int :=
  if dePlanErr h p = 0 then (match lateFrom h 0 (deSealed h p) none with | some c => ((c : Int), 0) | none => (0, 9)) else (0, dePlanErr h p)

/-- 'Before': the first list that differs decides. -/
def beforeD : List (List Int) → List (List Int) → Bool
  | x :: a, y :: b => if x = y then beforeD a b else less x y
  | _, _ => false
/-- 'Plans', customer by customer. -/
def insertAt (p : List (List Int)) (w i : Nat) (c : Int) : List (List Int) := p.modify w fun l => l.take i ++ c :: l.drop i
def planPut (h : DeH) (c : Nat) (p : List (List Int)) : List (List (List Int)) :=
  (List.range h.writers.length).flatMap fun w => if canD h w c then (List.range ((p[w]?.getD []).length + 1)).map fun i => insertAt p w i (c : Int) else []
def dePlansTo (h : DeH) : Nat → List (List (List Int))
  | 0 => [List.replicate h.writers.length []]
  | c + 1 => (dePlansTo h c).flatMap (planPut h c)
def dePlans (h : DeH) : List (List (List Int)) := dePlansTo h h.customers.length
/-- 'Over': when a plan is over, at the latest. -/
def deOver (h : DeH) (p : List (List Int)) : Int := (deSealed h p).foldl (fun n s => max n s.2) 0
def someD (h : DeH) : Bool := (dePlans h).any fun p => decide (deDoes h p = 1)

/-- 'Best', plan by plan. -/
def bestStepD (h : DeH) (b : Option (List (List Int) × Int)) (p : List (List Int)) : Option (List (List Int) × Int) :=
  if deDoes h p = 1 then (match b with
    | none => some (p, deOver h p)
    | some (q, n) => if deOver h p < n ∨ (deOver h p = n ∧ beforeD p q = true) then some (p, deOver h p) else some (q, n)) else b
def bestD (h : DeH) : Option (List (List Int) × Int) := (dePlans h).foldl (bestStepD h) none
def deBest (h : DeH) : List (List Int) × Int × Int :=
  if deErr h = 0 then (match bestD h with | some (p, n) => (p, n, 0) | none => ([], 0, 9)) else ([], 0, deErr h)

/-- 'Only' some writers; 'But' some customers. -/
def onlyD (h : DeH) (l : List Int) : DeH := { h with writers := l.map fun i => writerAt h i.toNat }
def butD (h : DeH) (l : List Int) : DeH := { h with customers := (List.range h.customers.length).filterMap fun (i : Nat) => if hasB l (i : Int) then none else h.customers[i]? }
def deEnough (h : DeH) : List Int × Int :=
  if deErr h = 0 then (match searchFrom (fun l => someD (onlyD h l)) h.writers.length 0 (h.writers.length + 1) with | some l => (l, 0) | none => ([], 9)) else ([], deErr h)
def deAway (h : DeH) : List Int × Int :=
  if deErr h = 0 then ((searchFrom (fun l => someD (butD h l)) h.customers.length 0 h.customers.length).getD ((choicesTo h.customers.length h.customers.length).headD []), 0) else ([], deErr h)
/-- 'Shipped', and 'Later'. -/
def shippedD (h : DeH) (c : Nat) (minute : Int) : DeH := { h with customers := h.customers.modify c fun x => { x with ship := minute } }
def laterErr (h : DeH) (c : Int) : Int := if deErr h = 0 then (if inB c 0 ((h.customers.length : Int) - 1) then 0 else 4) else deErr h
def laterStep (h last : DeH) (c : Nat) (b : Option Int) (p : List (List Int)) : Option Int :=
  if deDoes last p = 1 then (match b with
    | none => some (max 0 (((deSealed h p)[c]?.getD (0, 0)).2 - (customerAt h c).ship))
    | some n => if max 0 (((deSealed h p)[c]?.getD (0, 0)).2 - (customerAt h c).ship) < n then some (max 0 (((deSealed h p)[c]?.getD (0, 0)).2 - (customerAt h c).ship)) else some n) else b
def deLater (h : DeH) (c : Int) : Int × Int :=
  if laterErr h c = 0 then (match (dePlans h).foldl (laterStep h (shippedD h c.toNat 240) c.toNat) none with | some n => (n, 0) | none => (0, 9)) else (0, laterErr h c)
end Go.Proofs.YtelmponkmmfffaaGreat
