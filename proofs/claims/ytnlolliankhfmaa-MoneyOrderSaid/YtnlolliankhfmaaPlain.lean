/- What is proved here: plain Lean functions for the small helpers of the references (escribanoref01), and plain facts on them. No program. No condition. -/
/- What is proved here: plain Lean functions for layer 7 (money), as the reference has them. No program. No condition. -/
/- What is proved here: plain facts on the functions of layer 7: what a valid list is like, how many truths there can be. No program. No condition. -/
/- What is proved here: plain Lean functions for the answers of layer 7, as the reference has them. No program. No condition. -/
/- What is proved here: plain Lean functions and facts for dues, payments, needs of layer 7. No program. No condition. -/
/- What is proved here: plain facts on payments that were right, searches, of layer 7. No program. No condition. -/
/- What is proved here: plain facts on lists some of whose words have come, too. No program. No condition. -/
/- What is proved here: plain facts on lists some of whose words have come, too: they are valid. No program. No condition. -/
/- What is proved here: plain Lean functions and facts for the search of the words to wait for. No program. No condition. -/
/- What is proved here: plain Lean functions and facts for how the program of layer 7 looks at a list: words that have come as bits, truths in depth first order. No program. No condition. -/
/- What is proved here: plain facts on truths in depth first order, step by step. No program. No condition. -/
/- What is proved here: plain facts on what claimants are owed, as a list of four. No program. No condition. -/
/- What is proved here: plain facts on a list that is looked at: words that have come as bits, for whom sums can be as bits. No program. No condition. -/
/- What is proved here: truths stand in order, each once. No program. No condition. -/
/- What is proved here: plain facts on words that have come as bits: a list that is looked at with no word more is the list itself. No program. No condition. -/
/- What is proved here: plain facts: for whom sums can be, as bits and as lists. No program. No condition. -/
/- What is proved here: plain facts: the least of truths, in whatever order they come, is the first. No program. No condition. -/
/- What is proved here: plain facts: the least and the most that is due, in whatever order the truths come. No program. No condition. -/
/- What is proved here: plain facts: the first of the shortest lists of numbers that are so, however it is sought. No program. No condition. -/
/- What is proved here: plain facts: payments that were right, sums that are held, words to wait for, by bits as by lists. No program. No condition. -/
/- What is proved here: plain facts: the words to wait for are the first of the shortest lists of late words that decide. No program. No condition. -/
/- What is proved here: the plain functions' answers at the two lists of the examples, by computation. No condition. -/

set_option linter.unusedVariables false
set_option linter.unusedSimpArgs false
namespace Go.Proofs.Ytnlolliankhfmaa

/-- 'In'. -/
def inB (n lo hi : Int) : Bool := decide (lo ≤ n) && decide (n ≤ hi)
theorem inB_iff {n lo hi : Int} : inB n lo hi = true ↔ lo ≤ n ∧ n ≤ hi := by simp [inB]
theorem inB_no {n lo hi : Int} : inB n lo hi = false ↔ n < lo ∨ hi < n := by
  cases h : inB n lo hi
  · have : ¬ (lo ≤ n ∧ n ≤ hi) := fun h' => by rw [inB_iff.2 h'] at h; cases h
    simp; omega
  · have := inB_iff.1 h
    simp; omega

/-- 'Has'. -/
def hasB (l : List Int) (n : Int) : Bool := l.any (· == n)
theorem hasB_iff {l : List Int} {n : Int} : hasB l n = true ↔ n ∈ l := by
  simp [hasB]
theorem hasB_snoc (l : List Int) (k : Nat) (h : k < l.length) (n : Int) : hasB (l.take (k+1)) n = (hasB (l.take k) n || (l[k] == n)) := by
  unfold hasB
  rw [List.take_succ_eq_append_getElem h, List.any_append]
  simp

/-- 'Less': lists of numbers, the first number that differs decides. -/
def less : List Int → List Int → Bool
  | _, [] => false
  | [], _ :: _ => true
  | x :: xs, y :: ys => if x = y then less xs ys else decide (x < y)
theorem less_drop (a b : List Int) (k : Nat) (ha : k < a.length) (hb : k < b.length) :
    less (a.drop k) (b.drop k) = if a[k] = b[k] then less (a.drop (k+1)) (b.drop (k+1)) else decide (a[k] < b[k]) := by
  rw [List.drop_eq_getElem_cons ha, List.drop_eq_getElem_cons hb, less]
theorem less_end (a b : List Int) (k : Nat) (hb : b.length ≤ k) : less (a.drop k) (b.drop k) = false := by
  rw [List.drop_of_length_le hb]; cases a.drop k <;> rfl
theorem less_short (a b : List Int) (k : Nat) (ha : a.length ≤ k) (hb : k < b.length) : less (a.drop k) (b.drop k) = true := by
  rw [List.drop_of_length_le ha, List.drop_eq_getElem_cons hb]; rfl
theorem less_irrefl (a : List Int) : less a a = false := by
  induction a with
  | nil => rfl
  | cons x xs ih => simp [less, ih]
theorem less_total : ∀ (a b : List Int), a.length = b.length → less a b = false → less b a = false → a = b
  | [], [], _, _, _ => rfl
  | x :: xs, y :: ys, hl, h1, h2 => by
    simp only [less] at h1 h2
    by_cases e : x = y
    · subst e
      simp only [if_true] at h1 h2
      rw [less_total xs ys (by simpa using hl) h1 h2]
    · rw [if_neg e] at h1
      rw [if_neg (fun h => e h.symm)] at h2
      simp at h1 h2
      omega
theorem less_asymm : ∀ (a b : List Int), less a b = true → less b a = false
  | [], [], h => by simp [less] at h
  | [], y :: ys, _ => rfl
  | x :: xs, [], h => by simp [less] at h
  | x :: xs, y :: ys, h => by
    simp only [less] at h ⊢
    by_cases e : x = y
    · subst e
      simp only [if_true] at h ⊢
      exact less_asymm xs ys h
    · rw [if_neg e] at h
      rw [if_neg (fun h => e h.symm)]
      simp at h ⊢
      omega
theorem less_trans : ∀ (a b c : List Int), less a b = true → less b c = true → less a c = true
  | [], [], _, h, _ => by simp [less] at h
  | x :: xs, [], _, h, _ => by simp [less] at h
  | _, y :: ys, [], _, h => by simp [less] at h
  | [], y :: ys, z :: zs, _, _ => rfl
  | x :: xs, y :: ys, z :: zs, h, k => by
    simp only [less] at h k ⊢
    by_cases e : x = y
    · subst e
      simp only [if_true] at h
      by_cases f : x = z
      · subst f
        simp only [if_true] at k ⊢
        exact less_trans xs ys zs h k
      · rw [if_neg f] at k ⊢
        exact k
    · rw [if_neg e] at h
      simp at h
      by_cases f : y = z
      · subst f
        rw [if_neg e]
        simpa using h
      · rw [if_neg f] at k
        simp at k
        rw [if_neg (by omega)]
        simp
        omega

/-- 'Ints'. -/
def intsB (a b : List Int) : Bool := decide (a.length = b.length) && !less a b && !less b a
theorem intsB_iff {a b : List Int} : intsB a b = true ↔ a = b := by
  constructor
  · intro h
    simp [intsB] at h
    exact less_total a b h.1.1 h.1.2 h.2
  · rintro rfl
    simp [intsB, less_irrefl]

/-- 'Fewer'. -/
def fewer (a b : List Int) : Bool := if a.length = b.length then less a b else decide (a.length < b.length)

/-- 'Rising': ascending numbers from behind 'last' to below 'below'. -/
def risingFrom (last below : Int) : List Int → Bool
  | [] => true
  | x :: xs => decide (last < x) && decide (x < below) && risingFrom x below xs
def rising (l : List Int) (below : Int) : Bool := risingFrom (-1) below l

/-- 'Bit'. -/
def bitB (n : Int) (k : Nat) : Bool := n.toNat.testBit k
theorem bit_zero (n : Int) : bitB n 0 = decide (n.tmod 2 = 1) := by
  unfold bitB
  rw [Nat.testBit_zero]
  by_cases h : 0 ≤ n
  · obtain ⟨m, rfl⟩ := Int.eq_ofNat_of_zero_le h
    simp only [Int.toNat_natCast]
    have : ((m : Int).tmod 2) = ((m % 2 : Nat) : Int) := by rw [Int.tmod_eq_emod_of_nonneg (by omega)]; omega
    rw [this]
    by_cases h : m % 2 = 1 <;> simp [h] <;> omega
  · have h0 : n.toNat = 0 := by omega
    rw [h0]
    have : n.tmod 2 ≤ 0 := by
      have := Int.tmod_nonneg 2 (a := -n) (by omega)
      rw [Int.neg_tmod] at this
      omega
    simp
    omega
theorem bit_succ (n : Int) (k : Nat) : bitB n (k+1) = bitB (n.tdiv 2) k := by
  unfold bitB
  by_cases h : 0 ≤ n
  · obtain ⟨m, rfl⟩ := Int.eq_ofNat_of_zero_le h
    have : ((m : Int).tdiv 2) = ((m / 2 : Nat) : Int) := by rw [Int.tdiv_eq_ediv_of_nonneg (by omega)]; omega
    rw [this]
    simp only [Int.toNat_natCast, Nat.testBit_succ]
  · have h0 : n.toNat = 0 := by omega
    have h1 : (n.tdiv 2).toNat = 0 := by
      have : n.tdiv 2 ≤ 0 := by
        have := Int.tdiv_nonneg (a := -n) (b := 2) (by omega) (by omega)
        rw [Int.neg_tdiv] at this
        omega
      omega
    rw [h0, h1]
    simp

theorem half_bd (x : Int) (h1 : -9223372036854775808 ≤ x) (h2 : x ≤ 9223372036854775807) : -9223372036854775808 ≤ x.tdiv 2 ∧ x.tdiv 2 ≤ 9223372036854775807 := by
  by_cases h : 0 ≤ x
  · rw [Int.tdiv_eq_ediv_of_nonneg h]
    omega
  · have := Int.neg_tdiv x 2
    rw [Int.tdiv_eq_ediv_of_nonneg (show 0 ≤ -x by omega)] at this
    omega

/-- 'Where'. -/
def whereFrom (l : List ByteArray) (s : ByteArray) (k : Nat) : Int :=
  match l with
  | [] => -1
  | x :: xs => if x = s then k else whereFrom xs s (k+1)
def whereI (l : List ByteArray) (s : ByteArray) : Int := whereFrom l s 0

/-- A name's bytes: from 'a' to 'z', or, not at the beginning, a dot or a digit. -/
def low (c : UInt8) : Bool := decide (97 ≤ c.toNat) && decide (c.toNat ≤ 122)
def late (c : UInt8) : Bool := c.toNat == 46 || (decide (48 ≤ c.toNat) && decide (c.toNat ≤ 57))
def nameFrom (k : Nat) : List UInt8 → Bool
  | [] => true
  | c :: cs => (low c || (decide (0 < k) && late c)) && nameFrom (k+1) cs
def nameB (s : ByteArray) : Bool := decide (1 ≤ s.size) && decide (s.size ≤ 16) && nameFrom 0 s.data.toList

/-- 'Fresh': the error of a name that must not be one of some before it (6: no name; 5: it is there already). -/
def hasS (l : List ByteArray) (s : ByteArray) : Bool := l.any fun x => decide (x = s)
def fresh (s : ByteArray) (before : List ByteArray) : Int := if nameB s then (if hasS before s then 5 else 0) else 6

/-- 'Choices', round by round. -/
def choiceStep (below : Int) (first : Bool) (l : List Int) : List (List Int) :=
  let least : Int := if first then 0 else l.getLast?.getD 0 + 1
  (List.range (below - least).toNat).map fun (j : Nat) => l ++ [least + (j : Int)]
def choicesTo (below : Int) : Nat → List (List Int)
  | 0 => [[]]
  | i + 1 => (choicesTo below i).flatMap (choiceStep below (i == 0))
def choices (below many : Int) : List (List Int) := choicesTo below many.toNat
end Go.Proofs.Ytnlolliankhfmaa
namespace Go.Proofs.Ytnlolliankhfmaa

structure MoSum where
  name : ByteArray
  pence : Int
  for_ : Int
structure MoWord where
  says : Int
  sum : Int
  of : Int
  back : Int
  came : Bool
structure MoPaid where
  sum : Int
  claimant : Int
structure MoList where
  claimants : List ByteArray
  sums : List MoSum
  words : List MoWord
  paid : List MoPaid

/-- The first index below n at which f is not 0. -/
def firstErr (n : Nat) (f : Nat → Int) : Option Nat := (List.range n).find? fun i => f i != 0
theorem firstErr_none {n : Nat} {f : Nat → Int} (h : ∀ i, i < n → f i = 0) : firstErr n f = none := by
  unfold firstErr
  rw [List.find?_eq_none]
  intro i hi
  simp at hi
  simp [h i hi]
theorem firstErr_some {n k : Nat} {f : Nat → Int} (hk : k < n) (h : ∀ i, i < k → f i = 0) (hf : f k ≠ 0) : firstErr n f = some k := by
  unfold firstErr
  rw [List.find?_eq_some_iff_append]
  refine ⟨by simpa using hf, List.range k, (List.range' (k+1) (n - k - 1)), ?_, ?_⟩
  · rw [List.range_eq_range', List.range_eq_range', ← List.range'_succ, show n = k + (n - k - 1 + 1) from by omega, ← List.range'_append]
    congr 2 <;> omega
  · intro i hi
    simp at hi
    simp [h i hi]
theorem firstErr_zero {n : Nat} {f : Nat → Int} (h : firstErr n f = none) : ∀ i, i < n → f i = 0 := by
  intro i hi
  unfold firstErr at h
  rw [List.find?_eq_none] at h
  have := h i (by simpa using hi)
  simpa using this

/-- The bits of so many claimants. -/
def allBits (n : Nat) : Int := 2 ^ n - 1

def claimErr (m : MoList) (i : Nat) : Int := match m.claimants[i]? with | some s => fresh s (m.claimants.take i) | none => 0
def sumErr (m : MoList) (i : Nat) : Int := match m.sums[i]? with
  | some s => if fresh s.name ((m.sums.take i).map MoSum.name) = 0 then (if inB s.pence 1 99 && inB s.for_ 1 (allBits m.claimants.length) then 0 else 7) else fresh s.name ((m.sums.take i).map MoSum.name)
  | none => 0
def wordErrOf (claimants sums words : Nat) (i : Nat) (w : MoWord) : Int :=
  if inB w.says 0 3 then
    (if inB w.sum 0 (sums - 1) && inB w.of 0 ((if 2 ≤ w.says then (sums : Int) else claimants) - 1) && inB w.back (-1) (words - 1) then
      (if w.back = i ∨ (2 ≤ w.says ∧ w.of = w.sum) then 2 else 0) else 4) else 7
def wordErr (m : MoList) (i : Nat) : Int := match m.words[i]? with | some w => wordErrOf m.claimants.length m.sums.length m.words.length i w | none => 0
def paidErr (m : MoList) (i : Nat) : Int := match m.paid[i]? with | some p => if inB p.sum 0 (m.sums.length - 1) && inB p.claimant 0 (m.claimants.length - 1) then 0 else 4 | none => 0

/-- One part of the check: too many (3), or the first with an error. -/
def checkPart (part : Int) (len most : Nat) (f : Nat → Int) (next : Int × Int × Int) : Int × Int × Int :=
  if most < len then (part, 0, 3) else match firstErr len f with | some i => (part, i, f i) | none => next
def check (m : MoList) : Int × Int × Int :=
  checkPart 1 m.claimants.length 4 (claimErr m) (checkPart 2 m.sums.length 5 (sumErr m) (checkPart 3 m.words.length 6 (wordErr m) (checkPart 4 m.paid.length 5 (paidErr m) (0, 0, 0))))

theorem checkPart_long {part : Int} {len most : Nat} {f : Nat → Int} {next : Int × Int × Int} (h : most < len) : checkPart part len most f next = (part, 0, 3) := by unfold checkPart; rw [if_pos h]
theorem checkPart_err {part : Int} {len most k : Nat} {f : Nat → Int} {next : Int × Int × Int} (h : len ≤ most) (hk : k < len) (h0 : ∀ i, i < k → f i = 0) (hf : f k ≠ 0) : checkPart part len most f next = (part, (k : Int), f k) := by
  unfold checkPart; rw [if_neg (by omega), firstErr_some hk h0 hf]
theorem checkPart_ok {part : Int} {len most : Nat} {f : Nat → Int} {next : Int × Int × Int} (h : len ≤ most) (h0 : ∀ i, i < len → f i = 0) : checkPart part len most f next = next := by
  unfold checkPart; rw [if_neg (by omega), firstErr_none h0]

/-- The error of a list: 0: it is valid. -/
def errOf (m : MoList) : Int := (check m).2.2

def counts (m : MoList) (i : Nat) : Bool := match m.words[i]? with
  | some w => w.came && m.words.all fun x => !(x.came && decide (x.back = (i : Int)))
  | none => false

/-- What a word says is so, by claimants of the first sums. -/
def so (w : MoWord) (t : List Int) : Bool :=
  if (t.length : Int) ≤ w.sum then true
  else if w.says = 0 then decide (t[w.sum.toNat]?.getD 0 = w.of)
  else if w.says = 1 then decide (t[w.sum.toNat]?.getD 0 ≠ w.of)
  else if w.says = 2 then decide ((t.length : Int) ≤ w.of) || decide (t[w.sum.toNat]?.getD 0 = t[w.of.toNat]?.getD 0)
  else decide ((t.length : Int) ≤ w.of) || decide (t[w.sum.toNat]?.getD 0 ≠ t[w.of.toNat]?.getD 0)

/-- All words that count are so. -/
def wordsSo (m : MoList) (t : List Int) : Bool := (List.range m.words.length).all fun i => !counts m i || match m.words[i]? with | some w => so w t | none => true
def fine (m : MoList) (i : Nat) (t : List Int) (c : Nat) : Bool := bitB (match m.sums[i]? with | some s => s.for_ | none => 0) c && wordsSo m (t ++ [(c : Int)])
def truthStep (m : MoList) (i : Nat) (t : List Int) : List (List Int) :=
  ((List.range m.claimants.length).filter fun c => fine m i t c).map fun (c : Nat) => t ++ [(c : Int)]
def truthsTo (m : MoList) : Nat → List (List Int)
  | 0 => [[]]
  | i + 1 => (truthsTo m i).flatMap (truthStep m i)
def truths (m : MoList) : List (List Int) := truthsTo m m.sums.length

/-- Claimants whom a sum is for in some of some truths. -/
def whom (n : Nat) (all : List (List Int)) (sum : Nat) : List Int :=
  ((List.range n).filter fun (c : Nat) => all.any fun t => decide (t[sum]?.getD 0 = (c : Int))).map fun (c : Nat) => (c : Int)
def unsure (m : MoList) (all : List (List Int)) : List Int :=
  ((List.range m.sums.length).filter fun i => decide (1 < (whom m.claimants.length all i).length)).map fun (i : Nat) => (i : Int)
def setCame (ws : List MoWord) (i : Nat) : List MoWord := match ws[i]? with | some w => ws.set i { w with came := true } | none => ws
def withWords (m : MoList) (l : List Int) : MoList := { m with words := l.foldl (fun ws i => setCame ws i.toNat) m.words }
def lateWords (m : MoList) : List Int := ((List.range m.words.length).filter fun i => match m.words[i]? with | some w => !w.came | none => false).map fun (i : Nat) => (i : Int)
def decides (m : MoList) (l : List Int) : Bool := let more := withWords m l; !(truths more).isEmpty && (unsure more (truths more)).isEmpty
def due (m : MoList) (t : List Int) (c : Int) : Int := ((List.range t.length).map fun i => if t[i]?.getD 0 = c then (match m.sums[i]? with | some s => s.pence | none => 0) else 0).sum
def paidB (m : MoList) (sum : Int) : Bool := m.paid.any fun p => decide (p.sum = sum)

/-- Payments but some were right in a truth, each sum paid once. -/
def rightAt (m : MoList) (t but : List Int) (i : Nat) : Bool := hasB but i || match m.paid[i]? with
  | some p => decide (t[p.sum.toNat]?.getD 0 = p.claimant) && (List.range i).all fun k => hasB but k || match m.paid[k]? with | some q => decide (q.sum ≠ p.sum) | none => true
  | none => true
def right (m : MoList) (t but : List Int) : Bool := (List.range m.paid.length).all fun i => rightAt m t but i
def someRight (m : MoList) (all : List (List Int)) (but : List Int) : Bool := all.any fun t => right m t but

/-- The first of lists that is so, the fewest numbers first. -/
def searchOne (so : List Int → Bool) (below : Int) (k : Nat) : Option (List Int) := (choicesTo below k).find? so
def searchFrom (so : List Int → Bool) (below : Int) (k : Nat) : Nat → Option (List Int)
  | 0 => none
  | fuel + 1 => match searchOne so below k with | some l => some l | none => searchFrom so below (k+1) fuel
end Go.Proofs.Ytnlolliankhfmaa
namespace Go.Proofs.Ytnlolliankhfmaa

theorem checkPart_zero {part : Int} {len most : Nat} {f : Nat → Int} {next : Int × Int × Int} (h : (checkPart part len most f next).2.2 = 0) : len ≤ most ∧ (∀ i, i < len → f i = 0) ∧ next.2.2 = 0 := by
  unfold checkPart at h
  by_cases hl : most < len
  · rw [if_pos hl] at h; simp at h
  · rw [if_neg hl] at h
    cases hf : firstErr len f with
    | none => rw [hf] at h; exact ⟨by omega, firstErr_zero hf, h⟩
    | some i =>
      rw [hf] at h
      have hi : i ∈ List.range len ∧ (f i != 0) = true := by
        unfold firstErr at hf
        have h2 := List.find?_some (p := fun i => f i != 0) hf
        exact ⟨List.mem_of_find?_eq_some hf, h2⟩
      simp at h
      simp [h] at hi

structure ValidWord (claimants sums words : Nat) (i : Nat) (x : MoWord) : Prop where
  says : 0 ≤ x.says ∧ x.says ≤ 3
  sum : 0 ≤ x.sum ∧ x.sum < sums
  of1 : x.says < 2 → 0 ≤ x.of ∧ x.of < claimants
  of2 : 2 ≤ x.says → 0 ≤ x.of ∧ x.of < sums ∧ x.of ≠ x.sum
  back : -1 ≤ x.back ∧ x.back < words ∧ x.back ≠ i
structure Valid (m : MoList) : Prop where
  nc : m.claimants.length ≤ 4
  nz : m.sums.length ≤ 5
  nw : m.words.length ≤ 6
  np : m.paid.length ≤ 5
  sums : ∀ i (_ : i < m.sums.length), (1 ≤ m.sums[i].pence ∧ m.sums[i].pence ≤ 99) ∧ 1 ≤ m.sums[i].for_ ∧ m.sums[i].for_ ≤ allBits m.claimants.length
  words : ∀ i (_ : i < m.words.length), ValidWord m.claimants.length m.sums.length m.words.length i m.words[i]
  paid : ∀ i (_ : i < m.paid.length), (0 ≤ m.paid[i].sum ∧ m.paid[i].sum < m.sums.length) ∧ 0 ≤ m.paid[i].claimant ∧ m.paid[i].claimant < m.claimants.length
  names : ∀ i (_ : i < m.claimants.length), claimErr m i = 0
  snames : ∀ i (_ : i < m.sums.length), sumErr m i = 0

theorem validWord_of {c s n i : Nat} {x : MoWord} (h : wordErrOf c s n i x = 0) : ValidWord c s n i x := by
  unfold wordErrOf at h
  by_cases h1 : inB x.says 0 3 = true
  · rw [if_pos h1] at h
    by_cases h2 : (inB x.sum 0 (s - 1) && inB x.of 0 ((if 2 ≤ x.says then (s : Int) else c) - 1) && inB x.back (-1) (n - 1)) = true
    · rw [if_pos h2] at h
      simp only [Bool.and_eq_true, inB_iff] at h2
      rw [inB_iff] at h1
      by_cases h3 : x.back = i ∨ (2 ≤ x.says ∧ x.of = x.sum)
      · rw [if_pos h3] at h; simp at h
      · rw [not_or] at h3
        obtain ⟨⟨h4, h5⟩, h6⟩ := h2
        refine ⟨h1, by omega, fun hs => ?_, fun hs => ?_, by omega⟩
        · rw [if_neg (by omega)] at h5; omega
        · rw [if_pos hs] at h5; have := h3.2; omega
    · rw [if_neg h2] at h; simp at h
  · rw [if_neg h1] at h; simp at h

theorem valid_of {m : MoList} (h : errOf m = 0) : Valid m := by
  unfold errOf check at h
  obtain ⟨a1, a2, h⟩ := checkPart_zero h
  obtain ⟨b1, b2, h⟩ := checkPart_zero h
  obtain ⟨c1, c2, h⟩ := checkPart_zero h
  obtain ⟨d1, d2, _⟩ := checkPart_zero h
  refine ⟨a1, b1, c1, d1, fun i hi => ?_, fun i hi => ?_, fun i hi => ?_, a2, b2⟩
  · have e := b2 i hi
    simp only [sumErr, List.getElem?_eq_getElem hi] at e
    by_cases h1 : fresh m.sums[i].name ((m.sums.take i).map MoSum.name) = 0
    · rw [if_pos h1] at e
      by_cases h2 : (inB m.sums[i].pence 1 99 && inB m.sums[i].for_ 1 (allBits m.claimants.length)) = true
      · simp only [Bool.and_eq_true, inB_iff] at h2
        exact h2
      · rw [if_neg h2] at e; simp at e
    · rw [if_neg h1] at e; exact absurd e h1
  · have e := c2 i hi
    simp only [wordErr, List.getElem?_eq_getElem hi] at e
    exact validWord_of e
  · have e := d2 i hi
    simp only [paidErr, List.getElem?_eq_getElem hi] at e
    by_cases h2 : (inB m.paid[i].sum 0 (m.sums.length - 1) && inB m.paid[i].claimant 0 (m.claimants.length - 1)) = true
    · simp only [Bool.and_eq_true, inB_iff] at h2
      omega
    · rw [if_neg h2] at e; simp at e

theorem truthStep_len (m : MoList) (i : Nat) (t : List Int) : ∀ u ∈ truthStep m i t, u.length = t.length + 1 := by
  intro u hu
  unfold truthStep at hu
  obtain ⟨c, _, rfl⟩ := List.mem_map.1 hu
  simp
theorem truthsTo_len (m : MoList) (i : Nat) : ∀ t ∈ truthsTo m i, t.length = i := by
  induction i with
  | zero => intro t ht; simp [truthsTo] at ht; simp [ht]
  | succ i ih =>
    intro t ht
    rw [truthsTo] at ht
    obtain ⟨l, hl, ht⟩ := List.mem_flatMap.1 ht
    rw [truthStep_len _ _ _ t ht, ih l hl]
theorem truthStep_many (m : MoList) (i : Nat) (t : List Int) : (truthStep m i t).length ≤ m.claimants.length := by
  unfold truthStep
  rw [List.length_map]
  exact Nat.le_trans (List.length_filter_le _ _) (by simp)
theorem flatMany {α β : Type} (f : α → List β) (n : Nat) : ∀ (l : List α), (∀ x ∈ l, (f x).length ≤ n) → (l.flatMap f).length ≤ l.length * n
  | [], _ => by simp
  | x :: xs, h => by
    have h1 := h x (by simp)
    have h2 := flatMany f n xs (fun y hy => h y (by simp [hy]))
    simp only [List.flatMap_cons, List.length_append, List.length_cons, Nat.add_mul]
    omega
theorem truthsTo_many (m : MoList) (hc : m.claimants.length ≤ 4) (i : Nat) : (truthsTo m i).length ≤ 4 ^ i := by
  induction i with
  | zero => simp [truthsTo]
  | succ i ih =>
    rw [truthsTo]
    have h := flatMany (truthStep m i) 4 (truthsTo m i) (fun l _ => Nat.le_trans (truthStep_many m i l) hc)
    have : (truthsTo m i).length * 4 ≤ 4 ^ i * 4 := Nat.mul_le_mul_right 4 ih
    rw [Nat.pow_succ]
    omega
theorem truths_many (m : MoList) (hc : m.claimants.length ≤ 4) (i : Nat) (hi : i ≤ 5) : (truthsTo m i).length ≤ 1024 :=
  Nat.le_trans (truthsTo_many m hc i) (Nat.le_trans (Nat.pow_le_pow_right (by omega) hi) (by decide))

/-- The numbers of a truth are claimants. -/
theorem truthsTo_bd (m : MoList) (i : Nat) : ∀ t ∈ truthsTo m i, ∀ x ∈ t, 0 ≤ x ∧ x < m.claimants.length := by
  induction i with
  | zero => intro t ht; simp [truthsTo] at ht; simp [ht]
  | succ i ih =>
    intro t ht x hx
    rw [truthsTo] at ht
    obtain ⟨l, hl, ht⟩ := List.mem_flatMap.1 ht
    unfold truthStep at ht
    obtain ⟨c, hc, rfl⟩ := List.mem_map.1 ht
    rcases List.mem_append.1 hx with hx | hx
    · exact ih l hl x hx
    · have := (List.mem_filter.1 hc).1
      simp at hx this
      omega

/-- The words below j that count are so. -/
def soTo (m : MoList) (t : List Int) (j : Nat) : Bool := (List.range j).all fun i => !counts m i || match m.words[i]? with | some w => so w t | none => true
theorem soTo_succ (m : MoList) (t : List Int) (j : Nat) (h : j < m.words.length) : soTo m t (j+1) = (soTo m t j && (!counts m j || so m.words[j] t)) := by
  unfold soTo
  rw [List.range_succ, List.all_append]
  simp [h]
theorem filterMap_succ (p : Nat → Bool) (n : Nat) {β : Type} (f : Nat → β) : ((List.range (n+1)).filter p).map f = ((List.range n).filter p).map f ++ (if p n then [f n] else []) := by
  rw [List.range_succ, List.filter_append, List.map_append]
  congr 1
  cases h : p n <;> simp [h]
theorem flat_take_le {α β : Type} (f : α → List β) (l : List α) (k : Nat) : ((l.take k).flatMap f).length ≤ (l.flatMap f).length := by
  conv => rhs; rw [← List.take_append_drop k l, List.flatMap_append, List.length_append]
  omega
theorem flat_take_succ {α β : Type} (f : α → List β) (l : List α) (k : Nat) (h : k < l.length) : (l.take (k+1)).flatMap f = (l.take k).flatMap f ++ f l[k] := by
  rw [List.take_succ_eq_append_getElem h, List.flatMap_append]
  simp
end Go.Proofs.Ytnlolliankhfmaa
namespace Go.Proofs.Ytnlolliankhfmaa

/-- The error behind an error e: 8: there is no truth. -/
def someErr (m : MoList) (e : Int) : Int := if e = 0 then (if (truths m).length = 0 then 8 else 0) else e
def askedErr (m : MoList) (n below : Int) : Int := if errOf m = 0 then (if inB n 0 (below - 1) then 0 else 4) else errOf m
/-- The error of what is asked of a whole list. -/
def wholeErr (m : MoList) : Int := someErr m (errOf m)
def forErr (m : MoList) (sum : Int) : Int := someErr m (askedErr m sum m.sums.length)
def owedErr (m : MoList) (c : Int) : Int := someErr m (askedErr m c m.claimants.length)

def firstOf (m : MoList) : List Int × Int × Int := if wholeErr m = 0 then ((truths m).headD [], ((truths m).length : Int), 0) else ([], 0, wholeErr m)
def forOf (m : MoList) (sum : Int) : List Int × Int := if forErr m sum = 0 then (whom m.claimants.length (truths m) sum.toNat, 0) else ([], forErr m sum)
def payOf (m : MoList) (sum : Int) : Int × Int :=
  if forErr m sum = 0 then (if 1 < (whom m.claimants.length (truths m) sum.toNat).length then (0, 9) else ((whom m.claimants.length (truths m) sum.toNat).headD 0, 0)) else (0, forErr m sum)
def heldOf (m : MoList) : List Int × Int := if wholeErr m = 0 then (unsure m (truths m), 0) else ([], wholeErr m)

theorem someErr_zero {m : MoList} {e : Int} (h : someErr m e = 0) : e = 0 ∧ 0 < (truths m).length := by
  unfold someErr at h
  by_cases he : e = 0
  · rw [if_pos he] at h
    by_cases hl : (truths m).length = 0
    · rw [if_pos hl] at h; simp at h
    · exact ⟨he, by omega⟩
  · rw [if_neg he] at h; exact absurd h he
theorem askedErr_zero {m : MoList} {n below : Int} (h : askedErr m n below = 0) : errOf m = 0 ∧ 0 ≤ n ∧ n < below := by
  unfold askedErr at h
  by_cases he : errOf m = 0
  · rw [if_pos he] at h
    by_cases hl : inB n 0 (below - 1) = true
    · have := inB_iff.1 hl
      exact ⟨he, by omega, by omega⟩
    · rw [if_neg hl] at h; simp at h
  · rw [if_neg he] at h; exact absurd h he
theorem whole_valid {m : MoList} (h : wholeErr m = 0) : Valid m ∧ 0 < (truths m).length := ⟨valid_of (someErr_zero h).1, (someErr_zero h).2⟩
theorem for_valid {m : MoList} {s : Int} (h : forErr m s = 0) : Valid m ∧ 0 < (truths m).length ∧ 0 ≤ s ∧ s < m.sums.length := by
  have h1 := someErr_zero h
  have h2 := askedErr_zero h1.1
  exact ⟨valid_of h2.1, h1.2, h2.2⟩
theorem truths_len (m : MoList) : ∀ t ∈ truths m, t.length = m.sums.length := truthsTo_len m m.sums.length
theorem truths_bd (m : MoList) : ∀ t ∈ truths m, ∀ x ∈ t, 0 ≤ x ∧ x < m.claimants.length := truthsTo_bd m m.sums.length
/-- A sum is for someone in some truth. -/
theorem whom_pos (m : MoList) (hn : 0 < (truths m).length) (s : Nat) (hs : s < m.sums.length) : 0 < (whom m.claimants.length (truths m) s).length := by
  obtain ⟨t, ht⟩ : ∃ t, t ∈ truths m := ⟨_, List.getElem_mem hn⟩
  have hl := truths_len m t ht
  have hs' : s < t.length := by omega
  have hb := truths_bd m t ht t[s] (List.getElem_mem hs')
  unfold whom
  rw [List.length_map]
  apply List.length_pos_of_mem (a := t[s].toNat)
  rw [List.mem_filter]
  refine ⟨by simp; omega, ?_⟩
  rw [List.any_eq_true]
  refine ⟨t, ht, ?_⟩
  simp [hs']
  omega
end Go.Proofs.Ytnlolliankhfmaa
namespace Go.Proofs.Ytnlolliankhfmaa

def penceAt (m : MoList) (i : Nat) : Int := match m.sums[i]? with | some s => s.pence | none => 0
def dueTo (m : MoList) (t : List Int) (c : Int) : Nat → Int
  | 0 => 0
  | j + 1 => dueTo m t c j + (if t[j]?.getD 0 = c then penceAt m j else 0)
def dueOf (m : MoList) (t : List Int) (c : Int) : Int := dueTo m t c t.length
theorem dueTo_bd (m : MoList) (hv : Valid m) (t : List Int) (c : Int) : ∀ j, 0 ≤ dueTo m t c j ∧ dueTo m t c j ≤ 99 * j
  | 0 => ⟨Int.le_refl _, by simp [dueTo]⟩
  | j + 1 => by
    have h := dueTo_bd m hv t c j
    have hp : 0 ≤ penceAt m j ∧ penceAt m j ≤ 99 := by
      unfold penceAt
      by_cases hj : j < m.sums.length
      · rw [List.getElem?_eq_getElem hj]
        have := (hv.sums j hj).1
        exact ⟨by simp only; omega, this.2⟩
      · rw [List.getElem?_eq_none (by omega)]
        exact ⟨Int.le_refl _, by decide⟩
    rw [dueTo]
    split <;> omega
/-- The least and the most that a claimant is owed. -/
def spanTo (m : MoList) (all : List (List Int)) (c : Int) : Nat → Int × Int
  | 0 => (dueOf m (all.headD []) c, dueOf m (all.headD []) c)
  | j + 1 => (min (spanTo m all c j).1 (dueOf m (all[j + 1]?.getD []) c), max (spanTo m all c j).2 (dueOf m (all[j + 1]?.getD []) c))
def owedOf (m : MoList) (c : Int) : (Int × Int) × Int := if owedErr m c = 0 then (spanTo m (truths m) c ((truths m).length - 1), 0) else ((0, 0), owedErr m c)
theorem owed_valid {m : MoList} {s : Int} (h : owedErr m s = 0) : Valid m ∧ 0 < (truths m).length ∧ 0 ≤ s ∧ s < m.claimants.length := by
  have h1 := someErr_zero h
  have h2 := askedErr_zero h1.1
  exact ⟨valid_of h2.1, h1.2, h2.2⟩
/-- What is still to be paid: surely; at most. -/
def needTo (m : MoList) (held : List Int) : Nat → Int × Int
  | 0 => (0, 0)
  | j + 1 => if paidB m j then needTo m held j else
      ((needTo m held j).1 + (if hasB held j then 0 else penceAt m j), (needTo m held j).2 + penceAt m j)
def needOf (m : MoList) : Int × Int × Int := if (heldOf m).2 = 0 then ((needTo m (heldOf m).1 m.sums.length).1, (needTo m (heldOf m).1 m.sums.length).2, 0) else (0, 0, (heldOf m).2)
theorem pence_bd (m : MoList) (hv : Valid m) (j : Nat) : 0 ≤ penceAt m j ∧ penceAt m j ≤ 99 := by
  unfold penceAt
  by_cases hj : j < m.sums.length
  · rw [List.getElem?_eq_getElem hj]
    have := (hv.sums j hj).1
    exact ⟨by simp only; omega, this.2⟩
  · rw [List.getElem?_eq_none (by omega)]
    exact ⟨Int.le_refl _, by decide⟩
theorem needTo_bd (m : MoList) (hv : Valid m) (held : List Int) : ∀ j, (0 ≤ (needTo m held j).1 ∧ (needTo m held j).1 ≤ 99 * j) ∧ 0 ≤ (needTo m held j).2 ∧ (needTo m held j).2 ≤ 99 * j
  | 0 => by simp [needTo]
  | j + 1 => by
    have h := needTo_bd m hv held j
    have hp := pence_bd m hv j
    rw [needTo]
    split
    · omega
    · simp only
      split <;> omega
end Go.Proofs.Ytnlolliankhfmaa
namespace Go.Proofs.Ytnlolliankhfmaa

theorem held_valid {m : MoList} (h : (heldOf m).2 = 0) : Valid m := by
  unfold heldOf at h
  by_cases h0 : wholeErr m = 0
  · exact (whole_valid h0).1
  · rw [if_neg h0] at h; exact absurd h h0

/-- Payment k is not of sum s, or it is let out. -/
def pairOk (m : MoList) (but : List Int) (s : Int) (k : Nat) : Bool := hasB but k || match m.paid[k]? with | some q => decide (q.sum ≠ s) | none => true
theorem pairOk_eq {m : MoList} {but : List Int} {s : Int} {k : Nat} (h : k < m.paid.length) : pairOk m but s k = (hasB but k || decide (m.paid[k].sum ≠ s)) := by
  unfold pairOk; rw [List.getElem?_eq_getElem h]
theorem rightAt_eq {m : MoList} {t but : List Int} {i : Nat} (h : i < m.paid.length) :
    rightAt m t but i = (hasB but i || (decide (t[m.paid[i].sum.toNat]?.getD 0 = m.paid[i].claimant) && (List.range i).all fun k => pairOk m but m.paid[i].sum k)) := by
  unfold rightAt; rw [List.getElem?_eq_getElem h]; rfl
theorem rightAt_skip {m : MoList} {t but : List Int} {i : Nat} (h : i < m.paid.length) (hb : hasB but i = true) : rightAt m t but i = true := by
  rw [rightAt_eq h, hb]; rfl
theorem rightAt_who {m : MoList} {t but : List Int} {i : Nat} (h : i < m.paid.length) (hb : hasB but i = false) (h2 : t[m.paid[i].sum.toNat]?.getD 0 ≠ m.paid[i].claimant) : rightAt m t but i = false := by
  rw [rightAt_eq h, hb]; simp [h2]
theorem rightAt_pair {m : MoList} {t but : List Int} {i k : Nat} (h : i < m.paid.length) (hb : hasB but i = false) (hk : k < i) (h2 : pairOk m but m.paid[i].sum k = false) : rightAt m t but i = false := by
  rw [rightAt_eq h, hb]
  have : ((List.range i).all fun k => pairOk m but m.paid[i].sum k) = false := by
    rw [List.all_eq_false]
    exact ⟨k, by simpa using hk, by simp [h2]⟩
  rw [this]; simp
theorem rightAt_ok {m : MoList} {t but : List Int} {i : Nat} (h : i < m.paid.length) (h2 : t[m.paid[i].sum.toNat]?.getD 0 = m.paid[i].claimant) (h3 : ∀ k, k < i → pairOk m but m.paid[i].sum k = true) : rightAt m t but i = true := by
  rw [rightAt_eq h]
  have : ((List.range i).all fun k => pairOk m but m.paid[i].sum k) = true := by
    rw [List.all_eq_true]
    intro k hk
    exact h3 k (by simpa using hk)
  rw [this]; simp [h2]
theorem right_false {m : MoList} {t but : List Int} {i : Nat} (h : i < m.paid.length) (h2 : rightAt m t but i = false) : right m t but = false := by
  unfold right
  rw [List.all_eq_false]
  exact ⟨i, by simpa using h, by simp [h2]⟩
theorem right_true {m : MoList} {t but : List Int} (h2 : ∀ i, i < m.paid.length → rightAt m t but i = true) : right m t but = true := by
  unfold right
  rw [List.all_eq_true]
  intro i hi
  exact h2 i (by simpa using hi)

theorem none_succ {α : Type} {so : α → Bool} {L : List α} {k : Nat} (h0 : ∀ j (_ : j < k) (h : j < L.length), so L[j] = false) (hk : k < L.length) (h : so L[k] = false) : ∀ j (_ : j < k + 1) (h : j < L.length), so L[j] = false := by
  intro j hj h2
  by_cases hjk : j < k
  · exact h0 j hjk h2
  · have : j = k := by omega
    subst this
    exact h
theorem any_hit {α : Type} {so : α → Bool} {L : List α} {i : Nat} (hi : i < L.length) (h : so L[i] = true) : L.any so = true := by
  rw [List.any_eq_true]; exact ⟨_, List.getElem_mem hi, h⟩
theorem any_none {α : Type} {so : α → Bool} {L : List α} (h : ∀ i (_ : i < L.length), so L[i] = false) : L.any so = false := by
  rw [List.any_eq_false]
  intro x hx
  obtain ⟨i, hi, rfl⟩ := List.getElem_of_mem hx
  simp [h i hi]
theorem find_hit {α : Type} {so : α → Bool} {L : List α} {i : Nat} (hi : i < L.length) (h0 : ∀ j (_ : j < i) (h : j < L.length), so L[j] = false) (h : so L[i] = true) : L.find? so = some L[i] := by
  rw [List.find?_eq_some_iff_append]
  refine ⟨h, L.take i, L.drop (i+1), ?_, ?_⟩
  · rw [← List.drop_eq_getElem_cons hi, List.take_append_drop]
  · intro x hx
    obtain ⟨j, hj, rfl⟩ := List.getElem_of_mem hx
    rw [List.length_take] at hj
    simp [h0 j (by omega) (by omega)]
theorem find_none {α : Type} {so : α → Bool} {L : List α} (h : ∀ i (_ : i < L.length), so L[i] = false) : L.find? so = none := by
  rw [List.find?_eq_none]
  intro x hx
  obtain ⟨i, hi, rfl⟩ := List.getElem_of_mem hx
  simp [h i hi]

/-- The first list of payments that is so (fewest first), or all. -/
def wrongOf (m : MoList) : List Int × Int :=
  if wholeErr m = 0 then ((searchFrom (someRight m (truths m)) m.paid.length 0 m.paid.length).getD ((choicesTo m.paid.length m.paid.length).headD []), 0) else ([], wholeErr m)
theorem search_none {so : List Int → Bool} {n : Int} {k f : Nat} (h : (choicesTo n k).find? so = none) : searchFrom so n k (f + 1) = searchFrom so n (k + 1) f := by
  rw [searchFrom, searchOne, h]
theorem search_some {so : List Int → Bool} {n : Int} {k f : Nat} {l : List Int} (h : (choicesTo n k).find? so = some l) : searchFrom so n k (f + 1) = some l := by
  rw [searchFrom, searchOne, h]
theorem choices_all (n : Nat) (h : n ≤ 5) : 0 < (choicesTo n n).length := by
  rcases n with _ | _ | _ | _ | _ | _ | n
  · decide
  · decide
  · decide
  · decide
  · decide
  · decide
  · omega
end Go.Proofs.Ytnlolliankhfmaa
namespace Go.Proofs.Ytnlolliankhfmaa
theorem setCame_len (ws : List MoWord) (i : Nat) : (setCame ws i).length = ws.length := by
  unfold setCame
  cases h : ws[i]? <;> simp
def cameTo (ws : List MoWord) (l : List Int) : List MoWord := l.foldl (fun ws i => setCame ws i.toNat) ws
theorem cameTo_len (ws : List MoWord) (l : List Int) : (cameTo ws l).length = ws.length := by
  induction l generalizing ws with
  | nil => rfl
  | cons x l ih => show (cameTo (setCame ws x.toNat) l).length = _; rw [ih, setCame_len]
theorem cameTo_succ (ws : List MoWord) (l : List Int) (k : Nat) (h : k < l.length) : cameTo ws (l.take (k+1)) = setCame (cameTo ws (l.take k)) l[k].toNat := by
  unfold cameTo
  rw [List.take_succ_eq_append_getElem h, List.foldl_append]
  rfl
theorem setCame_eq (ws : List MoWord) (i : Nat) (h : i < ws.length) : setCame ws i = ws.set i { ws[i] with came := true } := by
  unfold setCame; rw [List.getElem?_eq_getElem h]
end Go.Proofs.Ytnlolliankhfmaa
namespace Go.Proofs.Ytnlolliankhfmaa
theorem cameTo_at (ws : List MoWord) (l : List Int) (i : Nat) (h : i < ws.length) : ∃ b, (cameTo ws l)[i]? = some { ws[i] with came := b } := by
  induction l generalizing ws with
  | nil => exact ⟨ws[i].came, by show ws[i]? = _; rw [List.getElem?_eq_getElem h]⟩
  | cons x l ih =>
    show ∃ b, (cameTo (setCame ws x.toNat) l)[i]? = _
    have hl := setCame_len ws x.toNat
    obtain ⟨b, hb⟩ := ih (setCame ws x.toNat) (by omega)
    refine ⟨b, hb.trans ?_⟩
    congr 1
    by_cases hx : x.toNat < ws.length
    · have e := setCame_eq ws _ hx
      have : (setCame ws x.toNat)[i]? = (ws.set x.toNat { ws[x.toNat] with came := true })[i]? := by rw [e]
      rw [List.getElem?_eq_getElem (by omega), List.getElem?_set] at this
      by_cases hi : x.toNat = i
      · subst hi
        rw [if_pos rfl, if_pos hx] at this
        have this := Option.some.inj this
        rw [this]
      · rw [if_neg hi, List.getElem?_eq_getElem h] at this
        rw [Option.some.inj this]
    · have : setCame ws x.toNat = ws := by unfold setCame; rw [List.getElem?_eq_none (by omega)]
      simp only [this]
theorem valid_with {m : MoList} (hv : Valid m) (l : List Int) : Valid (withWords m l) := by
  have hl : (withWords m l).words.length = m.words.length := cameTo_len m.words l
  refine ⟨hv.nc, hv.nz, by rw [hl]; exact hv.nw, hv.np, hv.sums, fun i hi => ?_, hv.paid, hv.names, hv.snames⟩
  have hi2 : i < m.words.length := by rw [hl] at hi; exact hi
  obtain ⟨b, hb⟩ := cameTo_at m.words l i hi2
  have e : (withWords m l).words[i] = { m.words[i] with came := b } := by
    have : (withWords m l).words[i]? = some { m.words[i] with came := b } := hb
    rw [List.getElem?_eq_getElem hi] at this
    exact Option.some.inj this
  have h := hv.words i hi2
  rw [e, hl]
  exact ⟨h.says, h.sum, h.of1, h.of2, h.back⟩
theorem decides_none {m : MoList} {l : List Int} (h : (truths (withWords m l)).length = 0) : decides m l = false := by
  unfold decides
  have : truths (withWords m l) = [] := List.eq_nil_of_length_eq_zero h
  simp [this]
theorem decides_some {m : MoList} {l : List Int} (h : (truths (withWords m l)).length ≠ 0) : decides m l = decide ((unsure (withWords m l) (truths (withWords m l))).length = 0) := by
  unfold decides
  show (!(truths (withWords m l)).isEmpty && (unsure (withWords m l) (truths (withWords m l))).isEmpty) = _
  generalize unsure (withWords m l) (truths (withWords m l)) = U
  generalize truths (withWords m l) = T at h ⊢
  cases T with
  | nil => exact absurd rfl h
  | cons t ts => cases U <;> rfl
end Go.Proofs.Ytnlolliankhfmaa
namespace Go.Proofs.Ytnlolliankhfmaa
def picks (late c : List Int) : List Int := c.map fun i => late[i.toNat]?.getD 0
def waitOf (m : MoList) : List Int × Int :=
  if wholeErr m = 0 then (match searchFrom (fun c => decides m (picks (lateWords m) c)) (lateWords m).length 0 ((lateWords m).length + 1) with | some c => (picks (lateWords m) c, 0) | none => ([], 9)) else ([], wholeErr m)
theorem late_bd (m : MoList) : ∀ x ∈ lateWords m, 0 ≤ x ∧ x < m.words.length := by
  intro x hx
  unfold lateWords at hx
  obtain ⟨i, hi, rfl⟩ := List.mem_map.1 hx
  have := (List.mem_filter.1 hi).1
  simp at this
  omega
theorem late_len (m : MoList) : (lateWords m).length ≤ m.words.length := by
  unfold lateWords
  rw [List.length_map]
  exact Nat.le_trans (List.length_filter_le _ _) (by simp)
theorem picks_len (late c : List Int) : (picks late c).length = c.length := by unfold picks; simp
theorem picks_succ (late c : List Int) (t : Nat) (h : t < c.length) : picks late (c.take (t + 1)) = picks late (c.take t) ++ [late[c[t].toNat]?.getD 0] := by
  unfold picks
  rw [List.take_succ_eq_append_getElem h, List.map_append]
  rfl
theorem picks_bd {late c : List Int} {n : Int} (hl : ∀ x ∈ late, 0 ≤ x ∧ x < n) (hc : ∀ x ∈ c, 0 ≤ x ∧ x < late.length) : ∀ x ∈ picks late c, 0 ≤ x ∧ x < n := by
  intro x hx
  unfold picks at hx
  obtain ⟨i, hi, rfl⟩ := List.mem_map.1 hx
  have h := hc i hi
  have h2 : i.toNat < late.length := by omega
  rw [List.getElem?_eq_getElem h2]
  exact hl _ (List.getElem_mem h2)
end Go.Proofs.Ytnlolliankhfmaa
namespace Go.Proofs.Ytnlolliankhfmaa

/-- A list with the words come that the bits say. -/
def bitsWord (c : Nat) (i : Nat) (w : MoWord) : MoWord := { w with came := c.testBit i }
def withBits (m : MoList) (c : Nat) : MoList := { m with words := m.words.mapIdx (bitsWord c) }
theorem withBits_len (m : MoList) (c : Nat) : (withBits m c).words.length = m.words.length := by simp [withBits]
theorem withBits_at (m : MoList) (c i : Nat) (h : i < m.words.length) : (withBits m c).words[i]? = some (bitsWord c i m.words[i]) := by
  simp [withBits, h]

/-- No word that has come, of the first j, takes word 'at' back. -/
def backTo (m : MoList) (c at_ : Nat) (j : Nat) : Bool := (List.range j).all fun i => match m.words[i]? with | some w => !(decide (w.back = (at_ : Int)) && c.testBit i) | none => true
theorem backTo_succ (m : MoList) (c at_ j : Nat) (h : j < m.words.length) : backTo m c at_ (j+1) = (backTo m c at_ j && !(decide (m.words[j].back = (at_ : Int)) && c.testBit j)) := by
  unfold backTo
  rw [List.range_succ, List.all_append]
  simp [h]
theorem all_congr_mem {α : Type} {l : List α} {p q : α → Bool} (h : ∀ x ∈ l, p x = q x) : l.all p = l.all q := by
  induction l with
  | nil => rfl
  | cons a l ih => simp only [List.all_cons]; rw [h a (by simp), ih fun x hx => h x (by simp [hx])]
theorem all_range (n : Nat) (p q : Nat → Bool) (h : ∀ i, i < n → p i = q i) : (List.range n).all p = (List.range n).all q := by
  rw [Bool.eq_iff_iff]
  simp only [List.all_eq_true, List.mem_range]
  exact ⟨fun H i hi => (h i hi) ▸ H i hi, fun H i hi => (h i hi).symm ▸ H i hi⟩
theorem all_idx {α : Type} (l : List α) (p : α → Bool) : l.all p = (List.range l.length).all fun i => match l[i]? with | some x => p x | none => true := by
  rw [Bool.eq_iff_iff]
  simp only [List.all_eq_true, List.mem_range]
  constructor
  · intro H i hi
    rw [List.getElem?_eq_getElem hi]
    exact H _ (List.getElem_mem hi)
  · intro H x hx
    obtain ⟨i, hi, rfl⟩ := List.getElem_of_mem hx
    have := H i hi
    rwa [List.getElem?_eq_getElem hi] at this
theorem counts_bits (m : MoList) (c at_ : Nat) (h : at_ < m.words.length) : counts (withBits m c) at_ = (c.testBit at_ && backTo m c at_ m.words.length) := by
  unfold counts
  rw [withBits_at m c at_ h]
  simp only [bitsWord]
  congr 1
  rw [all_idx, withBits_len]
  unfold backTo
  apply all_range
  intro i hi
  rw [withBits_at m c i hi, List.getElem?_eq_getElem hi]
  show (!(c.testBit i && decide (m.words[i].back = (at_ : Int)))) = _
  rw [Bool.and_comm]

/-- The last sum that a word speaks of; whether it is so, by claimants of all sums. -/
def lastOf (w : MoWord) : Int := if 2 ≤ w.says then max w.sum w.of else w.sum
def otherOf (w : MoWord) (T : List Int) : Int := if 2 ≤ w.says then T[w.of.toNat]?.getD 0 else w.of
def likeB (says a b : Int) : Bool := if says = 0 ∨ says = 2 then decide (a = b) else !decide (a = b)
def soAt (w : MoWord) (T : List Int) : Bool := likeB w.says (T[w.sum.toNat]?.getD 0) (otherOf w T)
/-- The words below j that count and speak of sum s last are so. -/
def keptAt (m : MoList) (T : List Int) (s : Nat) (i : Nat) : Bool := match m.words[i]? with | some w => !(decide (lastOf w = (s : Int)) && counts m i && !soAt w T) | none => true
def keptTo (m : MoList) (T : List Int) (s : Nat) (j : Nat) : Bool := (List.range j).all fun i => keptAt m T s i
theorem keptTo_succ (m : MoList) (T : List Int) (s j : Nat) : keptTo m T s (j+1) = (keptTo m T s j && keptAt m T s j) := by
  unfold keptTo
  rw [List.range_succ, List.all_append]
  simp
def keptB (m : MoList) (T : List Int) (s : Nat) : Bool := keptTo m T s m.words.length

/-- Claimants of the first sums, with noughts behind. -/
def pad (n : Nat) (t : List Int) : List Int := t ++ List.replicate (n - t.length) 0
theorem pad_len (n : Nat) (t : List Int) (h : t.length ≤ n) : (pad n t).length = n := by simp [pad]; omega
theorem pad_get (n : Nat) (t : List Int) (i : Nat) (h : i < t.length) : (pad n t)[i]? = t[i]? := by unfold pad; rw [List.getElem?_append_left h]
theorem pad_full (n : Nat) (t : List Int) (h : t.length = n) : pad n t = t := by simp [pad, h]
theorem pad_set (n : Nat) (t : List Int) (x : Int) (h : t.length < n) : (pad n t).set t.length x = pad n (t ++ [x]) := by
  unfold pad
  rw [List.set_append_right _ _ (Nat.le_refl _), show n - t.length = (n - (t.length + 1)) + 1 from by omega, Nat.sub_self, List.replicate_succ, List.set_cons_zero]
  simp
theorem pad_reset (n : Nat) (t : List Int) (x : Int) (h : t.length < n) : (pad n (t ++ [x])).set t.length 0 = pad n t := by
  unfold pad
  rw [List.append_assoc, List.set_append_right _ _ (Nat.le_refl _), Nat.sub_self]
  simp only [List.singleton_append, List.set_cons_zero, List.length_append, List.length_singleton]
  rw [show n - t.length = (n - (t.length + 1)) + 1 from by omega, List.replicate_succ]
theorem pad_inj (n : Nat) (s t : List Int) (h : s.length = t.length) (e : pad n s = pad n t) : s = t := by
  unfold pad at e
  exact (List.append_inj e h).1

/-- A word of a valid list is so of claimants of the first L sums, or speaks of a later one. -/
theorem so_eq {c s n i : Nat} {w : MoWord} (hv : ValidWord c s n i w) (t : List Int) (N : Nat) : so w t = (decide ((t.length : Int) ≤ lastOf w) || soAt w (pad N t)) := by
  have h1 := hv.says
  have h2 := hv.sum
  unfold so lastOf soAt otherOf likeB
  by_cases hs : 2 ≤ w.says
  · have h3 := hv.of2 hs
    simp only [if_pos hs]
    by_cases ha : (t.length : Int) ≤ w.sum
    · rw [if_pos ha]
      have : decide ((t.length : Int) ≤ max w.sum w.of) = true := by simp; omega
      simp [this]
    · rw [if_neg ha, if_neg (show ¬ w.says = 0 from by omega), if_neg (show ¬ w.says = 1 from by omega)]
      have e1 : (pad N t)[w.sum.toNat]? = t[w.sum.toNat]? := pad_get _ _ _ (by omega)
      by_cases hb : (t.length : Int) ≤ w.of
      · have : decide ((t.length : Int) ≤ max w.sum w.of) = true := by simp; omega
        rw [this]
        simp [hb]
      · have e2 : (pad N t)[w.of.toNat]? = t[w.of.toNat]? := pad_get _ _ _ (by omega)
        have : decide ((t.length : Int) ≤ max w.sum w.of) = false := by simp; omega
        rw [this, e1, e2]
        have hb2 : decide ((t.length : Int) ≤ w.of) = false := by simpa using hb
        by_cases h4 : w.says = 2
        · rw [if_pos h4, if_pos (Or.inr h4), hb2]
        · rw [if_neg h4, if_neg (show ¬ (w.says = 0 ∨ w.says = 2) from by omega), hb2]
          simp
  · simp only [if_neg hs]
    by_cases ha : (t.length : Int) ≤ w.sum
    · rw [if_pos ha]; simp [ha]
    · rw [if_neg ha]
      have e1 : (pad N t)[w.sum.toNat]? = t[w.sum.toNat]? := pad_get _ _ _ (by omega)
      have : decide ((t.length : Int) ≤ w.sum) = false := by simpa using ha
      rw [this, e1]
      by_cases h4 : w.says = 0
      · rw [if_pos h4, if_pos (Or.inl h4)]; simp
      · rw [if_neg h4, if_pos (show w.says = 1 from by omega), if_neg (show ¬ (w.says = 0 ∨ w.says = 2) from by omega)]
        simp

def w_lt (w : MoWord) (n : Nat) : Prop := w.sum < n ∧ (2 ≤ w.says → w.of < n)
theorem flatMap_congr' {α β : Type} {l : List α} {f g : α → List β} (h : ∀ x ∈ l, f x = g x) : l.flatMap f = l.flatMap g := by
  induction l with
  | nil => rfl
  | cons a l ih => simp only [List.flatMap_cons]; rw [h a (by simp), ih fun x hx => h x (by simp [hx])]
/-- One sum more: the words up to it are so, if those before are and those that speak of it last. -/
theorem wordsSo_step (m : MoList) (hv : Valid m) (t : List Int) (x : Int) (N : Nat) (ht : t.length < N) (h : wordsSo m t = true) : wordsSo m (t ++ [x]) = keptB m (pad N (t ++ [x])) t.length := by
  unfold wordsSo at h ⊢
  rw [List.all_eq_true] at h
  unfold keptB keptTo
  apply all_range
  intro i hi
  have hw := hv.words i hi
  have hi2 := h i (by simpa using hi)
  unfold keptAt
  simp only [List.getElem?_eq_getElem hi] at hi2 ⊢
  cases hc : counts m i
  · simp
  · rw [hc] at hi2
    simp only [Bool.not_true, Bool.false_or, Bool.and_true] at hi2 ⊢
    rw [so_eq hw (t ++ [x]) N]
    rw [so_eq hw t N] at hi2
    simp only [List.length_append, List.length_singleton]
    by_cases h1 : lastOf m.words[i] = (t.length : Int)
    · have e1 : decide (((t.length + 1 : Nat) : Int) ≤ lastOf m.words[i]) = false := by simp; omega
      rw [e1]
      simp [h1]
    · by_cases h2 : (t.length : Int) < lastOf m.words[i]
      · have e1 : decide (((t.length + 1 : Nat) : Int) ≤ lastOf m.words[i]) = true := by simp; omega
        rw [e1]
        simp [h1]
      · have e1 : decide (((t.length + 1 : Nat) : Int) ≤ lastOf m.words[i]) = false := by simp; omega
        have e2 : decide ((t.length : Int) ≤ lastOf m.words[i]) = false := by simp; omega
        rw [e2] at hi2
        rw [e1]
        simp only [h1, Bool.false_or, decide_false, Bool.false_and, Bool.not_false] at hi2 ⊢
        rw [← hi2]
        have hsum := hw.sum
        have hlt : w_lt m.words[i] t.length := by
          unfold w_lt
          unfold lastOf at h1 h2
          by_cases hs : 2 ≤ m.words[i].says
          · rw [if_pos hs] at h1 h2
            have := hw.of2 hs
            omega
          · rw [if_neg hs] at h1 h2
            omega
        unfold soAt otherOf
        have g : ∀ j : Nat, j < t.length → (pad N (t ++ [x]))[j]? = (pad N t)[j]? := fun j hj => by
          rw [pad_get _ _ _ hj, pad_get _ _ _ (by simp; omega), List.getElem?_append_left hj]
        rw [g _ (by have := hlt.1; omega)]
        by_cases hs : 2 ≤ m.words[i].says
        · rw [if_pos hs, if_pos hs, g _ (by have := hlt.2 hs; have := (hw.of2 hs).1; omega)]
        · rw [if_neg hs, if_neg hs]

/-- Truths that go on from claimants of the first sums, in depth first order. -/
def dfs (m : MoList) : Nat → List Int → List (List Int)
  | 0, t => [t]
  | k + 1, t => ((List.range m.claimants.length).filter fun c => fine m t.length t c).flatMap fun (c : Nat) => dfs m k (t ++ [(c : Int)])
theorem dfs_level (m : MoList) (k : Nat) : ∀ (i : Nat) (L : List (List Int)), (∀ t ∈ L, t.length = i) → (∀ t, truthStep m i t = truthStep m i t) →
    ∀ (j : Nat), L.flatMap (dfs m k) = (match k with | 0 => L | k + 1 => (L.flatMap (truthStep m i)).flatMap (dfs m k)) := by
  intro i L hL _ _
  cases k with
  | zero => simp [dfs]
  | succ k =>
    simp only
    rw [List.flatMap_assoc]
    apply flatMap_congr'
    intro t ht
    rw [dfs, hL t ht]
    unfold truthStep
    rw [List.flatMap_map]
theorem truths_dfs (m : MoList) (k : Nat) : ∀ i, (truthsTo m i).flatMap (dfs m k) = truthsTo m (i + k) := by
  induction k with
  | zero => intro i; simp [dfs]
  | succ k ih =>
    intro i
    have h := dfs_level m (k+1) i (truthsTo m i) (fun t ht => truthsTo_len m i t ht) (fun _ => rfl) 0
    rw [h]
    show (((truthsTo m i).flatMap (truthStep m i)).flatMap (dfs m k)) = _
    have e : (truthsTo m i).flatMap (truthStep m i) = truthsTo m (i+1) := rfl
    rw [e, ih (i+1)]
    congr 1
    omega
theorem truths_eq (m : MoList) : truths m = dfs m m.sums.length [] := by
  have h := truths_dfs m m.sums.length 0
  simp only [truthsTo, List.flatMap_cons, List.flatMap_nil, List.append_nil, Nat.zero_add] at h
  exact h.symm
end Go.Proofs.Ytnlolliankhfmaa
namespace Go.Proofs.Ytnlolliankhfmaa

def dfsTo (m : MoList) (k : Nat) (t : List Int) (x : Nat) : List (List Int) := ((List.range x).filter fun c => fine m t.length t c).flatMap fun (c : Nat) => dfs m k (t ++ [(c : Int)])
theorem dfsTo_zero (m : MoList) (k : Nat) (t : List Int) : dfsTo m k t 0 = [] := rfl
theorem dfsTo_yes (m : MoList) (k : Nat) (t : List Int) (x : Nat) (h : fine m t.length t x = true) : dfsTo m k t (x+1) = dfsTo m k t x ++ dfs m k (t ++ [(x : Int)]) := by
  unfold dfsTo
  rw [List.range_succ, List.filter_append, List.flatMap_append]
  simp [h]
theorem dfsTo_no (m : MoList) (k : Nat) (t : List Int) (x : Nat) (h : fine m t.length t x = false) : dfsTo m k t (x+1) = dfsTo m k t x := by
  unfold dfsTo
  rw [List.range_succ, List.filter_append, List.flatMap_append]
  simp [h]
theorem dfsTo_all (m : MoList) (k : Nat) (t : List Int) : dfsTo m k t m.claimants.length = dfs m (k+1) t := rfl
theorem dfsTo_pre (m : MoList) (k : Nat) (t : List Int) (x : Nat) : dfsTo m k t x <+: dfsTo m k t (x+1) := by
  cases h : fine m t.length t x
  · rw [dfsTo_no m k t x h]; exact List.prefix_refl _
  · rw [dfsTo_yes m k t x h]
    exact List.prefix_append _ _
theorem dfsTo_le (m : MoList) (k : Nat) (t : List Int) (x : Nat) : ∀ j, dfsTo m k t x <+: dfsTo m k t (x+j)
  | 0 => List.prefix_refl _
  | j + 1 => (dfsTo_le m k t x j).trans (dfsTo_pre m k t (x+j))
theorem pre_app {α : Type} {a b c d : List α} (h : a <+: b) (h2 : c ++ b <+: d) : c ++ a <+: d := (List.prefix_append_right_inj c |>.2 h).trans h2
theorem pad_put (n : Nat) (t : List Int) (x y : Int) (h : t.length < n) : (pad n (t ++ [y])).set t.length x = pad n (t ++ [x]) := by
  rw [← pad_set n t y h, List.set_set, pad_set n t x h]
theorem pad_zero (n : Nat) (t : List Int) (h : t.length < n) : pad n (t ++ [0]) = pad n t := by
  rw [← pad_reset n t 0 h, pad_put n t 0 0 h]
theorem fine_eq (m : MoList) (hv : Valid m) (t : List Int) (x : Nat) (N : Nat) (ht : t.length < N) (hs : t.length < m.sums.length) (h : wordsSo m t = true) :
    fine m t.length t x = (bitB m.sums[t.length].for_ x && keptB m (pad N (t ++ [(x : Int)])) t.length) := by
  unfold fine
  rw [List.getElem?_eq_getElem hs, wordsSo_step m hv t x N ht h]
/-- With words come by bits a list stays valid. -/
theorem valid_bits {m : MoList} (hv : Valid m) (c : Nat) : Valid (withBits m c) := by
  have hl := withBits_len m c
  refine ⟨hv.nc, hv.nz, by rw [hl]; exact hv.nw, hv.np, hv.sums, fun i hi => ?_, hv.paid, hv.names, hv.snames⟩
  have hi2 : i < m.words.length := by rw [hl] at hi; exact hi
  have e : (withBits m c).words[i] = bitsWord c i m.words[i] := by
    have := withBits_at m c i hi2
    rw [List.getElem?_eq_getElem hi] at this
    exact Option.some.inj this
  have h := hv.words i hi2
  rw [e, hl]
  exact ⟨h.says, h.sum, h.of1, h.of2, h.back⟩
end Go.Proofs.Ytnlolliankhfmaa
namespace Go.Proofs.Ytnlolliankhfmaa
def duesTo (m : MoList) (T : List Int) (j : Nat) : List Int := [dueTo m T 0 j, dueTo m T 1 j, dueTo m T 2 j, dueTo m T 3 j]
def dues (m : MoList) (T : List Int) : List Int := duesTo m T m.sums.length
theorem duesTo_zero (m : MoList) (T : List Int) : duesTo m T 0 = [0, 0, 0, 0] := rfl
theorem duesTo_at (m : MoList) (T : List Int) (j c : Nat) (h : c < 4) : (duesTo m T j)[c]? = some (dueTo m T c j) := by
  rcases c with _ | _ | _ | _ | c
  · rfl
  · rfl
  · rfl
  · rfl
  · omega
theorem duesTo_succ (m : MoList) (T : List Int) (j c : Nat) (h : c < 4) (e : T[j]?.getD 0 = (c : Int)) : duesTo m T (j+1) = (duesTo m T j).set c (dueTo m T c j + penceAt m j) := by
  unfold duesTo
  simp only [dueTo, e]
  rcases c with _ | _ | _ | _ | c
  · simp
  · simp
  · simp
  · simp
  · omega
theorem dueTo_pad (m : MoList) (t : List Int) (c : Int) (n : Nat) : ∀ j, j ≤ t.length → dueTo m (pad n t) c j = dueTo m t c j
  | 0, _ => rfl
  | j + 1, h => by
    rw [dueTo, dueTo, dueTo_pad m t c n j (by omega), pad_get n t j (by omega)]
theorem penceAt_eq (m : MoList) (j : Nat) (h : j < m.sums.length) : penceAt m j = m.sums[j].pence := by unfold penceAt; rw [List.getElem?_eq_getElem h]
end Go.Proofs.Ytnlolliankhfmaa
namespace Go.Proofs.Ytnlolliankhfmaa

def bitsCame (m : MoList) (more : Nat) : Nat → Nat
  | 0 => more
  | k + 1 => match m.words[k]? with | some w => if w.came then bitsCame m more k ||| (1 <<< k) else bitsCame m more k | none => bitsCame m more k
theorem bitsCame_lt (m : MoList) (more : Nat) (h : more < 64) : ∀ k, k ≤ 6 → bitsCame m more k < 64
  | 0, _ => h
  | k + 1, hk => by
    have ih := bitsCame_lt m more h k (by omega)
    have h1 : (1 <<< k : Nat) < 2 ^ 6 := by rw [Nat.one_shiftLeft]; exact Nat.pow_lt_pow_right (by omega) (by omega)
    rw [bitsCame]
    split
    · split
      · exact Nat.or_lt_two_pow (n := 6) ih h1
      · exact ih
    · exact ih
theorem bitsCame_yes (m : MoList) (more k : Nat) (h : k < m.words.length) (hc : m.words[k].came = true) : bitsCame m more (k+1) = bitsCame m more k ||| (1 <<< k) := by
  rw [bitsCame, List.getElem?_eq_getElem h]; simp [hc]
theorem bitsCame_no (m : MoList) (more k : Nat) (h : k < m.words.length) (hc : m.words[k].came = false) : bitsCame m more (k+1) = bitsCame m more k := by
  rw [bitsCame, List.getElem?_eq_getElem h]; simp [hc]
def lookBits (m : MoList) (more : Nat) : Nat := bitsCame m more m.words.length

/-- Whom sum i is for in some of some truths, as bits. -/
def evBit (pre : List (List Int)) (i : Nat) : Nat := pre.foldl (fun e t => e ||| (1 <<< (t[i]?.getD 0).toNat)) 0
theorem evBit_snoc (pre : List (List Int)) (t : List Int) (i : Nat) : evBit (pre ++ [t]) i = evBit pre i ||| (1 <<< (t[i]?.getD 0).toNat) := by
  unfold evBit; rw [List.foldl_append]; rfl
theorem evBit_lt (i : Nat) : ∀ (pre : List (List Int)), (∀ t ∈ pre, (t[i]?.getD 0).toNat < 4) → evBit pre i < 16 := by
  intro pre
  suffices h : ∀ (l : List (List Int)) (e : Nat), e < 2 ^ 4 → (∀ t ∈ l, (t[i]?.getD 0).toNat < 4) → l.foldl (fun e t => e ||| (1 <<< (t[i]?.getD 0).toNat)) e < 2 ^ 4 from fun hp => h pre 0 (by decide) hp
  intro l
  induction l with
  | nil => intro e he _; exact he
  | cons a l ih =>
    intro e he hl
    rw [List.foldl_cons]
    refine ih _ (Nat.or_lt_two_pow he ?_) (fun t ht => hl t (by simp [ht]))
    have := hl a (by simp)
    rw [Nat.one_shiftLeft]
    exact Nat.pow_lt_pow_right (by omega) this
def everyAt (m : MoList) (pre : List (List Int)) (i : Nat) : Nat := if i < m.sums.length then evBit pre i else 0
def everyMid (m : MoList) (pre : List (List Int)) (t : List Int) (j : Nat) : List Int := (List.range 5).map fun i => ((if i < j then everyAt m (pre ++ [t]) i else everyAt m pre i : Nat) : Int)
def everyL (m : MoList) (pre : List (List Int)) : List Int := (List.range 5).map fun i => ((everyAt m pre i : Nat) : Int)
theorem everyMid_zero (m : MoList) (pre : List (List Int)) (t : List Int) : everyMid m pre t 0 = everyL m pre := by
  unfold everyMid everyL
  simp
theorem everyMid_all (m : MoList) (pre : List (List Int)) (t : List Int) : everyMid m pre t m.sums.length = everyL m (pre ++ [t]) := by
  unfold everyMid everyL
  apply List.map_congr_left
  intro i _
  by_cases h : i < m.sums.length
  · rw [if_pos h]
  · rw [if_neg h]; simp [everyAt, h]
theorem everyL_len (m : MoList) (pre : List (List Int)) : (everyL m pre).length = 5 := by simp [everyL]
theorem everyMid_len (m : MoList) (pre : List (List Int)) (t : List Int) (j : Nat) : (everyMid m pre t j).length = 5 := by simp [everyMid]
theorem everyMid_at (m : MoList) (pre : List (List Int)) (t : List Int) (j : Nat) (h5 : j < 5) (h : j < m.sums.length) : (everyMid m pre t j)[j]? = some ((evBit pre j : Nat) : Int) := by
  unfold everyMid
  simp [h5, everyAt, h]
theorem everyMid_succ (m : MoList) (pre : List (List Int)) (t : List Int) (j : Nat) (h5 : j < 5) (h : j < m.sums.length) :
    everyMid m pre t (j+1) = (everyMid m pre t j).set j ((evBit pre j ||| (1 <<< (t[j]?.getD 0).toNat) : Nat) : Int) := by
  unfold everyMid
  apply List.ext_getElem (by simp)
  intro i h1 h2
  simp only [List.getElem_map, List.getElem_range, List.getElem_set]
  by_cases e : j = i
  · subst e
    simp [everyAt, h, evBit_snoc]
  · rw [if_neg e]
    by_cases hi : i < j
    · rw [if_pos hi, if_pos (by omega)]
    · rw [if_neg hi, if_neg (by omega)]
theorem everyL_nil (m : MoList) : everyL m [] = [0, 0, 0, 0, 0] := by
  unfold everyL
  simp [everyAt, evBit, List.range, List.range.loop]
end Go.Proofs.Ytnlolliankhfmaa
namespace Go.Proofs.Ytnlolliankhfmaa
theorem less_snoc_same (t : List Int) (c d : Int) (h : c < d) : less (t ++ [c]) (t ++ [d]) = true := by
  induction t with
  | nil => simp [less, Int.ne_of_lt h, h]
  | cons x t ih => simp only [List.cons_append, less, if_true]; exact ih
theorem less_snoc : ∀ (s t : List Int) (c d : Int), s.length = t.length → less s t = true → less (s ++ [c]) (t ++ [d]) = true
  | [], [], _, _, _, h => by simp [less] at h
  | x :: s, y :: t, c, d, hl, h => by
    simp only [List.cons_append, less] at h ⊢
    by_cases e : x = y
    · subst e
      simp only [if_true] at h ⊢
      exact less_snoc s t c d (by simpa using hl) h
    · rw [if_neg e] at h ⊢
      exact h
theorem truthStep_sorted (m : MoList) (i : Nat) (t : List Int) : (truthStep m i t).Pairwise (fun a b => less a b = true) := by
  unfold truthStep
  rw [List.pairwise_map]
  refine List.Pairwise.filter _ ?_
  refine (List.pairwise_lt_range (n := m.claimants.length)).imp ?_
  intro a b h
  exact less_snoc_same t _ _ (by omega)
theorem truthsTo_sorted (m : MoList) (i : Nat) : (truthsTo m i).Pairwise (fun a b => less a b = true) := by
  induction i with
  | zero => simp [truthsTo]
  | succ i ih =>
    rw [truthsTo, List.pairwise_flatMap]
    refine ⟨fun t _ => truthStep_sorted m i t, ?_⟩
    have hl := truthsTo_len m i
    refine ih.imp_of_mem ?_
    intro a b ha hb hab x hx y hy
    unfold truthStep at hx hy
    obtain ⟨c, _, rfl⟩ := List.mem_map.1 hx
    obtain ⟨d, _, rfl⟩ := List.mem_map.1 hy
    exact less_snoc a b _ _ (by rw [hl a ha, hl b hb]) hab
theorem truths_sorted (m : MoList) : (truths m).Pairwise (fun a b => less a b = true) := truthsTo_sorted m _
theorem truths_nodup (m : MoList) : (truths m).Nodup := (truths_sorted m).imp (fun {a b} h e => by subst e; rw [less_irrefl] at h; cases h)
/-- In a part of the truths that has come, none stands twice. -/
theorem truths_new (m : MoList) (pre : List (List Int)) (x : List Int) (h : pre ++ [x] <+: truths m) : ∀ t ∈ pre, t ≠ x := by
  intro t ht e
  subst e
  have hn := (h.sublist).nodup (truths_nodup m)
  rw [List.nodup_append] at hn
  exact hn.2.2 t ht t (by simp) rfl
end Go.Proofs.Ytnlolliankhfmaa
namespace Go.Proofs.Ytnlolliankhfmaa
theorem bitsCame_bit (m : MoList) (more : Nat) (i : Nat) : ∀ k, k ≤ m.words.length → (bitsCame m more k).testBit i = (more.testBit i || (decide (i < k) && match m.words[i]? with | some w => w.came | none => false))
  | 0, _ => by simp [bitsCame]
  | k + 1, hk => by
    have ih := bitsCame_bit m more i k (by omega)
    have hk' : k < m.words.length := by omega
    cases hc : m.words[k].came
    · rw [bitsCame_no m more k hk' hc, ih]
      by_cases hi : i = k
      · subst hi
        simp [hk', hc]
      · have : decide (i < k + 1) = decide (i < k) := by rw [decide_eq_decide]; omega
        rw [this]
    · rw [bitsCame_yes m more k hk' hc, Nat.testBit_or, ih, Nat.one_shiftLeft, Nat.testBit_two_pow]
      by_cases hi : i = k
      · subst hi
        simp [hk', hc]
      · have : decide (i < k + 1) = decide (i < k) := by rw [decide_eq_decide]; omega
        rw [this]
        have : decide (k = i) = false := by simp; omega
        rw [this]
        simp
theorem lookBits_bit (m : MoList) (more i : Nat) (h : i < m.words.length) : (lookBits m more).testBit i = (more.testBit i || m.words[i].came) := by
  unfold lookBits
  rw [bitsCame_bit m more i _ (Nat.le_refl _)]
  simp [h]
theorem look_none (m : MoList) : withBits m (lookBits m 0) = m := by
  have h : m.words.mapIdx (bitsWord (lookBits m 0)) = m.words := by
    apply List.ext_getElem (by simp)
    intro i h1 h2
    simp only [List.getElem_mapIdx]
    unfold bitsWord
    rw [lookBits_bit m 0 i h2]
    simp
  unfold withBits
  rw [h]
/-- What enter says. -/
def enterErr (m : MoList) (many : Int) (ns : List Int) : Int := if errOf m = 0 then (if ns.any (fun n => decide (n < 0) || decide (many - 1 < n)) then 4 else if (truths m).length = 0 then 8 else 0) else errOf m
theorem enter_whole (m : MoList) : enterErr m 0 [] = wholeErr m := by
  unfold enterErr wholeErr someErr
  by_cases h : errOf m = 0
  · rw [if_pos h, if_pos h]; simp
  · rw [if_neg h, if_neg h]
theorem enter_one (m : MoList) (n many : Int) : enterErr m many [n] = someErr m (askedErr m n many) := by
  unfold enterErr someErr askedErr
  by_cases h : errOf m = 0
  · rw [if_pos h, if_pos h]
    by_cases h2 : 0 ≤ n ∧ n ≤ many - 1
    · rw [if_pos (inB_iff.2 h2)]
      have e1 : decide (n < 0) = false := by simp; omega
      have e2 : decide (many - 1 < n) = false := by simp; omega
      simp [e1, e2]
    · have e : inB n 0 (many - 1) = false := inB_no.2 (by omega)
      rw [e]
      have : (decide (n < 0) || decide (many - 1 < n)) = true := by simp; omega
      simp [this]
  · rw [if_neg h, if_neg h, if_neg h]
end Go.Proofs.Ytnlolliankhfmaa
namespace Go.Proofs.Ytnlolliankhfmaa
/-- The numbers of a set, as bits, below n. -/
def bitsList (s n : Nat) : List Int := ((List.range n).filter fun i => s.testBit i).map fun (i : Nat) => (i : Int)
/-- A set of one at most. -/
def oneB (s : Nat) : Bool := s &&& (s - 1) == 0
theorem evBit_bit (T : List (List Int)) (i c : Nat) (h : ∀ t ∈ T, 0 ≤ t[i]?.getD 0) : (evBit T i).testBit c = T.any fun t => decide (t[i]?.getD 0 = (c : Int)) := by
  suffices g : ∀ (l : List (List Int)) (e : Nat), (∀ t ∈ l, 0 ≤ t[i]?.getD 0) → (l.foldl (fun e t => e ||| (1 <<< (t[i]?.getD 0).toNat)) e).testBit c = (e.testBit c || l.any fun t => decide (t[i]?.getD 0 = (c : Int))) from by
    have := g T 0 h
    simpa [evBit] using this
  intro l
  induction l with
  | nil => intro e _; simp
  | cons a l ih =>
    intro e hl
    rw [List.foldl_cons, ih _ (fun t ht => hl t (by simp [ht])), Nat.testBit_or, Nat.one_shiftLeft, Nat.testBit_two_pow, List.any_cons, Bool.or_assoc]
    congr 2
    have ha := hl a (by simp)
    rw [decide_eq_decide]
    omega
theorem whom_bits (n : Nat) (T : List (List Int)) (i : Nat) (h : ∀ t ∈ T, 0 ≤ t[i]?.getD 0) : whom n T i = bitsList (evBit T i) n := by
  unfold whom bitsList
  congr 1
  apply List.filter_congr
  intro c _
  rw [evBit_bit T i c h]
theorem evBit_lt_pow (i n : Nat) : ∀ (pre : List (List Int)), (∀ t ∈ pre, (t[i]?.getD 0).toNat < n) → evBit pre i < 2 ^ n := by
  intro pre
  suffices h : ∀ (l : List (List Int)) (e : Nat), e < 2 ^ n → (∀ t ∈ l, (t[i]?.getD 0).toNat < n) → l.foldl (fun e t => e ||| (1 <<< (t[i]?.getD 0).toNat)) e < 2 ^ n from fun hp => h pre 0 (Nat.two_pow_pos n) hp
  intro l
  induction l with
  | nil => intro e he _; exact he
  | cons a l ih =>
    intro e he hl
    rw [List.foldl_cons]
    refine ih _ (Nat.or_lt_two_pow he ?_) (fun t ht => hl t (by simp [ht]))
    have := hl a (by simp)
    rw [Nat.one_shiftLeft]
    exact Nat.pow_lt_pow_right (by omega) this
theorem one_len : ∀ n : Nat, n ≤ 4 → ∀ s : Nat, s < 2 ^ n → decide (1 < (bitsList s n).length) = !oneB s := by decide
/-- The entries of truths at a sum. -/
theorem truth_at (m : MoList) (i : Nat) (hi : i < m.sums.length) : ∀ t ∈ truths m, 0 ≤ t[i]?.getD 0 ∧ t[i]?.getD 0 < m.claimants.length := by
  intro t ht
  have hl := truths_len m t ht
  rw [List.getElem?_eq_getElem (by omega)]
  exact truths_bd m t ht _ (List.getElem_mem (by omega))
theorem truth_ev (m : MoList) (hc : m.claimants.length ≤ 4) (i : Nat) (hi : i < m.sums.length) : evBit (truths m) i < 2 ^ m.claimants.length :=
  evBit_lt_pow i m.claimants.length (truths m) (fun t ht => by have := truth_at m i hi t ht; omega)
theorem truth_ev16 (m : MoList) (hc : m.claimants.length ≤ 4) (i : Nat) : evBit (truths m) i < 16 := by
  refine evBit_lt i (truths m) (fun t ht => ?_)
  have hl := truths_len m t ht
  by_cases hi : i < m.sums.length
  · have := truth_at m i hi t ht
    omega
  · rw [List.getElem?_eq_none (by omega)]
    decide
theorem truth_whom (m : MoList) (i : Nat) (hi : i < m.sums.length) : whom m.claimants.length (truths m) i = bitsList (evBit (truths m) i) m.claimants.length :=
  whom_bits _ _ _ (fun t ht => (truth_at m i hi t ht).1)
theorem truth_sure (m : MoList) (hc : m.claimants.length ≤ 4) (i : Nat) (hi : i < m.sums.length) : decide (1 < (whom m.claimants.length (truths m) i).length) = !oneB (evBit (truths m) i) := by
  rw [truth_whom m i hi]
  exact one_len _ hc _ (truth_ev m hc i hi)
theorem truth_unsure (m : MoList) (hc : m.claimants.length ≤ 4) : unsure m (truths m) = ((List.range m.sums.length).filter fun i => !oneB (evBit (truths m) i)).map fun (i : Nat) => (i : Int) := by
  unfold unsure
  congr 1
  apply List.filter_congr
  intro i hi
  exact truth_sure m hc i (by simpa using hi)
end Go.Proofs.Ytnlolliankhfmaa
namespace Go.Proofs.Ytnlolliankhfmaa
/-- The least of those that came. -/
def Least (pre : List (List Int)) (best : List Int) : Prop := pre ≠ [] → best ∈ pre ∧ ∀ y ∈ pre, y = best ∨ less best y = true
theorem least_one (x : List Int) : Least [x] x := fun _ => ⟨by simp, fun y hy => .inl (by simpa using hy)⟩
theorem least_keep {pre : List (List Int)} {best x : List Int} (h0 : pre ≠ []) (h : Least pre best) (hl : x.length = best.length) (hne : x ≠ best) (hx : less x best = false) : Least (pre ++ [x]) best := fun _ => by
  obtain ⟨h1, h2⟩ := h h0
  refine ⟨by simp [h1], fun y hy => ?_⟩
  rcases List.mem_append.1 hy with hy | hy
  · exact h2 y hy
  · simp at hy
    subst hy
    cases hb : less best y with
    | true => exact .inr rfl
    | false => exact absurd (less_total _ _ hl hx hb) hne
theorem least_new {pre : List (List Int)} {best x : List Int} (h0 : pre ≠ []) (h : Least pre best) (hx : less x best = true) : Least (pre ++ [x]) x := fun _ => by
  obtain ⟨h1, h2⟩ := h h0
  refine ⟨by simp, fun y hy => ?_⟩
  rcases List.mem_append.1 hy with hy | hy
  · rcases h2 y hy with rfl | h3
    · exact .inr hx
    · exact .inr (less_trans _ _ _ hx h3)
  · simp at hy
    exact .inl hy
theorem least_head {T pre : List (List Int)} {best : List Int} (hs : T.Pairwise (fun a b => less a b = true)) (hp : pre.Perm T) (hT : 0 < T.length) (h : Least pre best) : best = T.headD [] := by
  cases T with
  | nil => simp at hT
  | cons a T =>
    have h0 : pre ≠ [] := by intro e; subst e; have := hp.length_eq; simp at this
    obtain ⟨h1, h2⟩ := h h0
    have hb := hp.mem_iff.1 h1
    rcases List.mem_cons.1 hb with rfl | hb
    · rfl
    · have h3 := (List.pairwise_cons.1 hs).1 _ hb
      rcases h2 a (hp.mem_iff.2 (by simp)) with e | h4
      · exact e.symm
      · have := less_asymm _ _ h3
        rw [this] at h4
        cases h4
theorem less_app : ∀ (a b c : List Int), a.length = b.length → less (a ++ c) (b ++ c) = less a b
  | [], [], c, _ => by simp [less_irrefl]
  | _ :: _, [], _, h => by simp at h
  | [], _ :: _, _, h => by simp at h
  | x :: a, y :: b, c, h => by
    simp only [List.cons_append, less]
    rw [less_app a b c (by simpa using h)]
end Go.Proofs.Ytnlolliankhfmaa
namespace Go.Proofs.Ytnlolliankhfmaa
/-- The least and the most of those that came. -/
def SpanL (f : List Int → Int) (pre : List (List Int)) (lo hi : Int) : Prop := pre ≠ [] → (∃ a ∈ pre, lo = f a) ∧ (∃ a ∈ pre, hi = f a) ∧ ∀ a ∈ pre, lo ≤ f a ∧ f a ≤ hi
theorem span_one (f : List Int → Int) (x : List Int) : SpanL f [x] (f x) (f x) := fun _ => ⟨⟨x, by simp, rfl⟩, ⟨x, by simp, rfl⟩, fun a ha => by simp at ha; subst ha; exact ⟨Int.le_refl _, Int.le_refl _⟩⟩
theorem span_more {f : List Int → Int} {pre : List (List Int)} {lo hi : Int} (h0 : pre ≠ []) (h : SpanL f pre lo hi) (x : List Int) : SpanL f (pre ++ [x]) (min lo (f x)) (max hi (f x)) := fun _ => by
  obtain ⟨⟨a, ha, rfl⟩, ⟨b, hb, rfl⟩, h3⟩ := h h0
  refine ⟨?_, ?_, ?_⟩
  · by_cases h4 : f a ≤ f x
    · exact ⟨a, by simp [ha], by omega⟩
    · exact ⟨x, by simp, by omega⟩
  · by_cases h4 : f x ≤ f b
    · exact ⟨b, by simp [hb], by omega⟩
    · exact ⟨x, by simp, by omega⟩
  · intro y hy
    rcases List.mem_append.1 hy with hy | hy
    · have := h3 y hy; omega
    · simp at hy; subst hy; omega
theorem span_eq {f : List Int → Int} {pre T : List (List Int)} {lo hi lo' hi' : Int} (hp : pre.Perm T) (h0 : T ≠ []) (h : SpanL f pre lo hi) (h' : SpanL f T lo' hi') : lo = lo' ∧ hi = hi' := by
  have h1 : pre ≠ [] := fun e => by subst e; exact h0 (List.nil_perm.1 hp)
  obtain ⟨⟨a, ha, rfl⟩, ⟨b, hb, rfl⟩, h3⟩ := h h1
  obtain ⟨⟨c, hc, rfl⟩, ⟨d, hd, rfl⟩, h4⟩ := h' h0
  have e1 := h3 c (hp.mem_iff.2 hc)
  have e2 := h3 d (hp.mem_iff.2 hd)
  have e3 := h4 a (hp.mem_iff.1 ha)
  have e4 := h4 b (hp.mem_iff.1 hb)
  omega
theorem spanTo_l (m : MoList) (all : List (List Int)) (c : Int) : ∀ j, j < all.length → SpanL (fun t => dueOf m t c) (all.take (j + 1)) (spanTo m all c j).1 (spanTo m all c j).2
  | 0, h => by
    cases all with
    | nil => simp at h
    | cons a l => exact span_one (fun t => dueOf m t c) a
  | j + 1, h => by
    have ih := spanTo_l m all c j (by omega)
    rw [List.take_succ_eq_append_getElem h]
    have e : all[j + 1]?.getD [] = all[j + 1] := by rw [List.getElem?_eq_getElem h]; rfl
    simp only [spanTo, e]
    exact span_more (by simp; intro e; subst e; simp at h) ih _
theorem spanTo_all (m : MoList) (all : List (List Int)) (c : Int) (h : 0 < all.length) : SpanL (fun t => dueOf m t c) all (spanTo m all c (all.length - 1)).1 (spanTo m all c (all.length - 1)).2 := by
  have := spanTo_l m all c (all.length - 1) (by omega)
  rwa [show all.length - 1 + 1 = all.length by omega, List.take_length] at this
end Go.Proofs.Ytnlolliankhfmaa
namespace Go.Proofs.Ytnlolliankhfmaa

/-- Ascending numbers from 0 to below n. -/
def incr (n : Int) (l : List Int) : Prop := l.Pairwise (fun a b => a < b) ∧ ∀ x ∈ l, 0 ≤ x ∧ x < n
theorem nil_snoc (l : List Int) : l = [] ∨ ∃ l' x, l = l' ++ [x] := by
  rcases List.eq_nil_or_concat l with h | ⟨l', x, h⟩
  · exact .inl h
  · exact .inr ⟨l', x, by rw [h, List.concat_eq_append]⟩
theorem incr_nil (n : Int) : incr n [] := ⟨List.Pairwise.nil, by simp⟩
theorem incr_snoc {n : Int} {l : List Int} {x : Int} : incr n (l ++ [x]) ↔ incr n l ∧ (∀ y ∈ l, y < x) ∧ 0 ≤ x ∧ x < n := by
  unfold incr
  rw [List.pairwise_append]
  constructor
  · rintro ⟨⟨h1, _, h3⟩, h4⟩
    exact ⟨⟨h1, fun y hy => h4 y (by simp [hy])⟩, fun y hy => h3 y hy x (by simp), h4 x (by simp)⟩
  · rintro ⟨⟨h1, h2⟩, h3, h4⟩
    refine ⟨⟨h1, by simp, fun a ha b hb => by simp at hb; subst hb; exact h3 a ha⟩, fun y hy => ?_⟩
    rcases List.mem_append.1 hy with hy | hy
    · exact h2 y hy
    · simp at hy; subst hy; exact h4
theorem last_max {l : List Int} (h : l.Pairwise (fun a b => a < b)) (y : Int) (hy : y ∈ l) : y ≤ l.getLast?.getD 0 := by
  rcases nil_snoc l with rfl | ⟨l', x, rfl⟩
  · simp at hy
  · rw [List.getLast?_append]
    simp only [List.getLast?_singleton, Option.some_or, Option.getD_some]
    rcases List.mem_append.1 hy with hy | hy
    · rw [List.pairwise_append] at h
      exact Int.le_of_lt (h.2.2 y hy x (by simp))
    · simp at hy; omega
theorem last_mem {l : List Int} (h : 0 < l.length) : l.getLast?.getD 0 ∈ l := by
  rcases nil_snoc l with rfl | ⟨l', x, rfl⟩
  · simp at h
  · rw [List.getLast?_append]; simp
theorem choicesTo_mem (n : Int) (k : Nat) : ∀ l, l ∈ choicesTo n k ↔ l.length = k ∧ incr n l := by
  induction k with
  | zero =>
    intro l
    simp only [choicesTo, List.mem_singleton, List.length_eq_zero_iff]
    exact ⟨fun h => ⟨h, h ▸ incr_nil n⟩, fun h => h.1⟩
  | succ k ih =>
    intro l
    rw [choicesTo, List.mem_flatMap]
    constructor
    · rintro ⟨l', hl', hs⟩
      obtain ⟨h1, h2⟩ := (ih l').1 hl'
      unfold choiceStep at hs
      obtain ⟨j, hj, rfl⟩ := List.mem_map.1 hs
      have hj' := List.mem_range.1 hj
      refine ⟨by simp [h1], incr_snoc.2 ⟨h2, ?_, ?_⟩⟩
      · intro y hy
        have := last_max h2.1 y hy
        have hk : k ≠ 0 := fun e => by subst e; rw [List.eq_nil_of_length_eq_zero h1] at hy; simp at hy
        simp only [beq_iff_eq, hk, if_false]
        omega
      · by_cases hk : k = 0
        · subst hk
          simp at hj' ⊢
          omega
        · simp only [beq_iff_eq, hk, if_false] at hj' ⊢
          have := h2.2 _ (last_mem (l := l') (by omega))
          omega
    · rintro ⟨h1, h2⟩
      rcases nil_snoc l with rfl | ⟨l', x, rfl⟩
      · simp at h1
      · obtain ⟨h3, h4, h5⟩ := incr_snoc.1 h2
        have hl' : l'.length = k := by simpa using h1
        refine ⟨l', (ih l').2 ⟨hl', h3⟩, ?_⟩
        unfold choiceStep
        by_cases hk : k = 0
        · subst hk
          refine List.mem_map.2 ⟨x.toNat, ?_, ?_⟩
          · simp; omega
          · have : (x.toNat : Int) = x := by omega
            simp [this]
        · have hlast := h4 _ (last_mem (l := l') (by omega))
          refine List.mem_map.2 ⟨(x - (l'.getLast?.getD 0 + 1)).toNat, ?_, ?_⟩
          · simp only [beq_iff_eq, hk, if_false, List.mem_range]; omega
          · have : l'.getLast?.getD 0 + 1 + ((x - (l'.getLast?.getD 0 + 1)).toNat : Int) = x := by omega
            simp only [beq_iff_eq, hk, if_false, this]
theorem less_snoc_eq (t : List Int) (c d : Int) : less (t ++ [c]) (t ++ [d]) = decide (c < d) := by
  induction t with
  | nil =>
    simp only [List.nil_append, less]
    by_cases e : c = d
    · subst e; simp
    · rw [if_neg e]
  | cons x t ih => simp only [List.cons_append, less, if_true]; exact ih
theorem choicesTo_sorted (n : Int) (k : Nat) : (choicesTo n k).Pairwise (fun a b => less a b = true) := by
  induction k with
  | zero => simp [choicesTo]
  | succ k ih =>
    rw [choicesTo, List.pairwise_flatMap]
    refine ⟨fun t _ => ?_, ih.imp_of_mem ?_⟩
    · unfold choiceStep
      rw [List.pairwise_map]
      refine (List.pairwise_lt_range (n := _)).imp ?_
      intro a b h
      rw [less_snoc_eq]
      simp; omega
    · intro a b ha hb hab x hx y hy
      unfold choiceStep at hx hy
      obtain ⟨i, _, rfl⟩ := List.mem_map.1 hx
      obtain ⟨j, _, rfl⟩ := List.mem_map.1 hy
      exact less_snoc a b _ _ (by rw [((choicesTo_mem n k a).1 ha).1, ((choicesTo_mem n k b).1 hb).1]) hab

/-- The first of the shortest ones. -/
def FirstOf (P : List Int → Prop) (l : List Int) : Prop := P l ∧ ∀ k, P k → k = l ∨ fewer l k = true
theorem fewer_asymm {a b : List Int} (h : fewer a b = true) : fewer b a = false := by
  unfold fewer at h ⊢
  by_cases e : a.length = b.length
  · rw [if_pos e] at h; rw [if_pos e.symm]; exact less_asymm _ _ h
  · rw [if_neg e] at h; rw [if_neg (fun h => e h.symm)]
    simp at h ⊢; omega
theorem fewer_irrefl (a : List Int) : fewer a a = false := by unfold fewer; rw [if_pos rfl]; exact less_irrefl a
theorem fewer_trans {a b c : List Int} (h : fewer a b = true) (k : fewer b c = true) : fewer a c = true := by
  unfold fewer at h k ⊢
  by_cases e : a.length = b.length
  · rw [if_pos e] at h
    by_cases f : b.length = c.length
    · rw [if_pos f] at k; rw [if_pos (e.trans f)]; exact less_trans _ _ _ h k
    · rw [if_neg f] at k; rw [if_neg (by omega)]; simp at k ⊢; omega
  · rw [if_neg e] at h
    simp at h
    by_cases f : b.length = c.length
    · rw [if_pos f] at k; rw [if_neg (by omega)]; simp; omega
    · rw [if_neg f] at k; simp at k; rw [if_neg (by omega)]; simp; omega
theorem fewer_total {a b : List Int} (h : fewer a b = false) (h2 : fewer b a = false) : a = b := by
  unfold fewer at h h2
  by_cases e : a.length = b.length
  · rw [if_pos e] at h; rw [if_pos e.symm] at h2; exact less_total _ _ e h h2
  · rw [if_neg e] at h; rw [if_neg (fun h => e h.symm)] at h2
    simp at h h2; omega
theorem firstOf_one {P : List Int → Prop} {a b : List Int} (h : FirstOf P a) (k : FirstOf P b) : a = b := by
  rcases h.2 b k.1 with e | h1
  · exact e.symm
  · rcases k.2 a h.1 with e | h2
    · exact e
    · rw [fewer_asymm h1] at h2; cases h2
theorem firstOf_iff {P Q : List Int → Prop} (h : ∀ l, P l ↔ Q l) {l : List Int} (k : FirstOf P l) : FirstOf Q l := ⟨(h l).1 k.1, fun x hx => k.2 x ((h x).2 hx)⟩

theorem find_first {so : List Int → Bool} : ∀ {L : List (List Int)}, L.Pairwise (fun a b => less a b = true) → ∀ {l}, L.find? so = some l → l ∈ L ∧ so l = true ∧ ∀ k ∈ L, so k = true → k = l ∨ less l k = true
  | [], _, l, h => by simp at h
  | a :: L, hs, l, h => by
    rw [List.pairwise_cons] at hs
    cases ha : so a with
    | true =>
      rw [List.find?_cons_of_pos ha] at h
      cases h
      refine ⟨by simp, ha, fun k hk _ => ?_⟩
      rcases List.mem_cons.1 hk with e | hk
      · exact .inl e
      · exact .inr (hs.1 k hk)
    | false =>
      rw [List.find?_cons_of_neg (by simp [ha])] at h
      obtain ⟨h1, h2, h3⟩ := find_first hs.2 h
      refine ⟨by simp [h1], h2, fun k hk hso => ?_⟩
      rcases List.mem_cons.1 hk with e | hk
      · subst e; rw [ha] at hso; cases hso
      · exact h3 k hk hso
theorem find_no {so : List Int → Bool} {L : List (List Int)} (h : L.find? so = none) : ∀ k ∈ L, so k = false := by
  rw [List.find?_eq_none] at h
  intro k hk
  have := h k hk
  simpa using this
theorem searchFrom_spec (so : List Int → Bool) (n : Int) : ∀ (f k : Nat), (∀ l, searchFrom so n k f = some l → FirstOf (fun l => incr n l ∧ k ≤ l.length ∧ l.length < k + f ∧ so l = true) l) ∧ (searchFrom so n k f = none → ∀ l, incr n l → k ≤ l.length → l.length < k + f → so l = false)
  | 0, k => ⟨fun l h => by simp [searchFrom] at h, fun _ l _ h1 h2 => by omega⟩
  | f + 1, k => by
    cases hc : (choicesTo n k).find? so with
    | some l0 =>
      rw [search_some hc]
      refine ⟨fun l h => ?_, fun h => by cases h⟩
      cases h
      obtain ⟨h1, h2, h3⟩ := find_first (choicesTo_sorted n k) hc
      obtain ⟨h4, h5⟩ := (choicesTo_mem n k l0).1 h1
      refine ⟨⟨h5, by omega, by omega, h2⟩, fun x hx => ?_⟩
      obtain ⟨g1, g2, g3, g4⟩ := hx
      by_cases e : x.length = k
      · rcases h3 x ((choicesTo_mem n k x).2 ⟨e, g1⟩) g4 with h | h
        · exact .inl h
        · refine .inr ?_
          unfold fewer
          rw [if_pos (by omega)]
          exact h
      · refine .inr ?_
        unfold fewer
        rw [if_neg (by omega)]
        simp; omega
    | none =>
      rw [search_none hc]
      have hno := find_no hc
      obtain ⟨i1, i2⟩ := searchFrom_spec so n f (k + 1)
      have hk : ∀ l, incr n l → l.length = k → so l = false := fun l h1 h2 => hno l ((choicesTo_mem n k l).2 ⟨h2, h1⟩)
      refine ⟨fun l h => ?_, fun h l h1 h2 h3 => ?_⟩
      · have := i1 l h
        obtain ⟨⟨g1, g2, g3, g4⟩, g5⟩ := this
        refine ⟨⟨g1, by omega, by omega, g4⟩, fun x ⟨x1, x2, x3, x4⟩ => ?_⟩
        by_cases e : x.length = k
        · rw [hk x x1 e] at x4; cases x4
        · exact g5 x ⟨x1, by omega, by omega, x4⟩
      · by_cases e : l.length = k
        · exact hk l h1 e
        · exact i2 h l h1 (by omega) (by omega)
theorem incr_len {n : Nat} {l : List Int} (h : incr n l) : l.length ≤ n := by
  induction n generalizing l with
  | zero =>
    cases l with
    | nil => simp
    | cons a l => have := h.2 a (by simp); omega
  | succ n ih =>
    rcases nil_snoc l with rfl | ⟨l', x, rfl⟩
    · simp
    · obtain ⟨h3, h4, h5⟩ := incr_snoc.1 h
      have := ih (l := l') ⟨h3.1, fun y hy => ⟨(h3.2 y hy).1, by have := h4 y hy; omega⟩⟩
      simp; omega

/-- Bits as lists. -/
theorem bits_incr (s n : Nat) : incr n (bitsList s n) := by
  unfold bitsList incr
  refine ⟨?_, fun x hx => ?_⟩
  · rw [List.pairwise_map]
    refine List.Pairwise.filter _ ?_
    exact (List.pairwise_lt_range (n := n)).imp (fun h => by omega)
  · obtain ⟨i, hi, rfl⟩ := List.mem_map.1 hx
    have := (List.mem_filter.1 hi).1
    simp at this
    omega
theorem bits_mem (s n : Nat) (x : Int) : x ∈ bitsList s n ↔ 0 ≤ x ∧ x < n ∧ s.testBit x.toNat = true := by
  unfold bitsList
  rw [List.mem_map]
  constructor
  · rintro ⟨i, hi, rfl⟩
    obtain ⟨h1, h2⟩ := List.mem_filter.1 hi
    simp at h1
    exact ⟨by omega, by omega, by simpa using h2⟩
  · rintro ⟨h1, h2, h3⟩
    exact ⟨x.toNat, List.mem_filter.2 ⟨by simp; omega, h3⟩, by omega⟩
theorem incr_ext : ∀ {a b : List Int}, a.Pairwise (fun x y => x < y) → b.Pairwise (fun x y => x < y) → (∀ x, x ∈ a ↔ x ∈ b) → a = b
  | [], [], _, _, _ => rfl
  | [], y :: ys, _, _, h => by have := (h y).2 (by simp); simp at this
  | x :: xs, [], _, _, h => by have := (h x).1 (by simp); simp at this
  | x :: xs, y :: ys, ha, hb, h => by
    rw [List.pairwise_cons] at ha hb
    have e : x = y := by
      have h1 := (h x).1 (by simp)
      have h2 := (h y).2 (by simp)
      rcases List.mem_cons.1 h1 with e | h1
      · exact e
      · rcases List.mem_cons.1 h2 with e | h2
        · exact e.symm
        · have := ha.1 y h2; have := hb.1 x h1; omega
    subst e
    rw [incr_ext ha.2 hb.2 (fun z => ?_)]
    constructor
    · intro hz
      rcases List.mem_cons.1 ((h z).1 (by simp [hz])) with e | h1
      · subst e; have := ha.1 z hz; omega
      · exact h1
    · intro hz
      rcases List.mem_cons.1 ((h z).2 (by simp [hz])) with e | h1
      · subst e; have := hb.1 z hz; omega
      · exact h1
/-- A list as bits. -/
def setOf (l : List Int) : Nat := l.foldl (fun s x => s ||| (1 <<< x.toNat)) 0
theorem setOf_bit (l : List Int) (k : Nat) (hl : ∀ x ∈ l, 0 ≤ x) : (setOf l).testBit k = decide ((k : Int) ∈ l) := by
  unfold setOf
  suffices h : ∀ (l : List Int) (s : Nat), (∀ x ∈ l, 0 ≤ x) → (l.foldl (fun s x => s ||| (1 <<< x.toNat)) s).testBit k = (s.testBit k || decide ((k : Int) ∈ l)) from by
    have := h l 0 hl; simpa using this
  intro l
  induction l with
  | nil => intro s _; simp
  | cons a l ih =>
    intro s h
    rw [List.foldl_cons, ih _ (fun x hx => h x (by simp [hx])), Nat.testBit_or, Nat.one_shiftLeft, Nat.testBit_two_pow, Bool.or_assoc]
    congr 1
    have ha := h a (by simp)
    rw [Bool.eq_iff_iff]
    simp only [Bool.or_eq_true, decide_eq_true_eq, List.mem_cons]
    constructor
    · rintro (h | h)
      · exact .inl (by omega)
      · exact .inr h
    · rintro (h | h)
      · exact .inl (by omega)
      · exact .inr h
theorem setOf_lt (l : List Int) (n : Nat) (hl : ∀ x ∈ l, 0 ≤ x ∧ x < n) : setOf l < 2 ^ n := by
  unfold setOf
  suffices h : ∀ (l : List Int) (s : Nat), s < 2 ^ n → (∀ x ∈ l, 0 ≤ x ∧ x < n) → l.foldl (fun s x => s ||| (1 <<< x.toNat)) s < 2 ^ n from h l 0 (Nat.two_pow_pos n) hl
  intro l
  induction l with
  | nil => intro s hs _; exact hs
  | cons a l ih =>
    intro s hs h
    rw [List.foldl_cons]
    refine ih _ (Nat.or_lt_two_pow hs ?_) (fun x hx => h x (by simp [hx]))
    rw [Nat.one_shiftLeft]
    have := h a (by simp)
    exact Nat.pow_lt_pow_right (by omega) (by omega)
theorem setOf_bits {l : List Int} {n : Nat} (h : incr n l) : bitsList (setOf l) n = l := by
  refine incr_ext (bits_incr _ n).1 h.1 (fun x => ?_)
  rw [bits_mem]
  constructor
  · rintro ⟨h1, h2, h3⟩
    rw [setOf_bit l _ (fun x hx => (h.2 x hx).1)] at h3
    have e : ((x.toNat : Nat) : Int) = x := by omega
    rw [e] at h3
    simpa using h3
  · intro hx
    have := h.2 x hx
    refine ⟨this.1, this.2, ?_⟩
    rw [setOf_bit l _ (fun x hx => (h.2 x hx).1)]
    have e : ((x.toNat : Nat) : Int) = x := by omega
    rw [e]
    simpa using hx

/-- What fewest has found among the sets below k. -/
def Found (n : Nat) (so : Nat → Bool) (k : Nat) (best : List Int) (found : Bool) : Prop :=
  (found = false → best = [] ∧ ∀ s, s < k → so s = false) ∧ (found = true → FirstOf (fun l => ∃ s, s < k ∧ so s = true ∧ l = bitsList s n) best)
theorem found_zero (n : Nat) (so : Nat → Bool) : Found n so 0 [] false := ⟨fun _ => ⟨rfl, fun s h => by omega⟩, fun h => by cases h⟩
theorem found_skip {n k : Nat} {so : Nat → Bool} {best : List Int} (h : Found n so k best true) (hf : bitsList k n = best ∨ fewer best (bitsList k n) = true) : Found n so (k + 1) best true := by
  refine ⟨(fun h => by cases h), fun _ => ?_⟩
  obtain ⟨⟨s, h1, h2, h3⟩, h4⟩ := h.2 rfl
  refine ⟨⟨s, by omega, h2, h3⟩, fun x ⟨t, t1, t2, t3⟩ => ?_⟩
  by_cases e : t < k
  · exact h4 x ⟨t, e, t2, t3⟩
  · have : t = k := by omega
    subst this
    rw [t3]
    exact hf
theorem found_no {n k : Nat} {so : Nat → Bool} {best : List Int} {found : Bool} (h : Found n so k best found) (hs : so k = false) : Found n so (k + 1) best found := by
  refine ⟨fun e => ⟨(h.1 e).1, fun s hs' => ?_⟩, fun e => ?_⟩
  · by_cases e2 : s < k
    · exact (h.1 e).2 s e2
    · have : s = k := by omega
      subst this
      exact hs
  · obtain ⟨⟨s, h1, h2, h3⟩, h4⟩ := h.2 e
    refine ⟨⟨s, by omega, h2, h3⟩, fun x ⟨t, t1, t2, t3⟩ => ?_⟩
    by_cases e : t < k
    · exact h4 x ⟨t, e, t2, t3⟩
    · have : t = k := by omega
      subst this
      rw [hs] at t2; cases t2
theorem found_yes {n k : Nat} {so : Nat → Bool} {best : List Int} {found : Bool} (h : Found n so k best found) (hs : so k = true) (hf : found = true → fewer best (bitsList k n) = false) : Found n so (k + 1) (bitsList k n) true := by
  refine ⟨(fun e => by cases e), fun _ => ⟨⟨k, by omega, hs, rfl⟩, fun x ⟨t, t1, t2, t3⟩ => ?_⟩⟩
  by_cases e : t < k
  · cases found with
    | false => rw [(h.1 rfl).2 t e] at t2; cases t2
    | true =>
      have h1 := hf rfl
      rcases (h.2 rfl).2 x ⟨t, e, t2, t3⟩ with e2 | h2
      · cases h3 : fewer (bitsList k n) best with
        | true => rw [e2]; exact .inr h3
        | false => rw [e2]; exact .inl (fewer_total h1 h3)
      · cases h3 : fewer (bitsList k n) best with
        | true => exact .inr (fewer_trans h3 h2)
        | false => rw [← fewer_total h1 h3]; exact .inr h2
  · have : t = k := by omega
    subst this
    exact .inl t3
end Go.Proofs.Ytnlolliankhfmaa
namespace Go.Proofs.Ytnlolliankhfmaa

theorem hasB_bits (s n : Nat) (i : Nat) (h : i < n) : hasB (bitsList s n) i = s.testBit i := by
  rw [Bool.eq_iff_iff, hasB_iff, bits_mem]
  constructor
  · rintro ⟨_, _, h⟩; simpa using h
  · intro h2; exact ⟨by omega, by omega, by simpa using h2⟩

/-- Sums of the first payments that are not let out. -/
def paidBits (m : MoList) (but : Nat) : Nat → Nat
  | 0 => 0
  | k + 1 => if but.testBit k then paidBits m but k else paidBits m but k ||| (1 <<< (match m.paid[k]? with | some p => p.sum.toNat | none => 0))
theorem paidBits_out (m : MoList) (but k : Nat) (h : but.testBit k = true) : paidBits m but (k + 1) = paidBits m but k := by rw [paidBits, if_pos h]
theorem paidBits_in (m : MoList) (but k : Nat) (hk : k < m.paid.length) (h : but.testBit k = false) : paidBits m but (k + 1) = paidBits m but k ||| (1 <<< m.paid[k].sum.toNat) := by
  rw [paidBits, if_neg (by simp [h]), List.getElem?_eq_getElem hk]
theorem paidBits_lt (m : MoList) (hv : Valid m) (but : Nat) : ∀ k, k ≤ m.paid.length → paidBits m but k < 32
  | 0, _ => by show 0 < 32; omega
  | k + 1, h => by
    have ih := paidBits_lt m hv but k (by omega)
    cases hb : but.testBit k with
    | true => rw [paidBits_out m but k hb]; exact ih
    | false =>
      rw [paidBits_in m but k (by omega) hb]
      have := (hv.paid k (by omega)).1
      have hz := hv.nz
      exact Nat.or_lt_two_pow (n := 5) ih (by rw [Nat.one_shiftLeft]; exact Nat.pow_lt_pow_right (by omega) (by omega))
theorem paidBits_bit (m : MoList) (hv : Valid m) (but : Nat) (s : Int) (hs : 0 ≤ s) : ∀ k, k ≤ m.paid.length → (paidBits m but k).testBit s.toNat = !((List.range k).all fun j => pairOk m (bitsList but m.paid.length) s j)
  | 0, _ => by simp [paidBits]
  | k + 1, h => by
    have ih := paidBits_bit m hv but s hs k (by omega)
    rw [List.range_succ, List.all_append, Bool.not_and, ← ih]
    simp only [List.all_cons, List.all_nil, Bool.and_true]
    rw [pairOk_eq (by omega), hasB_bits _ _ _ (by omega)]
    cases hb : but.testBit k with
    | true => rw [paidBits_out m but k hb]; simp
    | false =>
      rw [paidBits_in m but k (by omega) hb, Nat.testBit_or, Nat.one_shiftLeft, Nat.testBit_two_pow]
      congr 1
      have := (hv.paid k (by omega)).1
      simp only [Bool.false_or]
      rw [Bool.eq_iff_iff]
      simp
      omega
/-- A payment was right, as the program looks. -/
def rightAtB (m : MoList) (t : List Int) (but i : Nat) : Bool := but.testBit i || match m.paid[i]? with | some p => decide (t[p.sum.toNat]?.getD 0 = p.claimant) && !(paidBits m but i).testBit p.sum.toNat | none => true
theorem rightAtB_eq (m : MoList) (hv : Valid m) (t : List Int) (but i : Nat) (h : i < m.paid.length) : rightAtB m t but i = rightAt m t (bitsList but m.paid.length) i := by
  rw [rightAt_eq h, hasB_bits _ _ _ h]
  unfold rightAtB
  rw [List.getElem?_eq_getElem h]
  simp only
  rw [paidBits_bit m hv but _ (hv.paid i h).1.1 i (by omega), Bool.not_not]
def rightB (m : MoList) (t : List Int) (but : Nat) : Bool := right m t (bitsList but m.paid.length)
theorem rightB_no {m : MoList} (hv : Valid m) {t : List Int} {but i : Nat} (h : i < m.paid.length) (h1 : but.testBit i = false) (h2 : (paidBits m but i).testBit m.paid[i].sum.toNat = true ∨ t[m.paid[i].sum.toNat]?.getD 0 ≠ m.paid[i].claimant) : rightB m t but = false := by
  refine right_false h ?_
  rw [← rightAtB_eq m hv t but i h]
  unfold rightAtB
  rw [List.getElem?_eq_getElem h, h1]
  rcases h2 with h2 | h2
  · simp [h2]
  · simp [h2]
theorem rightB_at {m : MoList} (hv : Valid m) {t : List Int} {but i : Nat} (h : i < m.paid.length) (h1 : but.testBit i = true ∨ ((paidBits m but i).testBit m.paid[i].sum.toNat = false ∧ t[m.paid[i].sum.toNat]?.getD 0 = m.paid[i].claimant)) : rightAtB m t but i = true := by
  unfold rightAtB
  rw [List.getElem?_eq_getElem h]
  rcases h1 with h1 | ⟨h1, h2⟩
  · simp [h1]
  · simp [h1, h2]
theorem rightB_yes {m : MoList} (hv : Valid m) {t : List Int} {but : Nat} (h : ∀ i, i < m.paid.length → rightAtB m t but i = true) : rightB m t but = true :=
  right_true fun i hi => by rw [← rightAtB_eq m hv t but i hi]; exact h i hi

/-- The payments that were wrong are the first of the shortest ones without which all others were right. -/
theorem someRight_all (m : MoList) (h : 0 < (truths m).length) (l : List Int) (hl : ∀ i, i < m.paid.length → (i : Int) ∈ l) : someRight m (truths m) l = true := by
  unfold someRight
  refine any_hit (i := 0) h ?_
  refine right_true fun i hi => rightAt_skip hi ?_
  rw [hasB_iff]
  exact hl i hi
theorem incr_full {n : Nat} {l : List Int} (h : incr n l) (hl : l.length = n) : ∀ i, i < n → (i : Int) ∈ l := by
  induction n generalizing l with
  | zero => intro i hi; omega
  | succ n ih =>
    rcases nil_snoc l with rfl | ⟨l', x, rfl⟩
    · simp at hl
    · obtain ⟨h3, h4, h5⟩ := incr_snoc.1 h
      have hl' : l'.length = n := by simpa using hl
      have hi' : incr n l' := ⟨h3.1, fun y hy => ⟨(h3.2 y hy).1, by have := h4 y hy; omega⟩⟩
      intro i hi
      by_cases e : i < n
      · have := ih hi' hl' i e
        simp [this]
      · have hx : x = (n : Int) := by
          by_cases h0 : n = 0
          · subst h0; omega
          · have h1 := ih hi' hl' (n - 1) (by omega)
            have := h4 _ h1
            omega
        have : i = n := by omega
        subst this
        simp [hx]
theorem wrong_first (m : MoList) (h0 : wholeErr m = 0) : FirstOf (fun l => incr m.paid.length l ∧ someRight m (truths m) l = true) (wrongOf m).1 := by
  have hw := whole_valid h0
  have hp5 := hw.1.np
  obtain ⟨s1, s2⟩ := searchFrom_spec (someRight m (truths m)) m.paid.length m.paid.length 0
  unfold wrongOf
  rw [if_pos h0]
  simp only
  have hall : ∀ l, incr m.paid.length l → l.length = m.paid.length → someRight m (truths m) l = true := fun l h1 h2 => someRight_all m hw.2 l (incr_full h1 h2)
  cases hs : searchFrom (someRight m (truths m)) (m.paid.length : Int) 0 m.paid.length with
  | some l =>
    have h := s1 l hs
    refine ⟨⟨h.1.1, h.1.2.2.2⟩, fun x ⟨x1, x2⟩ => ?_⟩
    have hxl := incr_len x1
    by_cases e : x.length < m.paid.length
    · exact h.2 x ⟨x1, by omega, by omega, x2⟩
    · refine .inr ?_
      have := h.1.2.2.1
      unfold fewer
      rw [if_neg (by show ¬ l.length = x.length; omega)]
      show decide (l.length < x.length) = true
      simp; omega
  | none =>
    have hn := s2 hs
    have hc := choices_all m.paid.length hp5
    have hsort := choicesTo_sorted (m.paid.length : Int) m.paid.length
    have hmem := choicesTo_mem (m.paid.length : Int) m.paid.length
    generalize choicesTo (m.paid.length : Int) m.paid.length = L at hc hsort hmem
    cases L with
    | nil => simp at hc
    | cons a L =>
      obtain ⟨a1, a2⟩ := (hmem a).1 (by simp)
      refine ⟨⟨a2, hall a a2 a1⟩, fun x ⟨x1, x2⟩ => ?_⟩
      show x = a ∨ fewer a x = true
      have hxl := incr_len x1
      by_cases e : x.length < m.paid.length
      · rw [hn x x1 (by omega) (by omega)] at x2; cases x2
      · have hx : x ∈ a :: L := (hmem x).2 ⟨by omega, x1⟩
        rcases List.mem_cons.1 hx with e2 | h2
        · exact .inl e2
        · refine .inr ?_
          unfold fewer
          rw [if_pos (by omega)]
          exact (List.pairwise_cons.1 hsort).1 x h2
/-- What fewest finds of payments is what the reference says. -/
theorem wrong_found {m : MoList} (h0 : wholeErr m = 0) {best : List Int} {found : Bool} (h : Found m.paid.length (fun s => someRight m (truths m) (bitsList s m.paid.length)) (2 ^ m.paid.length) best found) : best = (wrongOf m).1 := by
  have hw := wrong_first m h0
  have hiff : ∀ l, (∃ s, s < 2 ^ m.paid.length ∧ someRight m (truths m) (bitsList s m.paid.length) = true ∧ l = bitsList s m.paid.length) ↔ (incr m.paid.length l ∧ someRight m (truths m) l = true) := fun l => by
    constructor
    · rintro ⟨s, _, h2, rfl⟩; exact ⟨bits_incr _ _, h2⟩
    · rintro ⟨h1, h2⟩; exact ⟨setOf l, setOf_lt l _ h1.2, by rw [setOf_bits h1]; exact h2, (setOf_bits h1).symm⟩
  cases found with
  | true => exact firstOf_one (firstOf_iff hiff (h.2 rfl)) hw
  | false =>
    have := (h.1 rfl).2 (setOf (wrongOf m).1) (setOf_lt _ _ hw.1.1.2)
    simp only at this
    rw [setOf_bits hw.1.1, hw.1.2] at this
    cases this

/-- Words that have come, too: as bits, as a list. -/
theorem lookBits_with (m : MoList) (s : Nat) : withBits m (lookBits m s) = withWords m (bitsList s m.words.length) := by
  unfold withBits withWords
  congr 1
  apply List.ext_getElem
  · rw [List.length_mapIdx]; exact (cameTo_len _ _).symm
  · intro i h1 h2
    have hi : i < m.words.length := by simpa using h1
    rw [List.getElem_mapIdx]
    unfold bitsWord
    rw [lookBits_bit m s i hi]
    suffices g : ∀ (l : List Int) (ws : List MoWord) (hw : i < ws.length) (hl : ∀ x ∈ l, 0 ≤ x ∧ x < ws.length), (cameTo ws l)[i]? = some { ws[i] with came := (decide ((i : Int) ∈ l) || ws[i].came) } from by
      have := g (bitsList s m.words.length) m.words hi (fun x hx => by have := (bits_mem _ _ _).1 hx; omega)
      have e : decide ((i : Int) ∈ bitsList s m.words.length) = s.testBit i := by
        rw [Bool.eq_iff_iff, decide_eq_true_eq, bits_mem]
        constructor
        · rintro ⟨_, _, h⟩; simpa using h
        · intro h; exact ⟨by omega, by omega, by simpa using h⟩
      rw [e] at this
      have h2' : i < (cameTo m.words (bitsList s m.words.length)).length := by rw [cameTo_len]; exact hi
      rw [List.getElem?_eq_getElem h2'] at this
      exact (Option.some.inj this).symm
    intro l
    induction l with
    | nil => intro ws hw _; show ws[i]? = _; simp [hw]
    | cons x l ih =>
      intro ws hw hl
      show (cameTo (setCame ws x.toNat) l)[i]? = _
      have hlen := setCame_len ws x.toNat
      have hx := hl x (by simp)
      have hxn : x.toNat < ws.length := by omega
      rw [ih (setCame ws x.toNat) (by omega) (fun y hy => by rw [hlen]; exact hl y (by simp [hy]))]
      simp only [setCame_eq ws _ hxn, List.getElem_set]
      by_cases e : x.toNat = i
      · subst e
        have : ((x.toNat : Nat) : Int) = x := by omega
        simp [this]
      · have h3 : ¬ (i : Int) = x := by omega
        simp [h3, e]
end Go.Proofs.Ytnlolliankhfmaa
namespace Go.Proofs.Ytnlolliankhfmaa

theorem late_mem (m : MoList) (x : Int) : x ∈ lateWords m ↔ 0 ≤ x ∧ ∃ h : x.toNat < m.words.length, m.words[x.toNat].came = false := by
  unfold lateWords
  rw [List.mem_map]
  constructor
  · rintro ⟨i, hi, rfl⟩
    obtain ⟨h1, h2⟩ := List.mem_filter.1 hi
    simp at h1
    rw [List.getElem?_eq_getElem h1] at h2
    exact ⟨by omega, by simpa using h1, by simpa using h2⟩
  · rintro ⟨h1, h2, h3⟩
    refine ⟨x.toNat, List.mem_filter.2 ⟨by simpa using h2, ?_⟩, by omega⟩
    rw [List.getElem?_eq_getElem h2]
    simp [h3]
theorem late_incr (m : MoList) : incr m.words.length (lateWords m) := by
  refine ⟨?_, fun x hx => late_bd m x hx⟩
  unfold lateWords
  rw [List.pairwise_map]
  refine List.Pairwise.filter _ ?_
  exact (List.pairwise_lt_range (n := _)).imp (fun h => by omega)
theorem pair_lt {l : List Int} (h : l.Pairwise (fun a b => a < b)) (i j : Nat) (hij : i < j) (hj : j < l.length) : l[i]'(by omega) < l[j] := by
  rw [List.pairwise_iff_getElem] at h
  exact h i j (by omega) hj hij
theorem pick_at {l : List Int} {x : Int} (hx : 0 ≤ x ∧ x < l.length) : l[x.toNat]?.getD 0 = l[x.toNat]'(by omega) := by rw [List.getElem?_eq_getElem (by omega)]; rfl
theorem pick_lt {l : List Int} (h : l.Pairwise (fun a b => a < b)) {x y : Int} (hx : 0 ≤ x ∧ x < l.length) (hy : 0 ≤ y ∧ y < l.length) (hxy : x < y) : l[x.toNat]?.getD 0 < l[y.toNat]?.getD 0 := by
  rw [pick_at hx, pick_at hy]
  exact pair_lt h _ _ (by omega) (by omega)
theorem less_picks {late : List Int} (h : late.Pairwise (fun a b => a < b)) : ∀ (a b : List Int), (∀ x ∈ a, 0 ≤ x ∧ x < late.length) → (∀ x ∈ b, 0 ≤ x ∧ x < late.length) → less (picks late a) (picks late b) = less a b
  | [], [], _, _ => rfl
  | _ :: _, [], _, _ => rfl
  | [], _ :: _, _, _ => rfl
  | x :: a, y :: b, ha, hb => by
    have hx := ha x (by simp)
    have hy := hb y (by simp)
    have ih := less_picks h a b (fun z hz => ha z (by simp [hz])) (fun z hz => hb z (by simp [hz]))
    show less (late[x.toNat]?.getD 0 :: picks late a) (late[y.toNat]?.getD 0 :: picks late b) = _
    simp only [less]
    rw [ih]
    by_cases e : x = y
    · subst e; rw [if_pos rfl, if_pos rfl]
    · rw [if_neg e]
      by_cases l : x < y
      · have := pick_lt h hx hy l
        rw [if_neg (by omega)]
        simp [this, l]
      · have := pick_lt h hy hx (by omega)
        rw [if_neg (by omega)]
        simp; omega
theorem fewer_picks {late : List Int} (h : late.Pairwise (fun a b => a < b)) (a b : List Int) (ha : ∀ x ∈ a, 0 ≤ x ∧ x < late.length) (hb : ∀ x ∈ b, 0 ≤ x ∧ x < late.length) : fewer (picks late a) (picks late b) = fewer a b := by
  unfold fewer
  rw [picks_len, picks_len, less_picks h a b ha hb]
theorem picks_incr {late : List Int} {n : Int} (h : incr n late) {c : List Int} (hc : incr late.length c) : incr n (picks late c) ∧ ∀ x ∈ picks late c, x ∈ late := by
  refine ⟨⟨?_, picks_bd h.2 hc.2⟩, ?_⟩
  · unfold picks
    rw [List.pairwise_map]
    refine hc.1.imp_of_mem ?_
    intro a b ha hb hab
    exact pick_lt h.1 (hc.2 a ha) (hc.2 b hb) hab
  · intro x hx
    unfold picks at hx
    obtain ⟨i, hi, rfl⟩ := List.mem_map.1 hx
    rw [pick_at (hc.2 i hi)]
    exact List.getElem_mem _
theorem picks_of {late : List Int} (h : late.Pairwise (fun a b => a < b)) {l : List Int} (hl : l.Pairwise (fun a b => a < b)) (hm : ∀ x ∈ l, x ∈ late) : ∃ c, incr late.length c ∧ l = picks late c := by
  refine ⟨l.map fun x => ((late.idxOf x : Nat) : Int), ⟨?_, fun y hy => ?_⟩, ?_⟩
  · rw [List.pairwise_map]
    refine hl.imp_of_mem ?_
    intro a b ha hb hab
    have h1 := List.idxOf_lt_length_of_mem (hm a ha)
    have h2 := List.idxOf_lt_length_of_mem (hm b hb)
    have e1 : late[late.idxOf a] = a := List.getElem_idxOf h1
    have e2 : late[late.idxOf b] = b := List.getElem_idxOf h2
    have : ¬ late.idxOf b ≤ late.idxOf a := fun hle => by
      rcases Nat.lt_or_eq_of_le hle with h3 | h3
      · have := pair_lt h _ _ h3 h1
        omega
      · have : late[late.idxOf b] = late[late.idxOf a] := by congr 1
        omega
    omega
  · obtain ⟨x, hx, rfl⟩ := List.mem_map.1 hy
    have := List.idxOf_lt_length_of_mem (hm x hx)
    omega
  · unfold picks
    rw [List.map_map]
    symm
    have : ∀ x ∈ l, ((fun i : Int => late[i.toNat]?.getD 0) ∘ fun x => ((late.idxOf x : Nat) : Int)) x = id x := fun x hx => by
      have h1 := List.idxOf_lt_length_of_mem (hm x hx)
      simp only [Function.comp, Int.toNat_natCast, id]
      rw [List.getElem?_eq_getElem h1, List.getElem_idxOf h1]; rfl
    rw [List.map_congr_left this, List.map_id]

/-- Lists of late words that decide. -/
def WaitP (m : MoList) (l : List Int) : Prop := incr m.words.length l ∧ (∀ x ∈ l, x ∈ lateWords m) ∧ decides m l = true
theorem wait_spec (m : MoList) (h0 : wholeErr m = 0) : ((waitOf m).2 = 0 ∧ FirstOf (WaitP m) (waitOf m).1) ∨ ((waitOf m).2 = 9 ∧ (waitOf m).1 = [] ∧ ∀ l, ¬ WaitP m l) := by
  have hlate := late_incr m
  unfold waitOf
  rw [if_pos h0]
  obtain ⟨s1, s2⟩ := searchFrom_spec (fun c => decides m (picks (lateWords m) c)) (lateWords m).length ((lateWords m).length + 1) 0
  cases hs : searchFrom (fun c => decides m (picks (lateWords m) c)) ((lateWords m).length : Int) 0 ((lateWords m).length + 1) with
  | some c =>
    refine .inl ⟨rfl, ?_⟩
    have h := s1 c hs
    obtain ⟨⟨h1, _, _, h4⟩, h5⟩ := h
    have hp := picks_incr hlate h1
    refine ⟨⟨hp.1, hp.2, h4⟩, fun x ⟨x1, x2, x3⟩ => ?_⟩
    obtain ⟨d, d1, rfl⟩ := picks_of hlate.1 x1.1 x2
    rcases h5 d ⟨d1, by omega, by have := incr_len d1; omega, x3⟩ with e | h
    · exact .inl (by rw [e])
    · exact .inr (by rw [fewer_picks hlate.1 _ _ h1.2 d1.2]; exact h)
  | none =>
    refine .inr ⟨rfl, rfl, fun l ⟨x1, x2, x3⟩ => ?_⟩
    obtain ⟨d, d1, rfl⟩ := picks_of hlate.1 x1.1 x2
    have := s2 hs d d1 (by omega) (by have := incr_len d1; omega)
    rw [this] at x3
    cases x3

/-- What the program asks of a set of words. -/
def waitSo (m : MoList) (s : Nat) : Bool := (s &&& lookBits m 0 == 0) && decides m (bitsList s m.words.length)
theorem and_zero (a b n : Nat) (ha : a < 2 ^ n) : (a &&& b == 0) = true ↔ ∀ i, i < n → a.testBit i = true → b.testBit i = false := by
  rw [beq_iff_eq]
  constructor
  · intro h i _ h1
    have := congrArg (fun x => x.testBit i) h
    simp only [Nat.testBit_and, h1, Bool.true_and, Nat.zero_testBit] at this
    exact this
  · intro h
    apply Nat.eq_of_testBit_eq
    intro i
    rw [Nat.testBit_and, Nat.zero_testBit]
    cases h1 : a.testBit i with
    | false => rfl
    | true =>
      have hi : i < n := Classical.byContradiction fun hn => by
        have := Nat.testBit_lt_two_pow (Nat.lt_of_lt_of_le ha (Nat.pow_le_pow_right (by omega) (Nat.le_of_not_lt hn)))
        rw [this] at h1; cases h1
      simp [h i hi h1]
theorem late_bits (m : MoList) (s : Nat) (hs : s < 2 ^ m.words.length) : (s &&& lookBits m 0 == 0) = true ↔ ∀ x ∈ bitsList s m.words.length, x ∈ lateWords m := by
  rw [and_zero _ _ _ hs]
  constructor
  · intro h x hx
    obtain ⟨h1, h2, h3⟩ := (bits_mem _ _ _).1 hx
    have hi : x.toNat < m.words.length := by omega
    have := h _ hi h3
    rw [lookBits_bit m 0 _ hi] at this
    exact (late_mem m x).2 ⟨h1, hi, by simpa using this⟩
  · intro h i hi h1
    obtain ⟨_, g2, g3⟩ := (late_mem m (i : Int)).1 (h i ((bits_mem _ _ _).2 ⟨by omega, by omega, by simpa using h1⟩))
    rw [lookBits_bit m 0 i hi]
    simpa using g3
theorem wait_found {m : MoList} (h0 : wholeErr m = 0) {best : List Int} {found : Bool} (h : Found m.words.length (waitSo m) (2 ^ m.words.length) best found) : (found = true ∧ (waitOf m).2 = 0 ∧ best = (waitOf m).1) ∨ (found = false ∧ (waitOf m).2 = 9 ∧ (waitOf m).1 = []) := by
  have hiff : ∀ l, (∃ s, s < 2 ^ m.words.length ∧ waitSo m s = true ∧ l = bitsList s m.words.length) ↔ WaitP m l := fun l => by
    constructor
    · rintro ⟨s, h1, h2, rfl⟩
      unfold waitSo at h2
      rw [Bool.and_eq_true] at h2
      exact ⟨bits_incr _ _, (late_bits m s h1).1 h2.1, h2.2⟩
    · rintro ⟨h1, h2, h3⟩
      have hlt := setOf_lt l _ h1.2
      refine ⟨setOf l, hlt, ?_, (setOf_bits h1).symm⟩
      unfold waitSo
      rw [Bool.and_eq_true]
      exact ⟨(late_bits m _ hlt).2 (by rw [setOf_bits h1]; exact h2), by rw [setOf_bits h1]; exact h3⟩
  rcases wait_spec m h0 with ⟨w1, w2⟩ | ⟨w1, w2, w3⟩
  · left
    cases found with
    | true => exact ⟨rfl, w1, firstOf_one (firstOf_iff hiff (h.2 rfl)) w2⟩
    | false =>
      obtain ⟨s, s1, s2, _⟩ := (hiff _).2 w2.1
      rw [(h.1 rfl).2 s s1] at s2
      cases s2
  · right
    cases found with
    | true => exact absurd ((hiff _).1 (h.2 rfl).1) (w3 _)
    | false => exact ⟨rfl, w1, w2⟩
end Go.Proofs.Ytnlolliankhfmaa
namespace Go.Proofs.Ytnlolliankhfmaa
/-- The list of the examples. -/
def exM (paid : Bool) : MoList :=
  { claimants := [⟨#[97, 110, 97]⟩, ⟨#[98, 101, 110]⟩, ⟨#[99, 111, 114, 97]⟩],
    sums := [⟨⟨#[102, 105, 114, 115, 116]⟩, 20, 3⟩, ⟨⟨#[115, 101, 99, 111, 110, 100]⟩, 30, 6⟩, ⟨⟨#[116, 104, 105, 114, 100]⟩, 15, 7⟩],
    words := [⟨2, 0, 1, -1, true⟩, ⟨1, 2, 1, -1, true⟩, ⟨0, 2, 2, -1, false⟩, ⟨3, 0, 1, 0, false⟩],
    paid := if paid then [⟨0, 0⟩, ⟨0, 1⟩, ⟨2, 2⟩] else [] }
def exM2 : MoList := { exM false with words := (exM false).words ++ [⟨0, 0, 0, -1, true⟩] }
theorem ex_first : firstOf (exM false) = ([1, 1, 0], 2, 0) := by decide +kernel
theorem ex_for : forOf (exM false) 2 = ([0, 2], 0) := by decide +kernel
theorem ex_pay1 : payOf (exM false) 1 = (1, 0) := by decide +kernel
theorem ex_pay2 : payOf (exM false) 2 = (0, 9) := by decide +kernel
theorem ex_held : heldOf (exM false) = ([2], 0) := by decide +kernel
theorem ex_wait : waitOf (exM false) = ([2], 0) := by decide +kernel
theorem ex_owed0 : owedOf (exM false) 0 = ((0, 15), 0) := by decide +kernel
theorem ex_owed1 : owedOf (exM false) 1 = ((50, 50), 0) := by decide +kernel
theorem ex_need : needOf (exM false) = (50, 65, 0) := by decide +kernel
theorem ex_wrong : wrongOf (exM true) = ([0], 0) := by decide +kernel
theorem ex_held2 : heldOf exM2 = ([], 8) := by decide +kernel
/- of MoneyKnown -/
theorem ex_for0 : forOf (exM false) 0 = ([1], 0) := by decide +kernel
theorem ex_pay0 : payOf (exM false) 0 = (1, 0) := by decide +kernel
theorem ex_owed2 : owedOf (exM false) 2 = ((0, 15), 0) := by decide +kernel
theorem ex_needp : needOf (exM true) = (30, 30, 0) := by decide +kernel
theorem ex_wrongm : wrongOf (exM false) = ([], 0) := by decide +kernel
end Go.Proofs.Ytnlolliankhfmaa
