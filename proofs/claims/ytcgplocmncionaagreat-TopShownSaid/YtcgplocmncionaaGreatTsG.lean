/- What is proved here: plain facts for TopShown: what surely was told, and what a writer surely knows, letter by letter. No program. No condition. -/
/- What is proved here: plain Lean functions for layer 10 (chest), as its program reckons, and what they answer at the examples. No program. No condition. -/
/- What is proved here: plain facts for TopShown: what its chest answers, and what the room answers. No program. No condition. -/
/- What is proved here: how a chest of layer 10 lies in memory, and that it stays while memory grows, or turns in a block that holds no cells. No condition. -/
import Derived.Test.YtcgplocmncionaaGreatSpAll
import Derived.Test.YtcgplocmncionaaGreatSePlainB
import Derived.Test.YtcgplocmncionaaGreatSeMemG
set_option linter.unusedVariables false
set_option linter.unusedSimpArgs false
namespace Go.Proofs.YtcgplocmncionaaGreat
/-- The sure ones of the first so many leaks. -/
def sureT (r : SeRoom) : Nat → List Int
  | 0 => []
  | i + 1 => if sureAt r i = true then sureT r i ++ [(i : Int)] else sureT r i
def sureLk (r : SeRoom) : List Int := sureT r r.leaks.length
theorem sureT_mem (r : SeRoom) : ∀ k, sureT r k ∈ setsTo r k
  | 0 => by simp [sureT, setsTo]
  | i + 1 => by
    rw [setsTo, List.mem_flatMap]
    refine ⟨sureT r i, sureT_mem r i, ?_⟩
    rw [sureT]
    unfold setStep
    by_cases h : sureAt r i = true
    · rw [if_pos h]; simp [h]
    · rw [if_neg h, if_neg h]; simp
theorem sureLk_bd (r : SeRoom) : ∀ x ∈ sureLk r, 0 ≤ x ∧ x < (r.leaks.length : Int) := sets_below _ _ (sureT_mem r _)
theorem sureT_sub (r : SeRoom) : ∀ k, ∀ t ∈ setsTo r k, (sureT r k).Sublist t
  | 0, t, _ => by rw [sureT]; exact List.nil_sublist _
  | i + 1, t, ht => by
    rw [setsTo, List.mem_flatMap] at ht
    obtain ⟨l, hl, ht⟩ := ht
    have ih := sureT_sub r i l hl
    rw [sureT]
    unfold setStep at ht
    by_cases h : sureAt r i = true
    · rw [if_pos h] at ht ⊢
      have e : t = l ++ [(i : Int)] := by simpa using ht
      rw [e]
      exact List.Sublist.append ih (List.Sublist.refl _)
    · rw [if_neg h] at ht ⊢
      have e : t = l ∨ t = l ++ [(i : Int)] := by simpa using ht
      rcases e with e | e
      · rw [e]; exact ih
      · rw [e]; exact ih.trans (List.sublist_append_left _ _)
theorem relaxL_sub {L' L : List SeLeak} (h : L'.Sublist L) : ∀ {d e : Nat → Int}, LeD d e → LeD (relaxL L d) (relaxL L' e) := by
  induction h with
  | slnil => intro d e h; exact h
  | cons x _ ih => intro d e h; exact ih (LeD.trans (relax_le d x) h)
  | cons_cons x _ ih => intro d e h; exact ih (relax_mono x h)
theorem rounds_sub {L' L : List SeLeak} (h : L'.Sublist L) (d : Nat → Int) : ∀ k, LeD (rounds L d k) (rounds L' d k)
  | 0 => LeD.refl _
  | k + 1 => relaxL_sub h (rounds_sub h d k)
/-- More leaks tell no later. -/
theorem from_sure {r : SeRoom} {t : List Int} (ht : t ∈ seSets r) (X : List SeLetter) (s w : Nat) : fromD r X t s w ≤ fromD r X (sureLk r) s w :=
  rounds_sub (List.Sublist.filterMap _ (sureT_sub r _ t ht)) _ _ w
theorem rounds_all (L : List SeLeak) (s n w : Nat) : ∀ (X : List SeLetter), ∀ x ∈ X, rounds L (startDay X s) n w ≤ rounds L (startDay [x] s) n w := by
  refine snoc_ind ?_ ?_
  · intro x hx; cases hx
  · intro X y ih x hx
    rw [startDay_min, rounds_min]
    show min (rounds L (startDay X s) n w) (rounds L (startDay [y] s) n w) ≤ _
    rcases List.mem_append.1 hx with h | h
    · have := ih x h; omega
    · rw [List.mem_singleton.1 h]; omega
theorem start_alone {x : SeLetter} {s : Nat} (hb : bitB x.secrets s = true) : startDay [{ x with secrets := 1 }] 0 = startDay [x] s := funext fun w => by
  rw [startDay_one, startDay_one]
  have h1 : bitB 1 0 = true := by decide
  simp only [hb, h1]
/-- The writer would surely know what is in a letter alone. -/
def visB (r : SeRoom) (who : Nat) (x : SeLetter) : Bool := decide (x.writer ≠ -1) && decide (fromD r [{ x with secrets := 1 }] (sureLk r) 0 who ≤ 9)
theorem plain_good {r : SeRoom} (h : seErr r = 0) (hh : r.heard = []) : someB r = true := by
  rw [someB_iff, truths_nil _ hh]
  exact ⟨h, sets_pos _ _⟩
theorem shown_knows {r : SeRoom} (h : seErr r = 0) (hh : r.heard = []) {who s : Nat} (hu : who < r.writers.length) (hs : s < r.kept.length) :
    ∃ m, knowsOf r (who : Int) (s : Int) 9 = (m, 0) ∧ (m = 1 ↔ ∃ x ∈ r.letters, visB r who x = true ∧ bitB x.secrets s = true) := by
  have hr := plain_good h hh
  have e := knows_is hr hu hs (show 9 ≤ 9 from Nat.le_refl 9)
  refine ⟨_, e, ?_⟩
  rw [settled_one, truths_nil _ hh]
  constructor
  · intro h1
    have h2 := of_decide_eq_true (h1 (sureLk r) (sureT_mem r _))
    have h3 := day_nine.1 h2
    obtain ⟨x, hx, h4⟩ := rounds_one _ _ _ _ _ h3
    have hno : ¬ (x.writer = -1 ∨ bitB x.secrets s = false) := fun hn => by
      rw [startDay_no hn] at h4
      exact rounds_none _ _ _ h4
    have hb : bitB x.secrets s = true := by
      cases hb : bitB x.secrets s
      · exact absurd (.inr hb) hno
      · rfl
    refine ⟨x, hx, ?_, hb⟩
    unfold visB
    rw [Bool.and_eq_true, decide_eq_true_eq, decide_eq_true_eq]
    refine ⟨fun hn => hno (.inl hn), ?_⟩
    unfold fromD
    rw [start_alone hb]
    exact h4
  · rintro ⟨x, hx, hv, hb⟩ t ht
    unfold visB at hv
    rw [Bool.and_eq_true, decide_eq_true_eq, decide_eq_true_eq] at hv
    have h1 : fromD r [x] (sureLk r) s who ≤ 9 := by
      have := hv.2
      unfold fromD at this ⊢
      rwa [start_alone hb] at this
    have h2 := from_sure ht [x] s who
    have h3 := rounds_all (leaksOf r t) s r.writers.length who r.letters x hx
    refine decide_eq_true (day_nine.2 ?_)
    have h3 : fromD r r.letters t s who ≤ fromD r [x] t s who := h3
    omega
theorem shown_may {r : SeRoom} (h : seErr r = 0) (hh : r.heard = []) {n : Nat} (hn : n < r.letters.length) {s : Nat} (hs : s < r.kept.length) (hb : bitB r.letters[n].secrets s = true) {w : Int} (hw : w ∈ mayList r (seTruths r []) r.letters[n])
    {who : Nat} (hu : who < r.writers.length) (hk : bitB (keptAt r s) who = true) : ¬ fromD r [{ r.letters[n] with writer := w }] (sureLk r) s who ≤ 9 := by
  obtain ⟨_, _, hc⟩ := mayList_mem.1 hw
  unfold canB at hc
  rw [List.all_eq_true] at hc
  have := hc s (List.mem_range.2 hs)
  rw [hb, Bool.not_true, Bool.false_or, keeps_iff] at this
  exact this (sureLk r) (by rw [truths_nil _ hh]; exact sureT_mem r _) who hu hk
end Go.Proofs.YtcgplocmncionaaGreat
namespace Go.Proofs.YtcgplocmncionaaGreat
structure ChC where
  number : Int
  words : Int
  facts : Int
  may : Int
structure ChR where
  need : Int
  gives : Int
structure ChH where
  words : Int
  facts : Int
  people : List ByteArray
  last : Int
  copies : List ChC
  rules : List ChR
/-- A chest in which nothing is wrong. -/
structure ChValid (c : ChH) : Prop where
  words : 1 ≤ c.words ∧ c.words ≤ 5
  facts : 1 ≤ c.facts ∧ c.facts ≤ 6
  last : 0 ≤ c.last ∧ c.last ≤ 30
  np : c.people.length ≤ 3
  names : ∀ i (hi : i < c.people.length), fresh c.people[i] (c.people.take i) = 0
  nc : c.copies.length ≤ 6
  copy : ∀ i (hi : i < c.copies.length), 1 ≤ c.copies[i].number ∧ c.copies[i].number ≤ c.last ∧ 0 ≤ c.copies[i].words ∧ c.copies[i].words < 2 ^ c.words.toNat ∧ 0 ≤ c.copies[i].facts ∧ c.copies[i].facts < 2 ^ c.facts.toNat ∧ 0 ≤ c.copies[i].may ∧ c.copies[i].may < 2 ^ c.people.length
  order : ∀ i (hi : i + 1 < c.copies.length), c.copies[i].number < c.copies[i + 1].number
  nr : c.rules.length ≤ 4
  rule : ∀ i (hi : i < c.rules.length), 1 ≤ c.rules[i].need ∧ c.rules[i].need < 2 ^ c.facts.toNat ∧ 0 ≤ c.rules[i].gives ∧ c.rules[i].gives < c.facts
/-- The first so many that are so, as bits. -/
def maskTo (p : Nat → Bool) : Nat → Nat
  | 0 => 0
  | k + 1 => maskTo p k ||| (if p k = true then 2 ^ k else 0)
def copyAt (c : ChH) (i : Nat) : ChC := c.copies[i]?.getD ⟨0, 0, 0, 0⟩
/-- What somebody may see, and what of it has some words. -/
def viewN (c : ChH) (p : Nat) : Nat := maskTo (fun i => bitB (copyAt c i).may p) c.copies.length
def wordedB (c : ChH) (i words : Nat) : Bool := words &&& (copyAt c i).words.toNat == words
def findN (c : ChH) (p words : Nat) : Nat := maskTo (fun i => (viewN c p).testBit i && wordedB c i words) c.copies.length
/-- What can be told from some copies. -/
def baseTo (c : ChH) (copies : Nat) : Nat → Nat
  | 0 => 0
  | k + 1 => if copies.testBit k = true then baseTo c copies k ||| (copyAt c k).facts.toNat else baseTo c copies k
def ruleStep (set : Nat) (x : ChR) : Nat := if x.need.toNat &&& set = x.need.toNat ∧ set.testBit x.gives.toNat = false then set ||| 2 ^ x.gives.toNat else set
def rulePass (c : ChH) (set : Nat) : Nat := c.rules.foldl ruleStep set
def ruleIter (c : ChH) : Nat → Nat → Nat
  | 0, set => set
  | k + 1, set => ruleIter c k (rulePass c set)
def tellN (c : ChH) (copies : Nat) : Nat := ruleIter c 64 (baseTo c copies c.copies.length)
/-- All sets of some things, with the fewest first. -/
def setsN (things : List Nat) : Nat → Nat → Nat → List Nat
  | 0, _, set => [set]
  | left + 1, k, set => (List.range (things.length - left - k)).flatMap fun j => setsN things left (k + j + 1) (set ||| 2 ^ (things[k + j]?.getD 0))
def allSetsN (things : List Nat) : List Nat := (List.range (things.length + 1)).flatMap fun many => setsN things many 0 0
def firstN (things : List Nat) (p : Nat → Bool) : Option Nat := (allSetsN things).find? p
/-- The numbers of a set below 64. -/
def numbersN (set : Nat) : List Nat := (List.range 64).filter fun i => set.testBit i
def minusN (a b : Nat) : Nat := a ^^^ (a &&& b)
def keyN (c : ChH) (p at_ : Nat) : Option Nat := firstN (List.range c.words.toNat) fun set => findN c p set == 2 ^ at_
def whyN (c : ChH) (things : List Nat) (fact : Nat) : Option Nat := firstN things fun set => (tellN c set).testBit fact
def lockN (c : ChH) (p fact : Nat) : Option Nat := firstN (numbersN (viewN c p)) fun set => !(tellN c (minusN (viewN c p) set)).testBit fact
def leastN (c : ChH) (p : Nat) : Option Nat := firstN (numbersN (viewN c p)) fun set => tellN c set == tellN c (viewN c p)
def lostN (c : ChH) : List Nat := ((List.range c.last.toNat).filter fun (n : Nat) => !c.copies.any fun x => x.number == (n : Int) + 1).map (· + 1)
/-- The examples' chest. -/
def exChest : ChH := ⟨3, 4, ["ana".toUTF8, "ben".toUTF8], 6, [⟨1, 3, 1, 3⟩, ⟨3, 1, 2, 3⟩, ⟨4, 6, 4, 1⟩, ⟨6, 3, 6, 2⟩], [⟨3, 3⟩]⟩
theorem exChest_lost : lostN exChest = [2, 5] := by decide +kernel
theorem exChest_find0 : numbersN (findN exChest 0 1) = [0, 1] := by decide +kernel
theorem exChest_find1 : numbersN (findN exChest 1 1) = [0, 1, 3] := by decide +kernel
theorem exChest_key : keyN exChest 0 0 = some 3 := by decide +kernel
theorem exChest_key3 : keyN exChest 0 1 = none := by decide +kernel
theorem exChest_knows : numbersN (tellN exChest 3) = [0, 1, 3] := by decide +kernel
theorem exChest_why : whyN exChest [0, 1, 2] 3 = some 3 := by decide +kernel
theorem exChest_why2 : whyN exChest [2] 3 = none := by decide +kernel
theorem exChest_lock : lockN exChest 1 1 = some 10 := by decide +kernel
theorem exChest_least : leastN exChest 1 = some 9 := by decide +kernel
/-- Without rules the fewest copies to be locked are those with the fact. -/
theorem lock_first : ∀ a F : Fin 16, firstN (numbersN a.1) (fun set => minusN a.1 set &&& F.1 == 0) = some (a.1 &&& F.1) := by decide +kernel
theorem maskTo_bit (p : Nat → Bool) : ∀ k i, (maskTo p k).testBit i = (decide (i < k) && p i)
  | 0, i => by simp [maskTo]
  | k + 1, i => by
    rw [maskTo, Nat.testBit_or, maskTo_bit p k i]
    by_cases e : i = k
    · subst e
      cases p i <;> simp [Nat.testBit_two_pow_self]
    · have h1 : decide (i < k + 1) = decide (i < k) := decide_eq_decide.2 (by omega)
      have h2 : (if p k = true then 2 ^ k else 0).testBit i = false := by
        split
        · rw [Nat.testBit_two_pow]; exact decide_eq_false (fun h => e h.symm)
        · simp
      rw [h1, h2, Bool.or_false]
theorem maskTo_lt (p : Nat → Bool) (k : Nat) : maskTo p k < 2 ^ k := Nat.lt_pow_two_of_testBit _ fun i hi => by
  rw [maskTo_bit]
  have : decide (i < k) = false := decide_eq_false (by omega)
  rw [this]; rfl
/-- Without rules nothing else is told. -/
theorem tell_plain {c : ChH} (h : c.rules = []) (copies : Nat) : tellN c copies = baseTo c copies c.copies.length := by
  have hp : ∀ s, rulePass c s = s := fun s => by unfold rulePass; rw [h]; rfl
  have hi : ∀ k s, ruleIter c k s = s := fun k => by
    induction k with
    | zero => intro s; rfl
    | succ k ih => intro s; rw [ruleIter, hp, ih]
  exact hi 64 _
/-- The copies that tell a fact. -/
def factN (c : ChH) (s : Nat) : Nat := maskTo (fun i => (copyAt c i).facts.toNat.testBit s) c.copies.length
theorem base_bit (c : ChH) (copies s : Nat) : ∀ k, (baseTo c copies k).testBit s = (List.range k).any fun i => copies.testBit i && (copyAt c i).facts.toNat.testBit s
  | 0 => by simp [baseTo]
  | k + 1 => by
    rw [baseTo, List.range_succ, List.any_append, ← base_bit c copies s k]
    split
    · next h => rw [Nat.testBit_or]; simp [h]
    · next h => simp [h]
end Go.Proofs.YtcgplocmncionaaGreat
namespace Go.Proofs.YtcgplocmncionaaGreat
def chCopyOf (r : SeRoom) (who i : Nat) (x : SeLetter) : ChC := ⟨(i : Int) + 1, 0, x.secrets, if visB r who x = true then 1 else 0⟩
/-- The copies of the first so many letters. -/
def copiesTo (r : SeRoom) (who : Nat) : Nat → List ChC
  | 0 => []
  | k + 1 => copiesTo r who k ++ (match r.letters[k]? with | some x => [chCopyOf r who k x] | none => [])
def chestTo (r : SeRoom) (who k : Nat) : ChH := ⟨1, r.kept.length, ["she".toUTF8], r.letters.length, copiesTo r who k, []⟩
def chestOf (r : SeRoom) (who : Nat) : ChH := chestTo r who r.letters.length
theorem copiesTo_at (r : SeRoom) (who : Nat) : ∀ k, k ≤ r.letters.length → (copiesTo r who k).length = k ∧ ∀ i (hi : i < r.letters.length), i < k → (copiesTo r who k)[i]? = some (chCopyOf r who i r.letters[i])
  | 0, _ => ⟨rfl, fun i _ h => absurd h (Nat.not_lt_zero i)⟩
  | k + 1, hk => by
    obtain ⟨h1, h2⟩ := copiesTo_at r who k (by omega)
    have e : r.letters[k]? = some r.letters[k] := List.getElem?_eq_getElem (by omega)
    rw [copiesTo, e]
    refine ⟨by simp [h1], fun i hi h => ?_⟩
    by_cases hik : i < k
    · rw [List.getElem?_append_left (by omega)]; exact h2 i hi hik
    · obtain rfl : i = k := by omega
      rw [List.getElem?_append_right (by omega), h1]; simp
section
variable {r : SeRoom} {who : Nat}
theorem chest_len : (chestOf r who).copies.length = r.letters.length := (copiesTo_at r who _ (Nat.le_refl _)).1
theorem chest_at {i : Nat} (hi : i < r.letters.length) : copyAt (chestOf r who) i = chCopyOf r who i r.letters[i] := by
  unfold copyAt
  show ((copiesTo r who r.letters.length)[i]?).getD _ = _
  rw [(copiesTo_at r who _ (Nat.le_refl _)).2 i hi hi]; rfl
theorem chest_view (i : Nat) (hi : i < r.letters.length) : (viewN (chestOf r who) 0).testBit i = visB r who r.letters[i] := by
  unfold viewN
  rw [maskTo_bit, chest_len, chest_at hi]
  have : decide (i < r.letters.length) = true := decide_eq_true hi
  rw [this, Bool.true_and]
  show bitB (if visB r who r.letters[i] = true then (1 : Int) else 0) 0 = visB r who r.letters[i]
  cases visB r who r.letters[i] <;> decide
/-- A letter that is known, with the fact. -/
def shownB (r : SeRoom) (who s i : Nat) : Bool := match r.letters[i]? with | some x => visB r who x && bitB x.secrets s | none => false
theorem shownB_at {s i : Nat} (hi : i < r.letters.length) : shownB r who s i = (visB r who r.letters[i] && bitB r.letters[i].secrets s) := by
  unfold shownB; rw [List.getElem?_eq_getElem hi]
def manyTo (r : SeRoom) (who s : Nat) : Nat → Nat
  | 0 => 0
  | k + 1 => manyTo r who s k + (if shownB r who s k = true then 1 else 0)
theorem any_range {p q : Nat → Bool} {n : Nat} (h : ∀ i, i < n → p i = q i) : (List.range n).any p = (List.range n).any q := by
  rw [Bool.eq_iff_iff, List.any_eq_true, List.any_eq_true]
  constructor
  · rintro ⟨i, hi, hp⟩; exact ⟨i, hi, by rw [← h i (List.mem_range.1 hi)]; exact hp⟩
  · rintro ⟨i, hi, hp⟩; exact ⟨i, hi, by rw [h i (List.mem_range.1 hi)]; exact hp⟩
theorem chest_tell (m s : Nat) : (tellN (chestOf r who) m).testBit s = (List.range r.letters.length).any fun i => m.testBit i && (match r.letters[i]? with | some x => bitB x.secrets s | none => false) := by
  rw [tell_plain rfl, base_bit, chest_len]
  refine any_range fun i hi => ?_
  rw [chest_at hi, List.getElem?_eq_getElem hi]; rfl
theorem chest_told (s : Nat) : (tellN (chestOf r who) (viewN (chestOf r who) 0)).testBit s = (List.range r.letters.length).any (shownB r who s) := by
  rw [chest_tell]
  refine any_range fun i hi => ?_
  rw [chest_view i hi, shownB_at hi, List.getElem?_eq_getElem hi]
theorem many_pos (s : Nat) : ∀ k, 0 < manyTo r who s k ↔ (List.range k).any (shownB r who s) = true
  | 0 => by simp [manyTo]
  | k + 1 => by
    rw [manyTo, List.range_succ, List.any_append, Bool.or_eq_true, ← many_pos s k]
    cases h : shownB r who s k <;> simp [h]
theorem many_count (s : Nat) : ∀ k, manyTo r who s k = (List.range k).countP (shownB r who s)
  | 0 => rfl
  | k + 1 => by
    rw [manyTo, List.range_succ, List.countP_append, many_count s k]
    cases h : shownB r who s k <;> simp [h]
theorem count_more {p : Nat → Bool} {n : Nat} (h : ∀ i, n ≤ i → p i = false) : ∀ d, (List.range (n + d)).countP p = (List.range n).countP p
  | 0 => rfl
  | d + 1 => by
    rw [← Nat.add_assoc, List.range_succ, List.countP_append, count_more h d]
    simp [h (n + d) (by omega)]
theorem fact_bit {s i : Nat} (hi : i < r.letters.length) : (factN (chestOf r who) s).testBit i = bitB r.letters[i].secrets s := by
  unfold factN
  rw [maskTo_bit, chest_len, chest_at hi]
  have : decide (i < r.letters.length) = true := decide_eq_true hi
  rw [this, Bool.true_and]; rfl
theorem lock_is (hn : r.letters.length ≤ 4) (s : Nat) : lockN (chestOf r who) 0 s = some (viewN (chestOf r who) 0 &&& factN (chestOf r who) s) ∧ (numbersN (viewN (chestOf r who) 0 &&& factN (chestOf r who) s)).length = manyTo r who s r.letters.length := by
  have hv : viewN (chestOf r who) 0 < 16 := Nat.lt_of_lt_of_le (maskTo_lt _ _) (by rw [chest_len]; exact Nat.pow_le_pow_right (by decide) hn)
  have hf : factN (chestOf r who) s < 16 := Nat.lt_of_lt_of_le (maskTo_lt _ _) (by rw [chest_len]; exact Nat.pow_le_pow_right (by decide) hn)
  constructor
  · have := lock_first ⟨_, hv⟩ ⟨_, hf⟩
    unfold lockN
    rw [← this]
    congr 1
    funext set
    rw [chest_tell, Bool.eq_iff_iff, Bool.not_eq_true', beq_iff_eq]
    constructor
    · intro h
      refine Nat.eq_of_testBit_eq fun i => ?_
      rw [Nat.zero_testBit, Nat.testBit_and]
      by_cases hi : i < r.letters.length
      · rw [fact_bit hi]
        have := List.any_eq_false.1 h i (List.mem_range.2 hi)
        rw [List.getElem?_eq_getElem hi] at this
        simpa using this
      · have : (factN (chestOf r who) s).testBit i = false := by
          unfold factN
          rw [maskTo_bit, chest_len, decide_eq_false hi]; rfl
        rw [this, Bool.and_false]
    · intro h
      rw [List.any_eq_false]
      intro i hi
      have hi := List.mem_range.1 hi
      have h2 : (minusN (viewN (chestOf r who) 0) set &&& factN (chestOf r who) s).testBit i = false := by rw [h, Nat.zero_testBit]
      rw [Nat.testBit_and, fact_bit hi] at h2
      rw [List.getElem?_eq_getElem hi]
      simpa using h2
  · unfold numbersN
    rw [← List.countP_eq_length_filter, many_count]
    have hp : ∀ i, (viewN (chestOf r who) 0 &&& factN (chestOf r who) s).testBit i = shownB r who s i := fun i => by
      rw [Nat.testBit_and]
      by_cases hi : i < r.letters.length
      · rw [chest_view i hi, fact_bit hi, shownB_at hi]
      · have : (factN (chestOf r who) s).testBit i = false := by
          unfold factN
          rw [maskTo_bit, chest_len, decide_eq_false hi]; rfl
        rw [this, Bool.and_false]
        unfold shownB
        rw [List.getElem?_eq_none (by omega)]
    have e : (fun i => (viewN (chestOf r who) 0 &&& factN (chestOf r who) s).testBit i) = shownB r who s := funext hp
    rw [e]
    have := count_more (p := shownB r who s) (n := r.letters.length) (fun i hi => by unfold shownB; rw [List.getElem?_eq_none hi]) (64 - r.letters.length)
    rwa [show r.letters.length + (64 - r.letters.length) = 64 from by omega] at this
/-- The room and the chest say the same. -/
theorem shown_is (h : seErr r = 0) (hh : r.heard = []) {s : Nat} (hu : who < r.writers.length) (hs : s < r.kept.length) :
    ∃ m, knowsOf r (who : Int) (s : Int) 9 = (m, 0) ∧ (m = 1 ↔ (tellN (chestOf r who) (viewN (chestOf r who) 0)).testBit s = true) ∧ (m = 1 ↔ 0 < manyTo r who s r.letters.length) := by
  obtain ⟨m, e, hm⟩ := shown_knows h hh hu hs
  have h2 : m = 1 ↔ (List.range r.letters.length).any (shownB r who s) = true := by
    rw [hm, List.any_eq_true]
    constructor
    · rintro ⟨x, hx, hv, hb⟩
      obtain ⟨i, hi, rfl⟩ := List.getElem_of_mem hx
      exact ⟨i, List.mem_range.2 hi, by rw [shownB_at hi, hv, hb]; rfl⟩
    · rintro ⟨i, hi, hp⟩
      have hi := List.mem_range.1 hi
      rw [shownB_at hi, Bool.and_eq_true] at hp
      exact ⟨_, List.getElem_mem hi, hp.1, hp.2⟩
  exact ⟨m, e, by rw [h2, chest_told], by rw [h2, many_pos]⟩
theorem chest_get {i : Nat} (hi : i < (chestOf r who).copies.length) : (chestOf r who).copies[i] = chCopyOf r who i (r.letters[i]'(by rw [← chest_len (r := r) (who := who)]; exact hi)) := by
  have hi2 : i < r.letters.length := by rw [← chest_len (r := r) (who := who)]; exact hi
  have h := (copiesTo_at r who _ (Nat.le_refl _)).2 i hi2 hi2
  have h2 : (chestOf r who).copies[i]? = some (chestOf r who).copies[i] := List.getElem?_eq_getElem hi
  exact Option.some.inj (h2.symm.trans h)
theorem chest_valid (hv : SeValid r) (hk : 0 < r.kept.length) : ChValid (chestOf r who) := by
  have h3 := hv.nk
  have h4 := hv.nt
  refine ⟨(show (1 : Int) ≤ 1 ∧ (1 : Int) ≤ 5 by decide), ⟨show (1 : Int) ≤ (r.kept.length : Int) by omega, show (r.kept.length : Int) ≤ 6 by omega⟩, ⟨show (0 : Int) ≤ (r.letters.length : Int) by omega, show (r.letters.length : Int) ≤ 30 by omega⟩, by show 1 ≤ 3; omega, fun i hi => ?_, by rw [chest_len]; omega, fun i hi => ?_, fun i hi => ?_, by show 0 ≤ 4; omega, fun i hi => absurd hi (Nat.not_lt_zero i)⟩
  · have hi : i < 1 := hi
    obtain rfl : i = 0 := by omega
    show fresh "she".toUTF8 [] = 0
    decide +kernel
  · have hi2 : i < r.letters.length := by rw [← chest_len (r := r) (who := who)]; exact hi
    rw [chest_get hi]
    have hl := hv.letters i hi2
    have hm : (0 : Int) ≤ (if visB r who r.letters[i] = true then (1 : Int) else 0) ∧ (if visB r who r.letters[i] = true then (1 : Int) else 0) < 2 ^ 1 := by split <;> decide
    exact ⟨show (1 : Int) ≤ (i : Int) + 1 by omega, show (i : Int) + 1 ≤ (r.letters.length : Int) by omega, show (0 : Int) ≤ 0 by omega, show (0 : Int) < 2 ^ 1 by decide, hl.2.2.1, hl.2.2.2.1, hm.1, hm.2⟩
  · have hi2 : i + 1 < r.letters.length := by rw [← chest_len (r := r) (who := who)]; exact hi
    rw [chest_get (i := i) (by omega), chest_get hi]
    show (i : Int) + 1 < ((i + 1 : Nat) : Int) + 1
    omega
end
end Go.Proofs.YtcgplocmncionaaGreat
namespace Go.Proofs.YtcgplocmncionaaGreat
open Go Go.RowKit
def ChCopiesC (w : World) (a : Option Addr) (l : List ChC) : Prop :=
  ∀ i (_ : i < l.length), ∃ b off, a = some ⟨b, off, none⟩ ∧ b < w.heap.size ∧ w.cell? ⟨b, off + i * 4, none⟩ = some (.int .i64 l[i].number) ∧ w.cell? ⟨b, off + i * 4 + 1, none⟩ = some (.int .i64 l[i].words) ∧ w.cell? ⟨b, off + i * 4 + 2, none⟩ = some (.int .i64 l[i].facts) ∧ w.cell? ⟨b, off + i * 4 + 3, none⟩ = some (.int .i64 l[i].may)
theorem ChCopiesC.keep {w W : World} {a : Option Addr} {l : List ChC} (h : ChCopiesC w a l) (hb : Keeps w W) : ChCopiesC W a l := fun i hi => by
  obtain ⟨b, off, e, hlt, h0, h1, h2, h3⟩ := h i hi
  exact ⟨b, off, e, Nat.lt_of_lt_of_le hlt hb.1, hb.2 _ _ h0, hb.2 _ _ h1, hb.2 _ _ h2, hb.2 _ _ h3⟩
theorem ChCopiesC.mono {w W : World} {a : Option Addr} {l : List ChC} (h : ChCopiesC w a l) (hb : Below w.heap.size w W) : ChCopiesC W a l := h.keep (.of_below hb)
theorem ChCopiesC.nil (w : World) (a : Option Addr) : ChCopiesC w a [] := fun i hi => absurd hi (Nat.not_lt_zero i)
def ChRulesC (w : World) (a : Option Addr) (l : List ChR) : Prop :=
  ∀ i (_ : i < l.length), ∃ b off, a = some ⟨b, off, none⟩ ∧ b < w.heap.size ∧ w.cell? ⟨b, off + i * 2, none⟩ = some (.int .i64 l[i].need) ∧ w.cell? ⟨b, off + i * 2 + 1, none⟩ = some (.int .i64 l[i].gives)
theorem ChRulesC.keep {w W : World} {a : Option Addr} {l : List ChR} (h : ChRulesC w a l) (hb : Keeps w W) : ChRulesC W a l := fun i hi => by
  obtain ⟨b, off, e, hlt, h0, h1⟩ := h i hi
  exact ⟨b, off, e, Nat.lt_of_lt_of_le hlt hb.1, hb.2 _ _ h0, hb.2 _ _ h1⟩
theorem ChRulesC.mono {w W : World} {a : Option Addr} {l : List ChR} (h : ChRulesC w a l) (hb : Below w.heap.size w W) : ChRulesC W a l := h.keep (.of_below hb)
theorem ChRulesC.nil (w : World) (a : Option Addr) : ChRulesC w a [] := fun i hi => absurd hi (Nat.not_lt_zero i)
@[reducible] def chCopyV (x : ChC) : Value := .agg #[.int .i64 x.number, .int .i64 x.words, .int .i64 x.facts, .int .i64 x.may]
@[reducible] def chRuleV (x : ChR) : Value := .agg #[.int .i64 x.need, .int .i64 x.gives]
/-- A chest in memory: three slices. -/
structure ChestC (w : World) (ap ac ar : Option Addr) (kp kc kr : Nat) (c : ChH) : Prop where
  okp : SlOk ap c.people.length kp
  okc : SlOk ac c.copies.length kc
  okr : SlOk ar c.rules.length kr
  people : StrsC w ap c.people
  copies : ChCopiesC w ac c.copies
  rules : ChRulesC w ar c.rules
  psize : ∀ x ∈ c.people, x.size ≤ 9223372036854775807
variable {w W : World} {ap ac ar : Option Addr} {kp kc kr : Nat} {c : ChH}
theorem ChestC.keep (k : ChestC w ap ac ar kp kc kr c) (hb : Keeps w W) : ChestC W ap ac ar kp kc kr c := ⟨k.okp, k.okc, k.okr, k.people.keep hb, k.copies.keep hb, k.rules.keep hb, k.psize⟩
theorem ChestC.mono (k : ChestC w ap ac ar kp kc kr c) (hb : Below w.heap.size w W) : ChestC W ap ac ar kp kc kr c := k.keep (.of_below hb)
@[reducible] def chestV (ap ac ar : Option Addr) (kp kc kr : Nat) (c : ChH) : Value := .agg #[.int .i64 c.words, .int .i64 c.facts, .slice ap c.people.length kp, .int .i64 c.last, .slice ac c.copies.length kc, .slice ar c.rules.length kr]
end Go.Proofs.YtcgplocmncionaaGreat
