/- What is proved here: plain Lean functions for layer 1 (ear), as its program reckons, and plain facts on them. No program. No condition. -/
/- What is proved here: how a book of layer 1 lies in memory, and that it stays while memory grows, or turns in a block that holds no cells. No condition. -/
import Derived.Test.YtklconegomgjaaaGreatFirstG
import Derived.Test.YtklconegomgjaaaGreatChkG
set_option linter.unusedVariables false
set_option linter.unusedSimpArgs false
namespace Go.Proofs.YtklconegomgjaaaGreat
structure EaL where
  letter : Int
  sounds : Int
  silent : Bool
structure EaA where
  name : ByteArray
  letters : List EaL
structure EaS where
  alpha : Int
  text : ByteArray
structure EaB where
  sounds : Int
  alphas : List EaA
  spells : List EaS
def noL : EaL := ⟨0, 0, false⟩
/-- The letters of a spelling's alphabet. -/
def alphaOf (b : EaB) (s : EaS) : List EaL := (b.alphas[s.alpha.toNat]?.map EaA.letters).getD []
def spellAt (b : EaB) (i : Nat) : EaS := b.spells[i]?.getD ⟨0, ⟨#[]⟩⟩
/-- The index of a letter; below 0: it is none. -/
def idxFrom (c : Int) : Nat → List EaL → Int
  | _, [] => -1
  | k, x :: l => if x.letter = c then (k : Int) else idxFrom c (k + 1) l
def idxL (l : List EaL) (c : Int) : Int := idxFrom c 0 l
def letL (l : List EaL) (c : Int) : EaL := l[(idxL l c).toNat]?.getD noL
def byteI (c : UInt8) : Int := (c.toNat : Int)
def ltsOf (b : EaB) (s : EaS) : List EaL := s.text.data.toList.map fun c => letL (alphaOf b s) (byteI c)
/-- A book in which nothing is wrong. -/
structure EaValid (b : EaB) : Prop where
  sounds : 1 ≤ b.sounds ∧ b.sounds ≤ 4
  na : 1 ≤ b.alphas.length ∧ b.alphas.length ≤ 3
  name : ∀ i (hi : i < b.alphas.length), nameB b.alphas[i].name = true ∧ ∀ j (hj : j < i), b.alphas[j].name ≠ b.alphas[i].name
  nl : ∀ i (hi : i < b.alphas.length), 1 ≤ b.alphas[i].letters.length ∧ b.alphas[i].letters.length ≤ 6
  letter : ∀ i (hi : i < b.alphas.length) k (hk : k < b.alphas[i].letters.length), 97 ≤ b.alphas[i].letters[k].letter ∧ b.alphas[i].letters[k].letter ≤ 122 ∧ (∀ j (hj : j < k), b.alphas[i].letters[j].letter ≠ b.alphas[i].letters[k].letter) ∧ 0 ≤ b.alphas[i].letters[k].sounds ∧ b.alphas[i].letters[k].sounds < 2 ^ b.sounds.toNat ∧ (b.alphas[i].letters[k].sounds = 0 → b.alphas[i].letters[k].silent = true)
  ns : b.spells.length ≤ 5
  spell : ∀ i (hi : i < b.spells.length), 0 ≤ b.spells[i].alpha ∧ b.spells[i].alpha < b.alphas.length ∧ 1 ≤ b.spells[i].text.size ∧ b.spells[i].text.size ≤ 5 ∧ ∀ j (hj : j < b.spells[i].text.size), 0 ≤ idxL (alphaOf b b.spells[i]) (byteI b.spells[i].text[j])
/-- All lists of sounds: so long, and all. -/
def listsM (S : Nat) : Nat → List (List Int)
  | 0 => [[]]
  | m + 1 => (List.range S).flatMap fun (n : Nat) => (listsM S m).map fun l => (n : Int) :: l
def heardTo (S : Nat) : Nat → List (List Int)
  | 0 => []
  | m + 1 => heardTo S m ++ listsM S m
def heardAll (S : Nat) : List (List Int) := heardTo S 6
/-- All sound strings that letters can be, some more than once. -/
def strsF (S : Nat) : List EaL → List Int → List (List Int)
  | [], h => [h]
  | x :: xs, h => (if x.silent = true then strsF S xs h else []) ++ (List.range S).flatMap fun n => if bitB x.sounds n = true then strsF S xs (h ++ [(n : Int)]) else []
def strsN (b : EaB) (i : Nat) : List (List Int) := strsF b.sounds.toNat (ltsOf b (spellAt b i)) []
/-- Whether all of a set of spellings can be a sound string; all that they can be. -/
def allB (b : EaB) (set : Nat) (h : List Int) : Bool := (List.range b.spells.length).all fun i => !set.testBit i || (strsN b i).contains h
def comN (b : EaB) (set : Nat) : List (List Int) := (heardAll b.sounds.toNat).filter fun h => allB b set h
/-- The bits below a number that are so. -/
def eaBits (p : Nat → Bool) : Nat → Nat
  | 0 => 0
  | k + 1 => eaBits p k ||| (if p k = true then 2 ^ k else 0)
/-- Which spellings can be a sound string. -/
def ofN (b : EaB) (h : List Int) : Nat := eaBits (fun i => (strsN b i).contains h) b.spells.length
def alikeN (b : EaB) (i j : Nat) : Int :=
  if (comN b (2 ^ i)).length = 1 ∧ (comN b (2 ^ j)).length = 1 ∧ (comN b (2 ^ i)).headD [] = (comN b (2 ^ j)).headD [] then 1
  else if (comN b (2 ^ i ||| 2 ^ j)).length = 0 then 2 else 0
/-- The first text of so many letters that can be heard so, behind so many sounds. -/
def ordL (ls : List EaL) : List Int → List Int → Int
  | [], [] => 0
  | [], _ :: _ => -1
  | _ :: _, [] => 1
  | a :: s, c :: t => if idxL ls a - idxL ls c = 0 then ordL ls s t else idxL ls a - idxL ls c
def bestT (ls : List EaL) : Option (List Int) → Option (List Int) → Option (List Int)
  | none, t => t
  | some s, none => some s
  | some s, some t => if ordL ls t s < 0 then some t else some s
def writeF (ls : List EaL) (h : List Int) : Nat → Nat → Option (List Int)
  | 0, done => if done = h.length then some [] else none
  | m + 1, done => ls.findSome? fun x => (bestT ls (if x.silent = true then writeF ls h m done else none) (match h[done]? with | some n => if bitB x.sounds n.toNat = true then writeF ls h m (done + 1) else none | none => none)).map fun s => x.letter :: s
def spellN (ls : List EaL) (h : List Int) : Option (List Int) := (List.range 5).findSome? fun m => writeF ls h (m + 1) 0
/-- Odd's choices: all, or those that are not some sound string's. -/
def oddC (b : EaB) (c : Nat) : Bool := c == 2 ^ b.spells.length - 1 || (heardAll b.sounds.toNat).any fun h => ofN b h != 0 && (2 ^ b.spells.length - 1) &&& ((2 ^ b.spells.length - 1) ^^^ ofN b h) == c

theorem eaBits_bit (p : Nat → Bool) : ∀ k i, (eaBits p k).testBit i = (decide (i < k) && p i)
  | 0, i => by simp [eaBits]
  | k + 1, i => by
    rw [eaBits, Nat.testBit_or, eaBits_bit p k i]
    by_cases e : i = k
    · subst e
      cases p i <;> simp [Nat.testBit_two_pow_self]
    · have h1 : decide (i < k + 1) = decide (i < k) := decide_eq_decide.2 (by omega)
      have h2 : (if p k = true then 2 ^ k else 0).testBit i = false := by
        split
        · rw [Nat.testBit_two_pow]; exact decide_eq_false (fun h => e h.symm)
        · simp
      rw [h1, h2, Bool.or_false]
theorem eaBits_lt (p : Nat → Bool) (k : Nat) : eaBits p k < 2 ^ k := Nat.lt_pow_two_of_testBit _ fun i hi => by
  rw [eaBits_bit]
  have : decide (i < k) = false := decide_eq_false (by omega)
  rw [this]; rfl
theorem mem_listsM (S : Nat) : ∀ (m : Nat) (l : List Int), l ∈ listsM S m ↔ l.length = m ∧ ∀ x ∈ l, 0 ≤ x ∧ x < S
  | 0, l => by
    rw [listsM, List.mem_singleton]
    constructor
    · rintro rfl; simp
    · rintro ⟨h, _⟩; exact List.length_eq_zero_iff.1 h
  | m + 1, l => by
    rw [listsM, List.mem_flatMap]
    constructor
    · rintro ⟨n, hn, h⟩
      obtain ⟨k, hk, rfl⟩ := List.mem_map.1 h
      obtain ⟨h1, h2⟩ := (mem_listsM S m k).1 hk
      have := List.mem_range.1 hn
      refine ⟨by simp [h1], fun x hx => ?_⟩
      rcases List.mem_cons.1 hx with rfl | hx
      · omega
      · exact h2 x hx
    · rintro ⟨h1, h2⟩
      match l, h1 with
      | x :: k, h1 =>
        have hx := h2 x (by simp)
        refine ⟨x.toNat, List.mem_range.2 (by omega), List.mem_map.2 ⟨k, (mem_listsM S m k).2 ⟨by simpa using h1, fun y hy => h2 y (by simp [hy])⟩, ?_⟩⟩
        rw [show ((x.toNat : Nat) : Int) = x by omega]
theorem listsM_sorted (S : Nat) : ∀ m : Nat, (listsM S m).Pairwise (fun a b => less a b = true)
  | 0 => by simp [listsM]
  | m + 1 => by
    rw [listsM, List.flatMap_def, List.pairwise_flatten]
    constructor
    · intro L hL
      obtain ⟨n, _, rfl⟩ := List.mem_map.1 hL
      rw [List.pairwise_map]
      exact (listsM_sorted S m).imp fun h => by simpa [less] using h
    · rw [List.pairwise_map]
      refine List.Pairwise.imp ?_ (List.pairwise_lt_range (n := S))
      intro a c hac x hx y hy
      obtain ⟨x', _, rfl⟩ := List.mem_map.1 hx
      obtain ⟨y', _, rfl⟩ := List.mem_map.1 hy
      have : ((a : Int)) ≠ (c : Int) := by omega
      simp [less, this]
      omega
theorem mem_heardTo (S : Nat) : ∀ (m : Nat) (l : List Int), l ∈ heardTo S m ↔ l.length < m ∧ ∀ x ∈ l, 0 ≤ x ∧ x < S
  | 0, l => by simp [heardTo]
  | m + 1, l => by
    rw [heardTo, List.mem_append, mem_heardTo S m l, mem_listsM S m l]
    constructor
    · rintro (⟨h1, h2⟩ | ⟨h1, h2⟩)
      · exact ⟨by omega, h2⟩
      · exact ⟨by omega, h2⟩
    · rintro ⟨h1, h2⟩
      by_cases e : l.length = m
      · exact .inr ⟨e, h2⟩
      · exact .inl ⟨by omega, h2⟩
theorem heardTo_sorted (S : Nat) : ∀ m : Nat, (heardTo S m).Pairwise (fun a b => fewer a b = true)
  | 0 => by simp [heardTo]
  | m + 1 => by
    rw [heardTo, List.pairwise_append]
    refine ⟨heardTo_sorted S m, ?_, fun a ha c hc => ?_⟩
    · refine List.Pairwise.imp_of_mem ?_ (listsM_sorted S m)
      intro a c ha hc h
      have h1 := ((mem_listsM S m a).1 ha).1
      have h2 := ((mem_listsM S m c).1 hc).1
      unfold fewer
      rw [if_pos (by omega)]
      exact h
    · have h1 := ((mem_heardTo S m a).1 ha).1
      have h2 := ((mem_listsM S m c).1 hc).1
      unfold fewer
      rw [if_neg (by omega)]
      exact decide_eq_true (by omega)
theorem mem_heardAll {S : Nat} {l : List Int} : l ∈ heardAll S ↔ l.length ≤ 5 ∧ ∀ x ∈ l, 0 ≤ x ∧ x < S := by
  unfold heardAll
  rw [mem_heardTo]
  constructor
  · rintro ⟨h1, h2⟩; exact ⟨by omega, h2⟩
  · rintro ⟨h1, h2⟩; exact ⟨by omega, h2⟩
theorem comN_sorted (b : EaB) (set : Nat) : (comN b set).Pairwise (fun a b => fewer a b = true) := (heardTo_sorted _ 6).filter _
theorem mem_comN {b : EaB} {set : Nat} {h : List Int} : h ∈ comN b set ↔ (h.length ≤ 5 ∧ ∀ x ∈ h, 0 ≤ x ∧ x < b.sounds.toNat) ∧ ∀ i, i < b.spells.length → set.testBit i = true → h ∈ strsN b i := by
  unfold comN allB
  rw [List.mem_filter, mem_heardAll, List.all_eq_true]
  constructor
  · rintro ⟨h1, h2⟩
    refine ⟨h1, fun i hi hb => ?_⟩
    have := h2 i (List.mem_range.2 hi)
    rw [hb] at this
    simpa using this
  · rintro ⟨h1, h2⟩
    refine ⟨h1, fun i hi => ?_⟩
    cases hb : set.testBit i
    · rfl
    · simpa using h2 i (List.mem_range.1 hi) hb
theorem strsF_mem (S : Nat) : ∀ (ls : List EaL) (h l : List Int), l ∈ strsF S ls h → (∀ x ∈ h, 0 ≤ x ∧ x < (S : Int)) → l.length ≤ h.length + ls.length ∧ ∀ x ∈ l, 0 ≤ x ∧ x < (S : Int)
  | [], h, l, hl, ho => by
    rw [strsF, List.mem_singleton] at hl
    subst hl
    exact ⟨by simp, ho⟩
  | x :: xs, h, l, hl, ho => by
    rw [strsF, List.mem_append, List.mem_flatMap] at hl
    rcases hl with hl | ⟨n, hn, hl⟩
    · split at hl
      · have := strsF_mem S xs h l hl ho
        exact ⟨by simp; omega, this.2⟩
      · cases hl
    · split at hl
      · have hn' := List.mem_range.1 hn
        have := strsF_mem S xs (h ++ [(n : Int)]) l hl (fun y hy => by
          rcases List.mem_append.1 hy with hy | hy
          · exact ho y hy
          · have : y = (n : Int) := by simpa using hy
            subst this
            omega)
        refine ⟨?_, this.2⟩
        have h1 := this.1
        simp at h1 ⊢
        omega
      · cases hl
theorem lts_len (b : EaB) (s : EaS) : (ltsOf b s).length = s.text.size := by
  unfold ltsOf
  rw [List.length_map]
  simp
theorem spellAt_is {b : EaB} {i : Nat} (hi : i < b.spells.length) : spellAt b i = b.spells[i] := by unfold spellAt; rw [List.getElem?_eq_getElem hi]; rfl
theorem strsN_mem {b : EaB} (hv : EaValid b) {i : Nat} (hi : i < b.spells.length) {h : List Int} (hh : h ∈ strsN b i) : h.length ≤ 5 ∧ ∀ x ∈ h, 0 ≤ x ∧ x < (b.sounds.toNat : Int) := by
  have := strsF_mem _ _ _ _ hh (by simp)
  have h5 := (hv.spell i hi).2.2.2.1
  rw [lts_len, spellAt_is hi] at this
  exact ⟨by have := this.1; simp at this; omega, this.2⟩
theorem idxFrom_ge (c : Int) : ∀ (k : Nat) (l : List EaL), idxFrom c k l = -1 ∨ ∃ j, ∃ h : j < l.length, idxFrom c k l = (k + j : Nat) ∧ l[j].letter = c ∧ ∀ i (hi : i < j), l[i].letter ≠ c
  | k, [] => .inl rfl
  | k, x :: l => by
    rw [idxFrom]
    by_cases e : x.letter = c
    · rw [if_pos e]
      exact .inr ⟨0, by simp, by simp, by simpa using e, fun i hi => absurd hi (Nat.not_lt_zero i)⟩
    · rw [if_neg e]
      rcases idxFrom_ge c (k + 1) l with h | ⟨j, hj, h1, h2, h3⟩
      · exact .inl h
      · refine .inr ⟨j + 1, by simp; omega, by rw [h1]; congr 1; omega, by simpa using h2, fun i hi => ?_⟩
        match i with
        | 0 => simpa using e
        | i + 1 => simpa using h3 i (by omega)
theorem idxL_ge (l : List EaL) (c : Int) : idxL l c = -1 ∨ ∃ j, ∃ h : j < l.length, idxL l c = (j : Int) ∧ l[j].letter = c ∧ ∀ i (hi : i < j), l[i].letter ≠ c := by
  rcases idxFrom_ge c 0 l with h | ⟨j, hj, h1, h2⟩
  · exact .inl h
  · exact .inr ⟨j, hj, by simpa [idxL] using h1, h2⟩
theorem idxFrom_at (c : Int) : ∀ (l : List EaL) (k j : Nat) (h : j < l.length), l[j].letter = c → (∀ i (hi : i < j), l[i].letter ≠ c) → idxFrom c k l = ((k + j : Nat) : Int)
  | x :: l, k, 0, _, h1, _ => by
    rw [idxFrom, if_pos (by simpa using h1)]
    rfl
  | x :: l, k, j + 1, h, h1, h2 => by
    rw [idxFrom, if_neg (by simpa using h2 0 (by omega)), idxFrom_at c l (k + 1) j (by simpa using h) (by simpa using h1) (fun i hi => by simpa using h2 (i + 1) (by omega))]
    congr 1
    omega
theorem idxFrom_no (c : Int) : ∀ (l : List EaL) (k : Nat), (∀ i (hi : i < l.length), l[i].letter ≠ c) → idxFrom c k l = -1
  | [], _, _ => rfl
  | x :: l, k, h => by
    rw [idxFrom, if_neg (show ¬ x.letter = c from h 0 (Nat.succ_pos _)), idxFrom_no c l (k + 1) (fun i hi => h (i + 1) (Nat.succ_lt_succ hi))]
theorem idxL_at {l : List EaL} {c : Int} {j : Nat} (h : j < l.length) (h1 : l[j].letter = c) (h2 : ∀ i (hi : i < j), l[i].letter ≠ c) : idxL l c = (j : Int) := by
  have := idxFrom_at c l 0 j h h1 h2
  simpa [idxL] using this
theorem idxL_no {l : List EaL} {c : Int} (h : ∀ i (hi : i < l.length), l[i].letter ≠ c) : idxL l c = -1 := idxFrom_no c l 0 h
/-- The letters of a valid spelling are letters of its alphabet. -/
theorem lts_ok {b : EaB} (hv : EaValid b) {i : Nat} (hi : i < b.spells.length) : ∀ x ∈ ltsOf b b.spells[i], 0 ≤ x.sounds ∧ x.sounds < 2 ^ b.sounds.toNat ∧ (x.sounds = 0 → x.silent = true) := by
  intro x hx
  obtain ⟨c, hc, rfl⟩ := List.mem_map.1 hx
  obtain ⟨h1, h2, h3, h4, h5⟩ := hv.spell i hi
  obtain ⟨j, hj, rfl⟩ := List.getElem_of_mem hc
  have hj' : j < b.spells[i].text.size := by simpa using hj
  have h6 := h5 j hj'
  have hal : alphaOf b b.spells[i] = (b.alphas[b.spells[i].alpha.toNat]'(by omega)).letters := by unfold alphaOf; rw [List.getElem?_eq_getElem (by omega)]; rfl
  rcases idxL_ge (alphaOf b b.spells[i]) (byteI b.spells[i].text[j]) with h | ⟨k, hk, h7, _⟩
  · omega
  · have h8 : letL (alphaOf b b.spells[i]) (byteI (b.spells[i].text.data.toList[j]'hj)) = (alphaOf b b.spells[i])[k] := by
      unfold letL
      rw [show b.spells[i].text.data.toList[j]'hj = b.spells[i].text[j] from by simp [ByteArray.getElem_eq_getElem_data], h7, Int.toNat_natCast, List.getElem?_eq_getElem hk]
      rfl
    rw [h8]
    have h9 := hv.letter b.spells[i].alpha.toNat (by omega) k (by rw [hal] at hk; exact hk)
    have h10 : (alphaOf b b.spells[i])[k] = (b.alphas[b.spells[i].alpha.toNat]'(by omega)).letters[k]'(by rw [hal] at hk; exact hk) := by simp only [hal]
    rw [h10]
    exact ⟨h9.2.2.2.1, h9.2.2.2.2.1, h9.2.2.2.2.2⟩
theorem some_bit : ∀ S : Nat, S ≤ 4 → ∀ s : Nat, s < 2 ^ S → s ≠ 0 → ∃ n, n < S ∧ s.testBit n = true := by decide
theorem strsF_some (S : Nat) (hS : S ≤ 4) : ∀ (ls : List EaL) (h : List Int), (∀ x ∈ ls, 0 ≤ x.sounds ∧ x.sounds < 2 ^ S ∧ (x.sounds = 0 → x.silent = true)) → ∃ l, l ∈ strsF S ls h
  | [], h, _ => ⟨h, by simp [strsF]⟩
  | x :: xs, h, hx => by
    have hr := fun k => strsF_some S hS xs k (fun y hy => hx y (by simp [hy]))
    obtain ⟨h1, h2, h3⟩ := hx x (by simp)
    rw [strsF]
    by_cases e : x.silent = true
    · obtain ⟨l, hl⟩ := hr h
      exact ⟨l, List.mem_append_left _ (by rw [if_pos e]; exact hl)⟩
    · have hne : x.sounds ≠ 0 := fun h => e (h3 h)
      have h2' : x.sounds.toNat < 2 ^ S := by
        have : ((2 : Int) ^ S) = ((2 ^ S : Nat) : Int) := by simp
        omega
      obtain ⟨n, hn, hb⟩ := some_bit S hS x.sounds.toNat h2' (by omega)
      obtain ⟨l, hl⟩ := hr (h ++ [(n : Int)])
      refine ⟨l, List.mem_append_right _ (List.mem_flatMap.2 ⟨n, List.mem_range.2 hn, ?_⟩)⟩
      rw [if_pos (show bitB x.sounds n = true from hb)]
      exact hl
/-- Each spelling can be some sound string. -/
theorem strsN_some {b : EaB} (hv : EaValid b) {i : Nat} (hi : i < b.spells.length) : ∃ l, l ∈ strsN b i := by
  unfold strsN
  rw [spellAt_is hi]
  exact strsF_some _ (by have := hv.sounds; omega) _ _ (lts_ok hv hi)
/-- The least one of some lists that are, in whatever order, these. -/
theorem least_headE {L M : List (List Int)} (hs : L.Pairwise (fun a b => fewer a b = true)) (hp : ∀ x, x ∈ M ↔ x ∈ L) {x : List Int} (hx : x ∈ M) (hl : ∀ y ∈ M, fewer y x = false) : L.headD [] = x := by
  match L, hs with
  | [], _ => exact absurd ((hp x).1 hx) (by simp)
  | y :: L, hs =>
    rw [List.headD_cons]
    rcases List.mem_cons.1 ((hp x).1 hx) with e | h
    · exact e.symm
    · have h1 := (List.pairwise_cons.1 hs).1 x h
      have h2 := hl y ((hp y).2 (by simp))
      rw [h1] at h2
      cases h2
theorem nodup_sub_len {α : Type} [DecidableEq α] : ∀ (l m : List α), l.Nodup → (∀ x ∈ l, x ∈ m) → l.length ≤ m.length
  | [], _, _, _ => by simp
  | a :: l, m, hn, h => by
    obtain ⟨h1, h2⟩ := List.nodup_cons.1 hn
    have ha := h a (by simp)
    have := nodup_sub_len l (m.erase a) h2 (fun x hx => (List.mem_erase_of_ne (fun e => by subst e; exact h1 hx)).2 (h x (by simp [hx])))
    rw [List.length_erase_of_mem ha] at this
    have := List.length_pos_of_mem ha
    simp
    omega
theorem sorted_nodup {L : List (List Int)} (hs : L.Pairwise (fun a b => fewer a b = true)) : L.Nodup := hs.imp fun h e => by subst e; rw [fewer_irrefl] at h; cases h
theorem heardAll_nodup (S : Nat) : (heardAll S).Nodup := sorted_nodup (heardTo_sorted S 6)
theorem same_len {α : Type} [DecidableEq α] {l m : List α} (h1 : l.Nodup) (h2 : m.Nodup) (h : ∀ x, x ∈ l ↔ x ∈ m) : l.length = m.length :=
  Nat.le_antisymm (nodup_sub_len _ _ h1 fun x hx => (h x).1 hx) (nodup_sub_len _ _ h2 fun x hx => (h x).2 hx)
theorem ofN_bit (b : EaB) (h : List Int) (i : Nat) : (ofN b h).testBit i = (decide (i < b.spells.length) && (strsN b i).contains h) := eaBits_bit _ _ _
theorem ofN_lt {b : EaB} (hv : EaValid b) (h : List Int) : ofN b h < 32 := by
  have h1 := eaBits_lt (fun i => (strsN b i).contains h) b.spells.length
  have h2 := Nat.pow_le_pow_right (n := 2) (by omega) hv.ns
  unfold ofN
  omega
/-- Whether a set is within the spellings of a sound string. -/
theorem ofN_all {b : EaB} {h : List Int} {set : Nat} (hset : set < 2 ^ b.spells.length) : (ofN b h &&& set == set) = allB b set h := by
  rw [Bool.eq_iff_iff]
  unfold allB
  rw [List.all_eq_true, beq_iff_eq]
  constructor
  · intro e i hi
    cases hb : set.testBit i
    · rfl
    · have : (ofN b h &&& set).testBit i = true := by rw [e]; exact hb
      rw [Nat.testBit_and, ofN_bit, hb] at this
      simp at this
      simpa using this.2
  · intro hall
    apply Nat.eq_of_testBit_eq
    intro i
    rw [Nat.testBit_and, ofN_bit]
    cases hb : set.testBit i
    · simp
    · have hi : i < b.spells.length := by
        apply Classical.byContradiction
        intro hn
        have := Nat.testBit_lt_two_pow (x := set) (i := i) (Nat.lt_of_lt_of_le hset (Nat.pow_le_pow_right (by omega) (by omega)))
        rw [hb] at this
        cases this
      have := hall i (List.mem_range.2 hi)
      rw [hb] at this
      simp at this ⊢
      exact ⟨hi, this⟩
/-- A set with a spelling: what they all can be, among what is known. -/
theorem com_of {b : EaB} (hv : EaValid b) {E : List (List Int)} (hE : ∀ h, h ∈ E ↔ ∃ i, i < b.spells.length ∧ h ∈ strsN b i) {set : Nat} (hset : set < 2 ^ b.spells.length) (h0 : set ≠ 0) (h : List Int) : h ∈ E.filter (fun h => ofN b h &&& set == set) ↔ h ∈ comN b set := by
  rw [List.mem_filter, mem_comN, ofN_all hset]
  unfold allB
  rw [List.all_eq_true]
  have hone : ∃ i, i < b.spells.length ∧ set.testBit i = true := by
    apply Classical.byContradiction
    intro hn
    apply h0
    apply Nat.eq_of_testBit_eq
    intro i
    rw [Nat.zero_testBit]
    cases hb : set.testBit i
    · rfl
    · by_cases hi : i < b.spells.length
      · exact absurd ⟨i, hi, hb⟩ hn
      · have := Nat.testBit_lt_two_pow (x := set) (i := i) (Nat.lt_of_lt_of_le hset (Nat.pow_le_pow_right (by omega) (by omega)))
        rw [hb] at this
        cases this
  have hq : (∀ i ∈ List.range b.spells.length, (!set.testBit i || (strsN b i).contains h) = true) ↔ ∀ i, i < b.spells.length → set.testBit i = true → h ∈ strsN b i := by
    constructor
    · intro g i hi hb
      have := g i (List.mem_range.2 hi)
      rw [hb] at this
      simpa using this
    · intro g i hi
      cases hb : set.testBit i
      · rfl
      · simpa using g i (List.mem_range.1 hi) hb
  rw [hq]
  constructor
  · rintro ⟨h1, h2⟩
    obtain ⟨i, hi, hh⟩ := (hE h).1 h1
    exact ⟨strsN_mem hv hi hh, h2⟩
  · rintro ⟨_, h2⟩
    obtain ⟨i, hi, hb⟩ := hone
    exact ⟨(hE h).2 ⟨i, hi, h2 i hi hb⟩, h2⟩
/-- The examples' book. -/
def exBook : EaB := ⟨3, [⟨ "roman".toUTF8, [⟨97, 1, false⟩, ⟨101, 3, false⟩, ⟨107, 4, false⟩, ⟨104, 0, true⟩]⟩, ⟨ "abjad".toUTF8, [⟨107, 4, false⟩, ⟨121, 2, true⟩, ⟨110, 1, false⟩]⟩], [⟨0, "ke".toUTF8⟩, ⟨1, "ky".toUTF8⟩, ⟨0, "hka".toUTF8⟩, ⟨1, "kn".toUTF8⟩]⟩
theorem exBook_count0 : (comN exBook 1).length = 2 := by decide +kernel
theorem exBook_first1 : (comN exBook 2).headD [] = [2] := by decide +kernel
theorem exBook_reads : (strsN exBook 1).contains [2, 1] = true ∧ (strsN exBook 1).contains [2, 0] = false := by decide +kernel
theorem exBook_alike : alikeN exBook 2 3 = 1 ∧ alikeN exBook 0 1 = 0 ∧ alikeN exBook 1 2 = 2 := by decide +kernel
theorem exBook_common : comN exBook 13 = [[2, 0]] ∧ comN exBook 6 = [] := by decide +kernel
theorem exBook_spell : spellN (alphaOf exBook ⟨0, ⟨#[]⟩⟩) [2, 1] = some [107, 101] ∧ spellN (alphaOf exBook ⟨1, ⟨#[]⟩⟩) [0, 0] = some [110, 110] := by decide +kernel
theorem exBook_odd : ∀ c : Fin 16, oddC exBook c.1 = true → c.1 = 2 ∨ fewer (bitsList 2 4) (bitsList c.1 4) = true := by decide +kernel
theorem exBook_odd1 : oddC exBook 2 = true := by decide +kernel
end Go.Proofs.YtklconegomgjaaaGreat
namespace Go.Proofs.YtklconegomgjaaaGreat
open Go Go.RowKit
def EaLettersC (w : World) (a : Option Addr) (l : List EaL) : Prop :=
  ∀ i (_ : i < l.length), ∃ b off, a = some ⟨b, off, none⟩ ∧ b < w.heap.size ∧ w.cell? ⟨b, off + i * 3, none⟩ = some (.int .u8 l[i].letter) ∧ w.cell? ⟨b, off + i * 3 + 1, none⟩ = some (.int .i64 l[i].sounds) ∧ w.cell? ⟨b, off + i * 3 + 2, none⟩ = some (.bool l[i].silent)
theorem EaLettersC.keep {w W : World} {a : Option Addr} {l : List EaL} (h : EaLettersC w a l) (hb : Keeps w W) : EaLettersC W a l := fun i hi => by
  obtain ⟨b, off, e, hlt, h0, h1, h2⟩ := h i hi
  exact ⟨b, off, e, Nat.lt_of_lt_of_le hlt hb.1, hb.2 _ _ h0, hb.2 _ _ h1, hb.2 _ _ h2⟩
theorem EaLettersC.mono {w W : World} {a : Option Addr} {l : List EaL} (h : EaLettersC w a l) (hb : Below w.heap.size w W) : EaLettersC W a l := h.keep (.of_below hb)
theorem EaLettersC.take {w : World} {a : Option Addr} {l : List EaL} (h : EaLettersC w a l) (k : Nat) : EaLettersC w a (l.take k) := fun i hi => by
  rw [List.length_take] at hi
  have hg : (l.take k)[i]'(by rw [List.length_take]; omega) = l[i]'(by omega) := List.getElem_take ..
  rw [hg]
  exact h i (by omega)
def EaAlphasC (w : World) (a : Option Addr) (l : List EaA) : Prop :=
  ∀ i (_ : i < l.length), ∃ b off, a = some ⟨b, off, none⟩ ∧ b < w.heap.size ∧ w.cell? ⟨b, off + i * 2, none⟩ = some (.string l[i].name) ∧ ∃ al cl, w.cell? ⟨b, off + i * 2 + 1, none⟩ = some (.slice al l[i].letters.length cl) ∧ SlOk al l[i].letters.length cl ∧ EaLettersC w al l[i].letters
theorem EaAlphasC.keep {w W : World} {a : Option Addr} {l : List EaA} (h : EaAlphasC w a l) (hb : Keeps w W) : EaAlphasC W a l := fun i hi => by
  obtain ⟨b, off, e, hlt, h0, al, cl, h1, h2, h3⟩ := h i hi
  exact ⟨b, off, e, Nat.lt_of_lt_of_le hlt hb.1, hb.2 _ _ h0, al, cl, hb.2 _ _ h1, h2, h3.keep hb⟩
theorem EaAlphasC.mono {w W : World} {a : Option Addr} {l : List EaA} (h : EaAlphasC w a l) (hb : Below w.heap.size w W) : EaAlphasC W a l := h.keep (.of_below hb)
theorem EaAlphasC.take {w : World} {a : Option Addr} {l : List EaA} (h : EaAlphasC w a l) (k : Nat) : EaAlphasC w a (l.take k) := fun i hi => by
  rw [List.length_take] at hi
  have hg : (l.take k)[i]'(by rw [List.length_take]; omega) = l[i]'(by omega) := List.getElem_take ..
  rw [hg]
  exact h i (by omega)
def EaSpellsC (w : World) (a : Option Addr) (l : List EaS) : Prop :=
  ∀ i (_ : i < l.length), ∃ b off, a = some ⟨b, off, none⟩ ∧ b < w.heap.size ∧ w.cell? ⟨b, off + i * 2, none⟩ = some (.int .i64 l[i].alpha) ∧ w.cell? ⟨b, off + i * 2 + 1, none⟩ = some (.string l[i].text)
theorem EaSpellsC.keep {w W : World} {a : Option Addr} {l : List EaS} (h : EaSpellsC w a l) (hb : Keeps w W) : EaSpellsC W a l := fun i hi => by
  obtain ⟨b, off, e, hlt, h0, h1⟩ := h i hi
  exact ⟨b, off, e, Nat.lt_of_lt_of_le hlt hb.1, hb.2 _ _ h0, hb.2 _ _ h1⟩
theorem EaSpellsC.mono {w W : World} {a : Option Addr} {l : List EaS} (h : EaSpellsC w a l) (hb : Below w.heap.size w W) : EaSpellsC W a l := h.keep (.of_below hb)
@[reducible] def eaLetV (x : EaL) : Value := .agg #[.int .u8 x.letter, .int .i64 x.sounds, .bool x.silent]
/-- A book in memory: two slices, and a slice for each alphabet. -/
structure BookC (w : World) (a1 a2 : Option Addr) (k1 k2 : Nat) (b : EaB) : Prop where
  oka : SlOk a1 b.alphas.length k1
  oks : SlOk a2 b.spells.length k2
  alphas : EaAlphasC w a1 b.alphas
  spells : EaSpellsC w a2 b.spells
  nsize : ∀ x ∈ b.alphas, x.name.size ≤ 9223372036854775807
  tsize : ∀ x ∈ b.spells, x.text.size ≤ 9223372036854775807
variable {w W : World} {a1 a2 : Option Addr} {k1 k2 : Nat} {b : EaB}
theorem BookC.keep (k : BookC w a1 a2 k1 k2 b) (hb : Keeps w W) : BookC W a1 a2 k1 k2 b := ⟨k.oka, k.oks, k.alphas.keep hb, k.spells.keep hb, k.nsize, k.tsize⟩
theorem BookC.mono (k : BookC w a1 a2 k1 k2 b) (hb : Below w.heap.size w W) : BookC W a1 a2 k1 k2 b := k.keep (.of_below hb)
/-- A sound string as a value: how many sounds, and five of them. -/
@[reducible] def hrd (h : List Int) (i : Nat) : Int := h[i]?.getD 0
@[reducible] def heardV (h : List Int) : Value := .agg #[.int .i64 (h.length : Int), .int .i64 (hrd h 0), .int .i64 (hrd h 1), .int .i64 (hrd h 2), .int .i64 (hrd h 3), .int .i64 (hrd h 4)]
@[reducible] def heardCells (h : List Int) : Array Value := #[.int .i64 (h.length : Int), .int .i64 (hrd h 0), .int .i64 (hrd h 1), .int .i64 (hrd h 2), .int .i64 (hrd h 3), .int .i64 (hrd h 4)]
end Go.Proofs.YtklconegomgjaaaGreat
