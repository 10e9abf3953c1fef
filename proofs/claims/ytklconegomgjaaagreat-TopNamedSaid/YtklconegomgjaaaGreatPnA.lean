/- What is proved here: plain facts for TopNamed: mentions whose spellings never are alike are never of one person; in a town of which only spellings are told they can be of one person just if they are not. No program. No condition. -/
import Derived.Test.YtklconegomgjaaaGreatPnBaseG
set_option linter.unusedVariables false
set_option linter.unusedSimpArgs false
namespace Go.Proofs.YtklconegomgjaaaGreat
theorem com_two {b : EaB} (hv : EaValid b) {i j : Nat} (hi : i < b.spells.length) (hj : j < b.spells.length) {h : List Int} : h ∈ comN b (2 ^ i ||| 2 ^ j) ↔ h ∈ strsN b i ∧ h ∈ strsN b j := by
  rw [mem_comN]
  have ht : ∀ k, (2 ^ i ||| 2 ^ j).testBit k = true ↔ k = i ∨ k = j := fun k => by
    rw [Nat.testBit_or, Nat.testBit_two_pow, Nat.testBit_two_pow]
    simp
    constructor
    · rintro (h | h)
      · exact .inl h.symm
      · exact .inr h.symm
    · rintro (h | h)
      · exact .inl h.symm
      · exact .inr h.symm
  constructor
  · rintro ⟨_, g⟩
    exact ⟨g i hi ((ht i).2 (.inl rfl)), g j hj ((ht j).2 (.inr rfl))⟩
  · rintro ⟨g1, g2⟩
    refine ⟨strsN_mem hv hi g1, fun k _ hb => ?_⟩
    rcases (ht k).1 hb with rfl | rfl
    · exact g1
    · exact g2
theorem com_one {b : EaB} (hv : EaValid b) {i : Nat} (hi : i < b.spells.length) {h : List Int} : h ∈ comN b (2 ^ i) ↔ h ∈ strsN b i := by
  have := com_two hv hi hi (h := h)
  rw [Nat.or_self] at this
  rw [this]
  exact ⟨fun h => h.1, fun h => ⟨h, h⟩⟩
theorem head_mem {l : List (List Int)} (h : l.length = 1) : l.headD [] ∈ l := by
  match l, h with
  | [x], _ => simp
theorem ne_nil {α : Type} {l : List α} : l ≠ [] ↔ ∃ x, x ∈ l := by
  cases l with
  | nil => simp
  | cons a l => simp
theorem alive_iff {t : PeW} {set : Nat} : aliveB t set = true ↔ ∃ h, h ∈ comN t.ear set := by
  rw [← ne_nil]
  unfold aliveB
  cases comN t.ear set <;> simp
/-- Two spellings are not Never alike just if a sound string is common to them. -/
theorem alike_iff {b : EaB} (hv : EaValid b) {i j : Nat} (hi : i < b.spells.length) (hj : j < b.spells.length) : alikeN b i j ≠ 2 ↔ ∃ h, h ∈ comN b (2 ^ i ||| 2 ^ j) := by
  unfold alikeN
  constructor
  · intro h
    split at h
    · next h1 =>
      obtain ⟨h2, h3, h4⟩ := h1
      have g1 := (com_one hv hi).1 (head_mem h2)
      have g2 := (com_one hv hj).1 (head_mem h3)
      rw [← h4] at g2
      exact ⟨_, (com_two hv hi hj).2 ⟨g1, g2⟩⟩
    · split at h
      · exact absurd rfl h
      · next h2 =>
        exact ne_nil.1 (fun e => h2 (by rw [e]; rfl))
  · rintro ⟨h, hh⟩
    split
    · decide
    · split
      · next h2 => rw [List.length_eq_zero_iff.1 h2] at hh; cases hh
      · decide
theorem alive_one {t : PeW} (hv : EaValid t.ear) {i : Nat} (hi : i < t.ear.spells.length) : aliveB t (2 ^ i) = true := by
  rw [alive_iff]
  obtain ⟨l, hl⟩ := strsN_some hv hi
  exact ⟨l, (com_one hv hi).2 hl⟩
/-- Whether two mentions' spellings can be one sound string, as the law asks it. -/
def canB (t : PeW) (a b : Nat) : Bool := decide (spOf t a = spOf t b) || alikeN t.ear (spOf t a) (spOf t b) != 2
theorem sp_lt {t : PeW} (h : PeOk t) {i : Nat} (hi : i < t.ments.length) : spOf t i < t.ear.spells.length := by
  have := h.ment i hi
  unfold spOf
  rw [mentAt_is hi]
  omega
theorem can_alive {t : PeW} (h : PeOk t) {a b : Nat} (ha : a < t.ments.length) (hb : b < t.ments.length) : canB t a b = aliveB t (2 ^ spOf t a ||| 2 ^ spOf t b) := by
  have h1 := sp_lt h ha
  have h2 := sp_lt h hb
  unfold canB
  by_cases e : spOf t a = spOf t b
  · rw [e, Nat.or_self, alive_one h.ear h2]
    simp
  · rw [Bool.eq_iff_iff, alive_iff, ← alike_iff h.ear h1 h2]
    simp [e]
theorem why_sound {t : PeW} (h : PeOk t) {a b : Nat} (ha : a < t.ments.length) (hb : b < t.ments.length) : (whyN t a b = 1) ↔ canB t a b = false := by
  rw [can_alive h ha hb]
  unfold whyN
  cases aliveB t (2 ^ spOf t a ||| 2 ^ spOf t b)
  · simp
  · simp
    split
    · decide
    · split
      · decide
      · split <;> decide
theorem why_bad {t : PeW} (h : PeOk t) {a b : Nat} (ha : a < t.ments.length) (hb : b < t.ments.length) (hc : canB t a b = false) : whyN t a b ≠ 0 := by
  rw [(why_sound h ha hb).2 hc]; decide
theorem can_comm (t : PeW) (h : PeOk t) {a b : Nat} (ha : a < t.ments.length) (hb : b < t.ments.length) : canB t a b = canB t b a := by
  rw [can_alive h ha hb, can_alive h hb ha, Nat.or_comm]
theorem pAt_left {s r : List Int} {i : Nat} (h : i < s.length) : pAt (s ++ r) i = pAt s i := by unfold pAt; rw [List.getElem?_append_left h]
theorem truthsF_sound (t : PeW) : ∀ (k : Nat) (pre : List Int) (many : Nat) (x : List Int × Nat), x ∈ truthsF t k pre many → ∃ s, x.1 = pre ++ s ∧ s.length = k ∧ ∀ j, j < k → ∀ i, i < pre.length + j → pAt x.1 i = pAt x.1 (pre.length + j) → whyN t i (pre.length + j) = 0
  | 0, pre, many, x, hx => by
    rw [truthsF] at hx
    split at hx
    · have : x = (pre, many) := by simpa using hx
      subst this
      exact ⟨[], by simp, rfl, fun j hj => absurd hj (Nat.not_lt_zero j)⟩
    · cases hx
  | k + 1, pre, many, x, hx => by
    rw [truthsF, List.mem_flatMap] at hx
    obtain ⟨n, _, hx⟩ := hx
    split at hx
    · next hf =>
      obtain ⟨s, h1, h2, h3⟩ := truthsF_sound t k _ _ x hx
      refine ⟨(n : Int) :: s, by rw [h1]; simp, by simp [h2], fun j hj i hi he => ?_⟩
      match j with
      | 0 =>
        simp only [Nat.add_zero] at hi he ⊢
        unfold fitsB at hf
        rw [List.all_eq_true] at hf
        have h4 := hf i (List.mem_range.2 hi)
        have e1 : pAt x.1 pre.length = (n : Int) := by rw [h1]; unfold pAt; simp
        have e2 : pAt x.1 i = pAt pre i := by rw [h1, List.append_assoc]; exact pAt_left hi
        rw [e1, e2] at he
        rw [he] at h4
        simpa using h4
      | j + 1 =>
        have h5 := h3 j (by omega) i (by simp; omega)
        simp only [List.length_append, List.length_singleton] at h5
        rw [show pre.length + (j + 1) = pre.length + 1 + j by omega] at he ⊢
        exact h5 he
    · cases hx
theorem truths_pair {t : PeW} {x : List Int × Nat} (hx : x ∈ truthsT t) : x.1.length = t.ments.length ∧ ∀ j, j < t.ments.length → ∀ i, i < j → pAt x.1 i = pAt x.1 j → whyN t i j = 0 := by
  obtain ⟨s, h1, h2, h3⟩ := truthsF_sound t _ _ _ x hx
  refine ⟨by rw [h1]; simpa using h2, fun j hj i hi he => ?_⟩
  have := h3 j hj i (by simpa using hi)
  simp only [List.length_nil, Nat.zero_add] at this
  exact this he
/-- Numbers of persons: each at most one more than those before it. -/
def rgB : Nat → List Int → Bool
  | _, [] => true
  | m, x :: l => decide (0 ≤ x ∧ x ≤ m) && rgB (max m (x.toNat + 1)) l
def rgEnd : Nat → List Int → Nat
  | m, [] => m
  | m, x :: l => rgEnd (max m (x.toNat + 1)) l
theorem truthsF_mem (t : PeW) : ∀ (s pre : List Int) (many : Nat), rgB many s = true → (∀ j, j < s.length → ∀ i, i < pre.length + j → pAt (pre ++ s) i = pAt (pre ++ s) (pre.length + j) → whyN t i (pre.length + j) = 0) → (yearsN t (pre ++ s)).isSome = true → fatheredB t (pre ++ s) = true → (pre ++ s, rgEnd many s) ∈ truthsF t s.length pre many
  | [], pre, many, _, _, hy, hf => by
    rw [List.append_nil] at hy hf ⊢
    rw [List.length_nil, truthsF, hy, hf]
    simp [rgEnd]
  | x :: s, pre, many, hr, hp, hy, hf => by
    rw [rgB, Bool.and_eq_true, decide_eq_true_eq] at hr
    obtain ⟨⟨h1, h2⟩, h3⟩ := hr
    obtain ⟨n, rfl⟩ : ∃ n : Nat, x = n := ⟨x.toNat, by omega⟩
    rw [Int.toNat_natCast] at h3
    rw [show pre ++ ((n : Int) :: s) = (pre ++ [(n : Int)]) ++ s by simp] at hp hy hf ⊢
    rw [List.length_cons, truthsF, List.mem_flatMap]
    refine ⟨n, List.mem_range.2 (by omega), ?_⟩
    have hfit : fitsB t pre n = true := by
      unfold fitsB
      rw [List.all_eq_true]
      intro i hi
      have hi := List.mem_range.1 hi
      by_cases e : pAt pre i = (n : Int)
      · have := hp 0 (by simp) i (by simpa using hi) (by
          rw [List.append_assoc, pAt_left hi, e]
          unfold pAt
          simp)
        simp at this
        simp [this]
      · simp [e]
    rw [if_pos hfit]
    have ih := truthsF_mem t s (pre ++ [(n : Int)]) (max many (n + 1)) h3 (fun j hj i hi he => by
      simp only [List.length_append, List.length_singleton] at hi he ⊢
      have := hp (j + 1) (by simpa using hj) i (by omega)
      rw [show pre.length + (j + 1) = pre.length + 1 + j by omega] at this
      exact this he) hy hf
    rw [show rgEnd many ((n : Int) :: s) = rgEnd (max many (n + 1)) s by rw [rgEnd, Int.toNat_natCast]]
    exact ih
theorem truths_mem {t : PeW} {p : List Int} (hl : p.length = t.ments.length) (hr : rgB 0 p = true) (hp : ∀ j, j < p.length → ∀ i, i < j → pAt p i = pAt p j → whyN t i j = 0) (hy : (yearsN t p).isSome = true) (hf : fatheredB t p = true) : (p, rgEnd 0 p) ∈ truthsT t := by
  unfold truthsT
  rw [← hl]
  have := truthsF_mem t p [] 0 hr (fun j hj i hi he => by
    simp only [List.length_nil, Nat.zero_add, List.nil_append] at hi he ⊢
    exact hp j hj i hi he) hy hf
  simpa using this
/-- A town of which only spellings are told. -/
def plainM (x : PeM) : PeM := ⟨x.spell, -1, 0, 199, -1⟩
def plainT (t : PeW) : PeW := ⟨t.ear, t.vills, t.ments.map plainM, []⟩
theorem plain_len (t : PeW) : (plainT t).ments.length = t.ments.length := List.length_map ..
theorem plain_at {t : PeW} {i : Nat} (hi : i < t.ments.length) : mentAt (plainT t) i = plainM (mentAt t i) := by
  rw [mentAt_is (by rw [plain_len]; exact hi), mentAt_is hi]
  simp [plainT]
theorem plain_valid {t : PeW} (h : PeValid t) : PeValid (plainT t) := by
  refine ⟨h.ear, h.vills, by rw [plain_len]; exact h.nm, fun i hi => ?_, by simp [plainT], fun i hi => by simp [plainT] at hi⟩
  rw [plain_len] at hi
  have h1 := mentErr_ok (h.ment i hi)
  have hv := h.vills
  have e : (plainT t).ments[i]'(by rw [plain_len]; exact hi) = plainM t.ments[i] := by simp [plainT]
  rw [e]
  unfold mentErr plainM
  simp only
  have e1 : inB t.ments[i].spell 0 (((plainT t).ear.spells.length : Int) - 1) = true := inB_iff.2 (by show _ ∧ _ ≤ ((t.ear.spells.length : Nat) : Int) - 1; omega)
  have e2 : inB (-1) (-1) ((plainT t).vills - 1) = true := inB_iff.2 (by show _ ∧ _ ≤ t.vills - 1; omega)
  have e3 : inB (-1) (-1) (((plainT t).ments.length : Int) - 1) = true := inB_iff.2 (by omega)
  have e4 : inB 0 0 199 = true := by decide
  have e5 : inB 199 0 199 = true := by decide
  rw [e1, e2, e3, e4, e5]
  simp
theorem plain_sp {t : PeW} {i : Nat} (hi : i < t.ments.length) : spOf (plainT t) i = spOf t i := by
  unfold spOf
  rw [plain_at hi]
  rfl
theorem plain_can {t : PeW} {a b : Nat} (ha : a < t.ments.length) (hb : b < t.ments.length) : canB (plainT t) a b = canB t a b := by
  unfold canB
  rw [plain_sp ha, plain_sp hb]
  rfl
theorem plain_why {t : PeW} (h : PeValid t) {a b : Nat} (ha : a < t.ments.length) (hb : b < t.ments.length) (hc : canB t a b = true) : whyN (plainT t) a b = 0 := by
  have h2 := plain_valid h
  have e := can_alive h2.ok (by rw [plain_len]; exact ha) (by rw [plain_len]; exact hb) (a := a) (b := b)
  rw [plain_can ha hb, hc] at e
  unfold whyN
  rw [← e, plain_at ha, plain_at hb]
  simp [plainM]
theorem plain_born (t : PeW) (p : List Int) : ∀ k, k ≤ t.ments.length → bornTo (plainT t) p k = allYears
  | 0, _ => rfl
  | k + 1, hk => by
    rw [bornTo, plain_born t p k (by omega), plain_at (by omega)]
    simp only [plainM]
    generalize (pAt p k).toNat = n
    match n with
    | 0 => rfl
    | 1 => rfl
    | 2 => rfl
    | 3 => rfl
    | 4 => rfl
    | 5 => rfl
    | n + 6 => exact List.set_eq_of_length_le (by simp [allYears])
theorem plain_year (t : PeW) (p : List Int) (b : List (Int × Int)) : ∀ k, k ≤ t.ments.length → yearTo (plainT t) p b k = (b, false)
  | 0, _ => rfl
  | k + 1, hk => by
    rw [yearTo, plain_at (by omega), plain_year t p b k (by omega)]
    simp [plainM]
theorem plain_years (t : PeW) (p : List Int) : (yearsN (plainT t) p).isSome = true := by
  unfold yearsN
  rw [plain_len, plain_born t p _ (Nat.le_refl _), show (1300 : Nat) = 1299 + 1 from rfl, yearsF, plain_len, plain_year t p _ _ (Nat.le_refl _), if_neg (show ¬ emptyB allYears = true by decide), if_neg (by simp)]
  rfl
theorem plain_father (t : PeW) (p : List Int) : ∀ k, k ≤ t.ments.length → fatherTo (plainT t) p k = some noOf
  | 0, _ => rfl
  | k + 1, hk => by
    rw [fatherTo, plain_father t p k (by omega), plain_at (by omega)]
    simp [plainM]
theorem plain_fathered (t : PeW) (p : List Int) : fatheredB (plainT t) p = true := by
  unfold fatheredB
  rw [plain_len, plain_father t p _ (Nat.le_refl _)]
  rfl
theorem plain_tied (t : PeW) (p : List Int) : tiedB (plainT t) 0 p = true := rfl
/-- All apart; all apart but two. -/
def apartL (n : Nat) : List Int := (List.range n).map fun (i : Nat) => (i : Int)
def joinL (n a b : Nat) : List Int := (List.range n).map fun (i : Nat) => if i < b then (i : Int) else if i = b then (a : Int) else ((i - 1 : Nat) : Int)
theorem apart_rg : ∀ n : Fin 6, rgB 0 (apartL n.1) = true ∧ (apartL n.1).length = n.1 ∧ ∀ i : Fin 6, ∀ j : Fin 6, i.1 < j.1 → j.1 < n.1 → pAt (apartL n.1) i.1 ≠ pAt (apartL n.1) j.1 := by decide +kernel
theorem join_rg : ∀ n : Fin 6, ∀ a : Fin 6, ∀ b : Fin 6, a.1 < b.1 → b.1 < n.1 → rgB 0 (joinL n.1 a.1 b.1) = true ∧ (joinL n.1 a.1 b.1).length = n.1 ∧ pAt (joinL n.1 a.1 b.1) a.1 = pAt (joinL n.1 a.1 b.1) b.1 ∧ ∀ i : Fin 6, ∀ j : Fin 6, i.1 < j.1 → j.1 < n.1 → pAt (joinL n.1 a.1 b.1) i.1 = pAt (joinL n.1 a.1 b.1) j.1 → i.1 = a.1 ∧ j.1 = b.1 := by decide +kernel
theorem setTo'_none {t : PeW} {p : List Int} {n : Nat} : ∀ k, (∀ i, i < k → pAt p i ≠ (n : Int)) → setTo' t p n k = 0
  | 0, _ => rfl
  | k + 1, h => by
    rw [setTo', if_neg (h k (by omega))]
    exact setTo'_none k fun i hi => h i (by omega)
theorem setTo'_one {t : PeW} {p : List Int} {n i : Nat} (hi : pAt p i = (n : Int)) : ∀ k, i < k → (∀ j, j < k → pAt p j = (n : Int) → j = i) → setTo' t p n k = 2 ^ spOf t i
  | 0, h, _ => absurd h (Nat.not_lt_zero i)
  | k + 1, h, hu => by
    rw [setTo']
    by_cases e : k = i
    · subst e
      rw [if_pos hi, setTo'_none k (fun j hj e => by have := hu j (by omega) e; omega), Nat.zero_or]
    · rw [if_neg (fun e2 => e (hu k (by omega) e2))]
      exact setTo'_one hi k (by omega) fun j hj => hu j (by omega)
theorem setTo'_two {t : PeW} {p : List Int} {n a b : Nat} (hab : a < b) (ha : pAt p a = (n : Int)) (hb : pAt p b = (n : Int)) : ∀ k, b < k → (∀ j, j < k → pAt p j = (n : Int) → j = a ∨ j = b) → setTo' t p n k = 2 ^ spOf t a ||| 2 ^ spOf t b
  | 0, h, _ => absurd h (Nat.not_lt_zero b)
  | k + 1, h, hu => by
    rw [setTo']
    by_cases e : k = b
    · subst e
      rw [if_pos hb, setTo'_one ha k hab (fun j hj e => by rcases hu j (by omega) e with h | h <;> omega)]
    · rw [if_neg (fun e2 => by rcases hu k (by omega) e2 with h | h <;> omega)]
      exact setTo'_two hab ha hb k (by omega) fun j hj => hu j (by omega)
theorem named_of {t : PeW} {p : List Int} (h : ∀ n, n < 6 → setTo' t p n t.ments.length = 0 ∨ aliveB t (setTo' t p n t.ments.length) = true) : namedB t p = true := by
  unfold namedB namedTo
  rw [List.all_eq_true]
  intro n hn
  rcases h n (List.mem_range.1 hn) with h | h <;> simp [h]
/-- All apart is a truth of a plain town. -/
theorem apart_fair {t : PeW} (h : PeValid t) : (apartL t.ments.length, rgEnd 0 (apartL t.ments.length)) ∈ fairL (plainT t) 0 := by
  have hn := h.nm
  have h2 := plain_valid h
  obtain ⟨r1, r2, r3⟩ := apart_rg ⟨t.ments.length, by omega⟩
  simp only at r1 r2 r3
  unfold fairL
  rw [List.mem_filter]
  have hne : ∀ i j, i < j → j < t.ments.length → pAt (apartL t.ments.length) i ≠ pAt (apartL t.ments.length) j := fun i j hij hj => r3 ⟨i, by omega⟩ ⟨j, by omega⟩ hij hj
  refine ⟨truths_mem (by rw [r2, plain_len]) r1 (fun j hj i hi he => absurd he (hne i j hi (by rw [r2] at hj; exact hj))) (plain_years t _) (plain_fathered t _), ?_⟩
  unfold fairB
  rw [plain_tied, Bool.and_true]
  refine named_of fun n _ => ?_
  rw [plain_len]
  by_cases e : ∃ i, i < t.ments.length ∧ pAt (apartL t.ments.length) i = (n : Int)
  · obtain ⟨i, hi, hp⟩ := e
    rw [setTo'_one hp _ hi (fun j hj hq => by
      rcases Nat.lt_trichotomy j i with g | g | g
      · exact absurd (hq.trans hp.symm) (hne j i g hi)
      · exact g
      · exact absurd (hp.trans hq.symm) (hne i j g hj))]
    exact .inr (alive_one h2.ear (sp_lt h2.ok (by rw [plain_len]; exact hi)))
  · exact .inl (setTo'_none _ fun i hi hp => e ⟨i, hi, hp⟩)
/-- All apart but two that can be one person is one, too. -/
theorem join_fair {t : PeW} (h : PeValid t) {a b : Nat} (hab : a < b) (hb : b < t.ments.length) (hc : canB t a b = true) : ∃ x, x ∈ fairL (plainT t) 0 ∧ pAt x.1 a = pAt x.1 b := by
  have hn := h.nm
  have h2 := plain_valid h
  obtain ⟨r1, r2, r3, r4⟩ := join_rg ⟨t.ments.length, by omega⟩ ⟨a, by omega⟩ ⟨b, by omega⟩ hab hb
  simp only at r1 r2 r3 r4
  have hne : ∀ i j, i < j → j < t.ments.length → pAt (joinL t.ments.length a b) i = pAt (joinL t.ments.length a b) j → i = a ∧ j = b := fun i j hij hj => r4 ⟨i, by omega⟩ ⟨j, by omega⟩ hij hj
  refine ⟨(joinL t.ments.length a b, rgEnd 0 (joinL t.ments.length a b)), ?_, r3⟩
  unfold fairL
  rw [List.mem_filter]
  refine ⟨truths_mem (by rw [r2, plain_len]) r1 (fun j hj i hi he => by
    obtain ⟨rfl, rfl⟩ := hne i j hi (by rw [r2] at hj; exact hj) he
    exact plain_why h (by omega) hb hc) (plain_years t _) (plain_fathered t _), ?_⟩
  unfold fairB
  rw [plain_tied, Bool.and_true]
  refine named_of fun n _ => ?_
  rw [plain_len]
  by_cases ea : pAt (joinL t.ments.length a b) a = (n : Int)
  · rw [setTo'_two hab ea (r3.symm.trans ea) _ hb (fun j hj hq => by
      rcases Nat.lt_trichotomy j a with g | g | g
      · have := hne j a g (by omega) (hq.trans ea.symm); omega
      · exact .inl g
      · have := hne a j g hj (ea.trans hq.symm); exact .inr this.2)]
    refine .inr ?_
    have e := can_alive h2.ok (by rw [plain_len]; omega) (by rw [plain_len]; exact hb) (a := a) (b := b)
    rw [plain_can (by omega) hb, hc] at e
    exact e.symm
  · by_cases e : ∃ i, i < t.ments.length ∧ pAt (joinL t.ments.length a b) i = (n : Int)
    · obtain ⟨i, hi, hp⟩ := e
      rw [setTo'_one hp _ hi (fun j hj hq => by
        rcases Nat.lt_trichotomy j i with g | g | g
        · have := hne j i g hi (hq.trans hp.symm)
          rw [this.1] at hq; exact absurd hq ea
        · exact g
        · have := hne i j g hj (hp.trans hq.symm)
          rw [this.1] at hp; exact absurd hp ea)]
      exact .inr (alive_one h2.ear (sp_lt h2.ok (by rw [plain_len]; exact hi)))
    · exact .inl (setTo'_none _ fun i hi hp => e ⟨i, hi, hp⟩)
theorem same_zero {t : PeW} (h : PeOk t) {a b : Nat} (ha : a < t.ments.length) (hb : b < t.ments.length) (hab : a ≠ b) (hc : canB t a b = false) : sameN t a b = 0 := by
  unfold sameN
  rw [List.length_eq_zero_iff, List.filter_eq_nil_iff]
  intro x hx
  have hx := (List.mem_filter.1 hx).1
  obtain ⟨_, h2⟩ := truths_pair hx
  intro he
  have he := eq_of_beq he
  rcases Nat.lt_or_gt_of_ne hab with g | g
  · exact why_bad h ha hb hc (h2 b hb a g he)
  · exact why_bad h hb ha (by rw [can_comm t h hb ha]; exact hc) (h2 a ha b g he.symm)
/-- Never, if they cannot sound alike and there is a truth. -/
theorem named_never {t : PeW} (h : PeOk t) {a b : Nat} (ha : a < t.ments.length) (hb : b < t.ments.length) (hab : a ≠ b) (hc : canB t a b = false) (hs : fairL t 0 ≠ []) : settledN (sameN t a b) (fairL t 0).length = 2 := by
  rw [same_zero h ha hb hab hc]
  unfold settledN
  rw [if_neg (fun e => hs (List.length_eq_zero_iff.1 e.symm)), if_pos rfl]
theorem plain_some {t : PeW} (h : PeValid t) : fairL (plainT t) 0 ≠ [] := ne_nil.2 ⟨_, apart_fair h⟩
theorem same_lt {t : PeW} (h : PeValid t) {a b : Nat} (ha : a < t.ments.length) (hb : b < t.ments.length) (hab : a ≠ b) : sameN (plainT t) a b < (fairL (plainT t) 0).length := by
  have hn := h.nm
  have hm := apart_fair h
  obtain ⟨r1, r2, r3⟩ := apart_rg ⟨t.ments.length, by omega⟩
  simp only at r3
  unfold sameN
  refine Nat.lt_of_le_of_ne (List.length_filter_le _ _) fun e => ?_
  have := (List.length_filter_eq_length_iff.1 e) _ hm
  have this := eq_of_beq this
  simp only at this
  rcases Nat.lt_or_gt_of_ne hab with g | g
  · exact r3 ⟨a, by omega⟩ ⟨b, by omega⟩ g hb this
  · exact r3 ⟨b, by omega⟩ ⟨a, by omega⟩ g ha this.symm
theorem same_pos {t : PeW} (h : PeValid t) {a b : Nat} (ha : a < t.ments.length) (hb : b < t.ments.length) (hab : a ≠ b) (hc : canB t a b = true) : 0 < sameN (plainT t) a b := by
  have key : ∃ x, x ∈ fairL (plainT t) 0 ∧ pAt x.1 a = pAt x.1 b := by
    rcases Nat.lt_or_gt_of_ne hab with g | g
    · exact join_fair h g hb hc
    · obtain ⟨x, h1, h2⟩ := join_fair h g ha (by rw [can_comm t h.ok hb ha]; exact hc)
      exact ⟨x, h1, h2.symm⟩
  obtain ⟨x, h1, h2⟩ := key
  unfold sameN
  exact List.length_pos_of_mem (List.mem_filter.2 ⟨h1, by simpa using h2⟩)
/-- In a plain town two mentions can be of one person just if they can sound alike, and never must. -/
theorem named_plain {t : PeW} (h : PeValid t) {a b : Nat} (ha : a < t.ments.length) (hb : b < t.ments.length) (hab : a ≠ b) : settledN (sameN (plainT t) a b) (fairL (plainT t) 0).length = if canB t a b = true then 0 else 2 := by
  have h1 := same_lt h ha hb hab
  unfold settledN
  rw [if_neg (by omega)]
  cases hc : canB t a b
  · have h2 := same_zero (plain_valid h).ok (by rw [plain_len]; exact ha) (by rw [plain_len]; exact hb) hab (by rw [plain_can ha hb]; exact hc)
    rw [if_pos h2]
    rfl
  · have h2 := same_pos h ha hb hab hc
    rw [if_neg (by omega), if_pos rfl]
end Go.Proofs.YtklconegomgjaaaGreat
