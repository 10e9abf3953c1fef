/- What is proved here: plain facts of the outright statements of layer 12: rooms of which other things were heard; answers that are settled. No program. No condition. -/
/- What is proved here: plain facts of SecretTrue, SecretFewest, SecretMore, SecretDays. No program. No condition. -/
/- What is proved here: plain facts of SecretKept, and of the plans of SecretMore: the first of the best plans; what comes by all letters together comes by one of them. No program. No condition. -/
/- What is proved here: plain facts of SecretCut, SecretMay, SecretLeak. No program. No condition. -/
/- What is proved here: plain facts of the outright statements of layer 12: calls that must fail; answers, all by name. No program. No condition. -/
import Derived.Test.YtcgplocmncionaaGreatSePlainB
set_option linter.unusedVariables false
set_option linter.unusedSimpArgs false
namespace Go.Proofs.YtcgplocmncionaaGreat

/-- A room is valid and has a truth. -/
def someB (r : SeRoom) : Bool := decide (seErr r = 0) && decide (0 < (seTruths r []).length)
theorem someB_iff {r : SeRoom} : someB r = true ↔ seErr r = 0 ∧ 0 < (seTruths r []).length := by unfold someB; simp

structure SeParts (r : SeRoom) : Prop where
  nw : r.writers.length ≤ 4
  w : ∀ i, i < r.writers.length → writerErr r i = 0
  nk : r.kept.length ≤ 3
  k : ∀ i, i < r.kept.length → keptErr r i = 0
  nl : r.leaks.length ≤ 4
  l : ∀ i, i < r.leaks.length → leakErr r i = 0
  nt : r.letters.length ≤ 4
  t : ∀ i, i < r.letters.length → letterErr r i = 0
  nh : r.heard.length ≤ 3
  h : ∀ i, i < r.heard.length → heardErr r i = 0
/-- A set of leaks is a truth just if all that was heard is so. -/
theorem seTrue_iff {r : SeRoom} {but t : List Int} : seTrue r but t = true ↔ ∀ k (h : k < r.heard.length), hasB but k = false → soB r r.heard[k] t = true := by
  unfold seTrue
  rw [List.all_eq_true]
  constructor
  · intro h k hk hb
    have := h k (List.mem_range.2 hk)
    unfold soAt at this
    rw [hb, List.getElem?_eq_getElem hk] at this
    simpa using this
  · intro h k hk
    have hk := List.mem_range.1 hk
    unfold soAt
    cases hb : hasB but k
    · rw [List.getElem?_eq_getElem hk]
      simpa using h k hk hb
    · rfl
theorem seTrue_nil {r : SeRoom} {t : List Int} : seTrue r [] t = true ↔ ∀ x ∈ r.heard, soB r x t = true := by
  rw [seTrue_iff]
  constructor
  · intro h x hx
    obtain ⟨i, hi, rfl⟩ := List.getElem_of_mem hx
    exact h i hi rfl
  · intro h k hk _
    exact h _ (List.getElem_mem hk)
theorem truths_nil (r : SeRoom) (h : r.heard = []) : seTruths r [] = seSets r := by
  unfold seTruths
  rw [List.filter_eq_self]
  intro t _
  rw [seTrue_nil, h]
  intro x hx; cases hx

/-- The errors of calls whose numbers are right. -/
theorem index_ok {r : SeRoom} (h : seErr r = 0) {n below : Int} (h0 : 0 ≤ n) (h1 : n < below) : indexErr r n below = 0 := by
  unfold indexErr
  rw [if_pos h, if_pos (inB_iff.2 ⟨h0, by omega⟩)]
theorem who_ok {r : SeRoom} (h : seErr r = 0) {u s : Int} (h0 : 0 ≤ u) (h1 : u < r.writers.length) (h2 : 0 ≤ s) (h3 : s < r.kept.length) : whoErr r u s = 0 := by
  unfold whoErr
  rw [if_pos (index_ok h h0 h1), index_ok h h2 h3]
theorem known_ok {r : SeRoom} (h : 0 < (seTruths r []).length) : knownErr r 0 = 0 := by
  unfold knownErr
  rw [if_pos rfl, if_neg (by omega)]
/-- Settled answers. -/
theorem settled_one {α : Type} {p : α → Bool} {T : List α} : settled (T.countP p) T.length = 1 ↔ ∀ t ∈ T, p t = true := by
  rw [← List.countP_eq_length]
  unfold settled
  by_cases h : T.countP p = T.length
  · rw [if_pos h]; simp [h]
  · rw [if_neg h]
    constructor
    · intro h2; split at h2 <;> simp at h2
    · intro h2; exact absurd h2 h
/-- What Knows, Told, Since tell of a room that has a truth. -/
theorem knows_is {r : SeRoom} (h : someB r = true) {u s day : Nat} (hu : u < r.writers.length) (hs : s < r.kept.length) (hd : day ≤ 9) :
    knowsOf r u s day = (settled ((seTruths r []).countP fun t => decide (dayOf r t u s ≤ day)) (seTruths r []).length, 0) := by
  obtain ⟨h0, h1⟩ := someB_iff.1 h
  have e : knowsErr r u s day = 0 := by
    unfold knowsErr
    rw [if_pos (who_ok h0 (by omega) (by omega) (by omega) (by omega)), if_pos (inB_iff.2 ⟨by omega, by omega⟩)]
    exact known_ok h1
  unfold knowsOf
  rw [if_pos e]
  rfl
theorem may_is {r : SeRoom} (h : someB r = true) {n : Nat} (hn : n < r.letters.length) : mayOf r n = (mayList r (seTruths r []) r.letters[n], 0) := by
  obtain ⟨h0, h1⟩ := someB_iff.1 h
  have e : mayErr r n = 0 := by
    unfold mayErr
    rw [index_ok h0 (by omega) (by omega)]
    exact known_ok h1
  unfold mayOf
  rw [if_pos e]
  unfold letterAt
  rw [Int.toNat_natCast, List.getElem?_eq_getElem hn]
  rfl
theorem mayList_mem {r : SeRoom} {T : List (List Int)} {x : SeLetter} {w : Int} : w ∈ mayList r T x ↔ 0 ≤ w ∧ w < r.writers.length ∧ canB r T x w = true := by
  unfold mayList
  rw [List.mem_map]
  constructor
  · rintro ⟨u, hu, rfl⟩
    obtain ⟨h1, h2⟩ := List.mem_filter.1 hu
    exact ⟨by omega, by have := List.mem_range.1 h1; omega, h2⟩
  · rintro ⟨h0, h1, h2⟩
    obtain ⟨u, rfl⟩ := Int.eq_ofNat_of_zero_le h0
    exact ⟨u, List.mem_filter.2 ⟨List.mem_range.2 (by omega), h2⟩, rfl⟩
theorem mayList_incr (r : SeRoom) (T : List (List Int)) (x : SeLetter) : incr r.writers.length (mayList r T x) := by
  refine ⟨?_, fun w hw => ?_⟩
  · unfold mayList
    rw [List.pairwise_map]
    refine (List.Pairwise.filter _ List.pairwise_lt_range).imp ?_
    intro a b h
    omega
  · have := mayList_mem.1 hw
    exact ⟨this.1, this.2.1⟩
theorem mayList_rising (r : SeRoom) (T : List (List Int)) (x : SeLetter) : rising (mayList r T x) r.writers.length = true := rising_incr (mayList_incr r T x)
end Go.Proofs.YtcgplocmncionaaGreat
namespace Go.Proofs.YtcgplocmncionaaGreat

end Go.Proofs.YtcgplocmncionaaGreat
namespace Go.Proofs.YtcgplocmncionaaGreat

/-- The lesser of days. -/
def minD (d e : Nat → Int) : Nat → Int := fun w => min (d w) (e w)
theorem relax_min (d e : Nat → Int) (x : SeLeak) : relax (minD d e) x = minD (relax d x) (relax e x) := funext fun w => by
  unfold minD relax
  simp only
  split <;> omega
theorem relaxL_min : ∀ (L : List SeLeak) (d e : Nat → Int), relaxL L (minD d e) = minD (relaxL L d) (relaxL L e)
  | [], _, _ => rfl
  | x :: L, d, e => by
    show relaxL L (relax (minD d e) x) = minD (relaxL L (relax d x)) (relaxL L (relax e x))
    rw [relax_min, relaxL_min L]
theorem rounds_min (L : List SeLeak) (d e : Nat → Int) : ∀ k, rounds L (minD d e) k = minD (rounds L d k) (rounds L e k)
  | 0 => rfl
  | k + 1 => by
    show relaxL L (rounds L (minD d e) k) = minD (relaxL L (rounds L d k)) (relaxL L (rounds L e k))
    rw [rounds_min L d e k, relaxL_min]
theorem rounds_none (L : List SeLeak) (k w : Nat) : ¬ rounds L noDay k w ≤ 9 := by
  have := rounds_ge (L := L) (d := noDay) (g := noDay) (LeD.refl _) (fun x _ => by show (10 : Int) ≤ 10 + 1; omega) k w
  have h : noDay w = 10 := rfl
  omega
theorem snoc_ind {α : Type} {P : List α → Prop} (h0 : P []) (h1 : ∀ l x, P l → P (l ++ [x])) : ∀ l, P l := fun l => by
  have : ∀ k : List α, P k.reverse := fun k => by
    induction k with
    | nil => exact h0
    | cons x k ih => rw [List.reverse_cons]; exact h1 _ x ih
  have := this l.reverse
  rwa [List.reverse_reverse] at this
theorem startDay_le (s : Nat) : ∀ (L : List SeLetter) (w : Nat), startDay L s w ≤ 10 := by
  refine snoc_ind ?_ ?_
  · intro w; exact Int.le_refl 10
  · intro L x ih w
    rw [startDay_snoc]
    unfold startOne
    have := ih w
    split <;> omega
theorem startDay_min (L : List SeLetter) (x : SeLetter) (s : Nat) : startDay (L ++ [x]) s = minD (startDay L s) (startDay [x] s) := funext fun w => by
  have e : startDay [x] s = startOne s noDay x := by rw [show [x] = [] ++ [x] from rfl, startDay_snoc]; rfl
  rw [startDay_snoc, e]
  have := startDay_le s L w
  have h : noDay w = 10 := rfl
  unfold minD startOne
  simp only [h]
  split <;> omega
/-- What comes by all letters together comes by one of them. -/
theorem rounds_one (L : List SeLeak) (s n w : Nat) : ∀ (X : List SeLetter), rounds L (startDay X s) n w ≤ 9 → ∃ x ∈ X, rounds L (startDay [x] s) n w ≤ 9 := by
  refine snoc_ind ?_ ?_
  · intro h; exact absurd h (rounds_none L n w)
  · intro X x ih h
    rw [startDay_min, rounds_min] at h
    have h : min (rounds L (startDay X s) n w) (rounds L (startDay [x] s) n w) ≤ 9 := h
    by_cases h2 : rounds L (startDay [x] s) n w ≤ 9
    · exact ⟨x, by simp, h2⟩
    · obtain ⟨y, hy, h3⟩ := ih (by omega)
      exact ⟨y, by simp [hy], h3⟩
theorem startDay_one (x : SeLetter) (s w : Nat) : startDay [x] s w = if x.writer = (w : Int) ∧ bitB x.secrets s = true then min 10 x.day else 10 := rfl
theorem startDay_no {x : SeLetter} {s : Nat} (h : x.writer = -1 ∨ bitB x.secrets s = false) : startDay [x] s = noDay := funext fun w => by
  rw [startDay_one, if_neg (fun ⟨h1, h2⟩ => by
    rcases h with h | h
    · omega
    · rw [h] at h2; cases h2)]
  rfl
end Go.Proofs.YtcgplocmncionaaGreat
namespace Go.Proofs.YtcgplocmncionaaGreat

theorem keeps_iff {r : SeRoom} {X : List SeLetter} {T : List (List Int)} {s : Nat} : keepsB r X T s = true ↔ ∀ t ∈ T, ∀ w, w < r.writers.length → bitB (keptAt r s) w = true → ¬ fromD r X t s w ≤ 9 := by
  unfold keepsB
  rw [List.all_eq_true]
  constructor
  · intro h t ht w hw hb
    have := h t ht
    unfold keepsIn at this
    rw [List.all_eq_true] at this
    have := this w (List.mem_range.2 hw)
    rwa [hb, Bool.true_and, Bool.not_eq_true', decide_eq_false_iff_not] at this
  · intro h t ht
    unfold keepsIn
    rw [List.all_eq_true]
    intro w hw
    cases hb : bitB (keptAt r s) w
    · rfl
    · rw [Bool.true_and, Bool.not_eq_true', decide_eq_false_iff_not]
      exact h t ht w (List.mem_range.1 hw) hb
theorem day_nine {r : SeRoom} {t : List Int} {w s : Nat} : dayOf r t w s ≤ 9 ↔ fromD r r.letters t s w ≤ 9 := by unfold dayOf; omega
theorem sets_below {r : SeRoom} : ∀ k, ∀ t ∈ setsTo r k, ∀ i ∈ t, 0 ≤ i ∧ i < (k : Int)
  | 0, t, ht, i, hi => by simp [setsTo] at ht; rw [ht] at hi; cases hi
  | k + 1, t, ht, i, hi => by
    obtain ⟨l, hl, h2⟩ := List.mem_flatMap.1 (show t ∈ (setsTo r k).flatMap (setStep r k) from ht)
    have ih := sets_below k l hl
    unfold setStep at h2
    rcases List.mem_append.1 h2 with h3 | h3
    · split at h3
      · cases h3
      · have : t = l := by simpa using h3
        rw [this] at hi
        have := ih i hi; omega
    · have : t = l ++ [(k : Int)] := by simpa using h3
      rw [this] at hi
      rcases List.mem_append.1 hi with hi | hi
      · have := ih i hi; omega
      · have : i = k := by simpa using hi
        omega
end Go.Proofs.YtcgplocmncionaaGreat
namespace Go.Proofs.YtcgplocmncionaaGreat
end Go.Proofs.YtcgplocmncionaaGreat
