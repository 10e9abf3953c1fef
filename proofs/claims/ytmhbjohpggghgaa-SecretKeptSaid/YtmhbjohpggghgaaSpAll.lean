/- What is proved here: plain facts of the outright statements of layer 12: rooms of which other things were heard; answers that are settled. No program. No condition. -/
/- What is proved here: plain facts of SecretTrue, SecretFewest, SecretMore, SecretDays. No program. No condition. -/
/- What is proved here: plain facts of SecretKept, and of the plans of SecretMore: the first of the best plans; what comes by all letters together comes by one of them. No program. No condition. -/
/- What is proved here: plain facts of SecretCut, SecretMay, SecretLeak. No program. No condition. -/
/- What is proved here: plain facts of the outright statements of layer 12: calls that must fail; answers, all by name. No program. No condition. -/
import Derived.Test.YtmhbjohpggghgaaSePlainB
set_option linter.unusedVariables false
set_option linter.unusedSimpArgs false
namespace Go.Proofs.Ytmhbjohpggghgaa

/-- A room is valid and has a truth. -/
def someB (r : SeRoom) : Bool := decide (seErr r = 0) && decide (0 < (seTruths r []).length)
theorem someB_iff {r : SeRoom} : someB r = true ↔ seErr r = 0 ∧ 0 < (seTruths r []).length := by unfold someB; simp

structure SeParts (r : SeRoom) : Prop where
  nw : r.writers.length ≤ 4
  w : ∀ i, i < r.writers.length → writerErr r i = 0
  nk : r.kept.length ≤ 3
  k : ∀ i, i < r.kept.length → keptErr r i = 0
  nl : r.leaks.length ≤ 4
  l : ∀ i, i < r.leaks.length → leakErr r i = 0
  nt : r.letters.length ≤ 4
  t : ∀ i, i < r.letters.length → letterErr r i = 0
  nh : r.heard.length ≤ 3
  h : ∀ i, i < r.heard.length → heardErr r i = 0
theorem seParts {r : SeRoom} : seErr r = 0 ↔ SeParts r := by
  constructor
  · intro h
    unfold seErr seCheck at h
    obtain ⟨a1, b1, h⟩ := checkPart_zero h
    obtain ⟨a2, b2, h⟩ := checkPart_zero h
    obtain ⟨a3, b3, h⟩ := checkPart_zero h
    obtain ⟨a4, b4, h⟩ := checkPart_zero h
    obtain ⟨a5, b5, h⟩ := checkPart_zero h
    exact ⟨a1, b1, a2, b2, a3, b3, a4, b4, a5, b5⟩
  · rintro ⟨a1, b1, a2, b2, a3, b3, a4, b4, a5, b5⟩
    unfold seErr seCheck
    rw [checkPart_ok a1 b1, checkPart_ok a2 b2, checkPart_ok a3 b3, checkPart_ok a4 b4, checkPart_ok a5 b5]
theorem heard_all {r : SeRoom} : (∀ i, i < r.heard.length → heardErr r i = 0) ↔ ∀ x ∈ r.heard, heardErrOf r x = 0 := by
  constructor
  · intro h x hx
    obtain ⟨i, hi, rfl⟩ := List.getElem_of_mem hx
    have := h i hi
    unfold heardErr at this
    rwa [List.getElem?_eq_getElem hi] at this
  · intro h i hi
    unfold heardErr
    rw [List.getElem?_eq_getElem hi]
    exact h _ (List.getElem_mem hi)
/-- The room with other things heard. -/
def withHeard (r : SeRoom) (H : List SeHeard) : SeRoom := { r with heard := H }
theorem withHeard_err {r : SeRoom} (h : seErr r = 0) {H : List SeHeard} (hl : H.length ≤ 3) (hx : ∀ x ∈ H, heardErrOf r x = 0) : seErr (withHeard r H) = 0 := by
  have h := seParts.1 h
  exact seParts.2 ⟨h.nw, h.w, h.nk, h.k, h.nl, h.l, h.nt, h.t, hl, heard_all.2 hx⟩
theorem setsTo_same {r r' : SeRoom} (h : r'.leaks = r.leaks) : ∀ k, setsTo r' k = setsTo r k
  | 0 => rfl
  | k + 1 => by
    show (setsTo r' k).flatMap (setStep r' k) = (setsTo r k).flatMap (setStep r k)
    rw [setsTo_same h k]
    have : setStep r' k = setStep r k := by funext l; unfold setStep sureAt; rw [h]
    rw [this]
theorem seSets_same {r r' : SeRoom} (h : r'.leaks = r.leaks) : seSets r' = seSets r := by unfold seSets; rw [h]; exact setsTo_same h _
theorem seSets_heard (r : SeRoom) (H : List SeHeard) : seSets (withHeard r H) = seSets r := seSets_same rfl
/-- A set of leaks is a truth just if all that was heard is so. -/
theorem seTrue_iff {r : SeRoom} {but t : List Int} : seTrue r but t = true ↔ ∀ k (h : k < r.heard.length), hasB but k = false → soB r r.heard[k] t = true := by
  unfold seTrue
  rw [List.all_eq_true]
  constructor
  · intro h k hk hb
    have := h k (List.mem_range.2 hk)
    unfold soAt at this
    rw [hb, List.getElem?_eq_getElem hk] at this
    simpa using this
  · intro h k hk
    have hk := List.mem_range.1 hk
    unfold soAt
    cases hb : hasB but k
    · rw [List.getElem?_eq_getElem hk]
      simpa using h k hk hb
    · rfl
theorem seTrue_nil {r : SeRoom} {t : List Int} : seTrue r [] t = true ↔ ∀ x ∈ r.heard, soB r x t = true := by
  rw [seTrue_iff]
  constructor
  · intro h x hx
    obtain ⟨i, hi, rfl⟩ := List.getElem_of_mem hx
    exact h i hi rfl
  · intro h k hk _
    exact h _ (List.getElem_mem hk)
theorem truth_iff {r : SeRoom} {t : List Int} : t ∈ seTruths r [] ↔ t ∈ seSets r ∧ ∀ x ∈ r.heard, soB r x t = true := by
  unfold seTruths
  rw [List.mem_filter, seTrue_nil]
theorem truths_nil (r : SeRoom) (h : r.heard = []) : seTruths r [] = seSets r := by
  unfold seTruths
  rw [List.filter_eq_self]
  intro t _
  rw [seTrue_nil, h]
  intro x hx; cases hx

/-- The errors of calls whose numbers are right. -/
theorem index_ok {r : SeRoom} (h : seErr r = 0) {n below : Int} (h0 : 0 ≤ n) (h1 : n < below) : indexErr r n below = 0 := by
  unfold indexErr
  rw [if_pos h, if_pos (inB_iff.2 ⟨h0, by omega⟩)]
theorem index_out {r : SeRoom} {n below : Int} (h1 : ¬ (0 ≤ n ∧ n < below)) : indexErr r n below ≠ 0 := by
  unfold indexErr
  by_cases h : seErr r = 0
  · rw [if_pos h, if_neg (by rw [inB_iff]; omega)]; decide
  · rw [if_neg h]; exact h
theorem index_bad {r : SeRoom} (h : seErr r ≠ 0) (n below : Int) : indexErr r n below = seErr r := by unfold indexErr; rw [if_neg h]
theorem who_ok {r : SeRoom} (h : seErr r = 0) {u s : Int} (h0 : 0 ≤ u) (h1 : u < r.writers.length) (h2 : 0 ≤ s) (h3 : s < r.kept.length) : whoErr r u s = 0 := by
  unfold whoErr
  rw [if_pos (index_ok h h0 h1), index_ok h h2 h3]
theorem known_ok {r : SeRoom} (h : 0 < (seTruths r []).length) : knownErr r 0 = 0 := by
  unfold knownErr
  rw [if_pos rfl, if_neg (by omega)]
theorem known_zero {r : SeRoom} (h : (seTruths r []).length = 0) {e : Int} (he : e = 0) : knownErr r e = 8 := by
  unfold knownErr
  rw [if_pos he, if_pos h]
theorem known_bad {r : SeRoom} {e : Int} (h : e ≠ 0) : knownErr r e ≠ 0 := by unfold knownErr; rw [if_neg h]; exact h
theorem known_err {r : SeRoom} {e : Int} (h : seErr r = 0 → 0 < (seTruths r []).length → e ≠ 0) (h2 : seErr r ≠ 0 → e ≠ 0) : knownErr r e ≠ 0 := by
  by_cases h0 : e = 0
  · by_cases hr : seErr r = 0
    · by_cases ht : (seTruths r []).length = 0
      · rw [known_zero ht h0]; decide
      · exact absurd h0 (h hr (by omega))
    · exact absurd h0 (h2 hr)
  · exact known_bad h0
theorem none_err {r : SeRoom} (h : someB r = false) {e : Int} (h2 : seErr r ≠ 0 → e ≠ 0) : knownErr r e ≠ 0 :=
  known_err (fun h0 h1 => by rw [someB_iff.2 ⟨h0, h1⟩] at h; cases h) h2

/-- Settled answers. -/
theorem settled_one {α : Type} {p : α → Bool} {T : List α} : settled (T.countP p) T.length = 1 ↔ ∀ t ∈ T, p t = true := by
  rw [← List.countP_eq_length]
  unfold settled
  by_cases h : T.countP p = T.length
  · rw [if_pos h]; simp [h]
  · rw [if_neg h]
    constructor
    · intro h2; split at h2 <;> simp at h2
    · intro h2; exact absurd h2 h
theorem settled_two {α : Type} {p : α → Bool} {T : List α} (h0 : 0 < T.length) : settled (T.countP p) T.length = 2 ↔ ∀ t ∈ T, p t = false := by
  have e : (∀ t ∈ T, p t = false) ↔ T.countP p = 0 := by rw [List.countP_eq_zero]; simp
  rw [e]
  unfold settled
  by_cases h : T.countP p = T.length
  · rw [if_pos h]
    constructor
    · intro h2; simp at h2
    · intro h2; omega
  · rw [if_neg h]
    by_cases h2 : T.countP p = 0
    · rw [if_pos h2]; simp [h2]
    · rw [if_neg h2]; simp [h2]
theorem settled_three (a b : Nat) : settled a b = 0 ∨ settled a b = 1 ∨ settled a b = 2 := by
  unfold settled
  split
  · exact .inr (.inl rfl)
  · split
    · exact .inr (.inr rfl)
    · exact .inl rfl
/-- Fewer truths: what is settled stays so. -/
theorem settled_sub {α : Type} {p : α → Bool} {T T' : List α} (h : ∀ t ∈ T', t ∈ T) (h0 : 0 < T'.length) (hm : settled (T.countP p) T.length ≠ 0) : settled (T'.countP p) T'.length = settled (T.countP p) T.length := by
  have hT : 0 < T.length := List.length_pos_of_mem (h _ (List.getElem_mem h0))
  rcases settled_three (T.countP p) T.length with e | e | e
  · exact absurd e hm
  · rw [e]; rw [settled_one] at e ⊢; exact fun t ht => e t (h t ht)
  · rw [e]; rw [settled_two hT] at e; rw [settled_two h0]; exact fun t ht => e t (h t ht)

/-- What Knows, Told, Since tell of a room that has a truth. -/
theorem knows_is {r : SeRoom} (h : someB r = true) {u s day : Nat} (hu : u < r.writers.length) (hs : s < r.kept.length) (hd : day ≤ 9) :
    knowsOf r u s day = (settled ((seTruths r []).countP fun t => decide (dayOf r t u s ≤ day)) (seTruths r []).length, 0) := by
  obtain ⟨h0, h1⟩ := someB_iff.1 h
  have e : knowsErr r u s day = 0 := by
    unfold knowsErr
    rw [if_pos (who_ok h0 (by omega) (by omega) (by omega) (by omega)), if_pos (inB_iff.2 ⟨by omega, by omega⟩)]
    exact known_ok h1
  unfold knowsOf
  rw [if_pos e]
  rfl
theorem told_is {r : SeRoom} (h : someB r = true) {n : Nat} (hn : n < r.leaks.length) :
    toldOf r n = (settled ((seTruths r []).countP fun t => hasB t n) (seTruths r []).length, 0) := by
  obtain ⟨h0, h1⟩ := someB_iff.1 h
  have e : toldErr r n = 0 := by
    unfold toldErr
    rw [index_ok h0 (by omega) (by omega)]
    exact known_ok h1
  unfold toldOf
  rw [if_pos e]
theorem since_is {r : SeRoom} (h : someB r = true) {u s : Nat} (hu : u < r.writers.length) (hs : s < r.kept.length) :
    ∃ lo hi n, sinceOf r u s = ((lo, hi), settled n (seTruths r []).length, 0) ∧ DaysL (fun t => dayOf r t u s) (seTruths r []) n lo hi := by
  obtain ⟨h0, h1⟩ := someB_iff.1 h
  have e : sinceErr r u s = 0 := by
    unfold sinceErr
    rw [who_ok h0 (by omega) (by omega) (by omega) (by omega)]
    exact known_ok h1
  have hd := daysTo_spec (fun t => dayOf r t u s) (seTruths r []).reverse
  refine ⟨(daysTo (fun t => dayOf r t u s) (seTruths r []).reverse).2.1, (daysTo (fun t => dayOf r t u s) (seTruths r []).reverse).2.2, (daysTo (fun t => dayOf r t u s) (seTruths r []).reverse).1, ?_, ?_⟩
  · unfold sinceOf
    rw [if_pos e]
    rfl
  · obtain ⟨d1, d2, d3⟩ := hd
    refine ⟨d1.trans (List.countP_reverse ..), d2, fun hn => ?_⟩
    obtain ⟨⟨a, ha, ha9⟩, ⟨b, hb, hb9⟩, hall⟩ := d3 hn
    exact ⟨⟨a, List.mem_reverse.1 ha, ha9⟩, ⟨b, List.mem_reverse.1 hb, hb9⟩, fun x hx => hall x (List.mem_reverse.2 hx)⟩
theorem may_is {r : SeRoom} (h : someB r = true) {n : Nat} (hn : n < r.letters.length) : mayOf r n = (mayList r (seTruths r []) r.letters[n], 0) := by
  obtain ⟨h0, h1⟩ := someB_iff.1 h
  have e : mayErr r n = 0 := by
    unfold mayErr
    rw [index_ok h0 (by omega) (by omega)]
    exact known_ok h1
  unfold mayOf
  rw [if_pos e]
  unfold letterAt
  rw [Int.toNat_natCast, List.getElem?_eq_getElem hn]
  rfl
theorem mayList_mem {r : SeRoom} {T : List (List Int)} {x : SeLetter} {w : Int} : w ∈ mayList r T x ↔ 0 ≤ w ∧ w < r.writers.length ∧ canB r T x w = true := by
  unfold mayList
  rw [List.mem_map]
  constructor
  · rintro ⟨u, hu, rfl⟩
    obtain ⟨h1, h2⟩ := List.mem_filter.1 hu
    exact ⟨by omega, by have := List.mem_range.1 h1; omega, h2⟩
  · rintro ⟨h0, h1, h2⟩
    obtain ⟨u, rfl⟩ := Int.eq_ofNat_of_zero_le h0
    exact ⟨u, List.mem_filter.2 ⟨List.mem_range.2 (by omega), h2⟩, rfl⟩
theorem mayList_incr (r : SeRoom) (T : List (List Int)) (x : SeLetter) : incr r.writers.length (mayList r T x) := by
  refine ⟨?_, fun w hw => ?_⟩
  · unfold mayList
    rw [List.pairwise_map]
    refine (List.Pairwise.filter _ List.pairwise_lt_range).imp ?_
    intro a b h
    omega
  · have := mayList_mem.1 hw
    exact ⟨this.1, this.2.1⟩
theorem mayList_rising (r : SeRoom) (T : List (List Int)) (x : SeLetter) : rising (mayList r T x) r.writers.length = true := rising_incr (mayList_incr r T x)
theorem mayList_len (r : SeRoom) (T : List (List Int)) (x : SeLetter) : (mayList r T x).length ≤ r.writers.length := incr_len (mayList_incr r T x)
/-- 'subset'. -/
def subB (a b : List Int) : Bool := a.all (hasB b)
theorem subB_iff {a b : List Int} : subB a b = true ↔ ∀ x ∈ a, x ∈ b := by
  unfold subB
  rw [List.all_eq_true]
  exact ⟨fun h x hx => hasB_iff.1 (h x hx), fun h x hx => hasB_iff.2 (h x hx)⟩
theorem can_sub {r : SeRoom} {T T' : List (List Int)} (h : ∀ t ∈ T', t ∈ T) {x : SeLetter} {w : Int} (hc : canB r T x w = true) : canB r T' x w = true := by
  unfold canB at hc ⊢
  rw [List.all_eq_true] at hc ⊢
  intro s hs
  have := hc s hs
  rw [Bool.or_eq_true] at this ⊢
  rcases this with h1 | h1
  · exact .inl h1
  · refine .inr ?_
    unfold keepsB at h1 ⊢
    rw [List.all_eq_true] at h1 ⊢
    exact fun t ht => h1 t (h t ht)
theorem can_heard (r : SeRoom) (H : List SeHeard) (T : List (List Int)) (x : SeLetter) (w : Int) : canB (withHeard r H) T x w = canB r T x w := rfl
theorem day_heard (r : SeRoom) (H : List SeHeard) (t : List Int) (u s : Nat) : dayOf (withHeard r H) t u s = dayOf r t u s := rfl
theorem so_heard (r : SeRoom) (H : List SeHeard) (x : SeHeard) (t : List Int) : soB (withHeard r H) x t = soB r x t := rfl
end Go.Proofs.Ytmhbjohpggghgaa
namespace Go.Proofs.Ytmhbjohpggghgaa

/-- SecretTrue: what was heard, as some leaks make it. -/
def hearOne (r : SeRoom) (l : List Int) (h : SeHeard) : SeHeard := { h with knew := decide (dayOf r l h.writer.toNat h.secret.toNat ≤ h.day) }
def hearAs (r : SeRoom) (l : List Int) : SeRoom := withHeard r (r.heard.map (hearOne r l))
theorem hearAs_err {r : SeRoom} (h : seErr r = 0) (l : List Int) : seErr (hearAs r l) = 0 := by
  have hp := seParts.1 h
  refine withHeard_err h (by rw [List.length_map]; exact hp.nh) fun x hx => ?_
  obtain ⟨y, hy, rfl⟩ := List.mem_map.1 hx
  exact heard_all.1 hp.h y hy
theorem hearAs_truth {r : SeRoom} {l : List Int} (hl : l ∈ seSets r) : l ∈ seTruths (hearAs r l) [] := by
  rw [truth_iff]
  refine ⟨by unfold hearAs; rw [seSets_heard]; exact hl, fun x hx => ?_⟩
  obtain ⟨y, _, rfl⟩ := List.mem_map.1 hx
  show (decide _ == decide _) = true
  exact beq_self_eq_true _
theorem hearAs_some {r : SeRoom} (h : seErr r = 0) {l : List Int} (hl : l ∈ seSets r) : someB (hearAs r l) = true :=
  someB_iff.2 ⟨hearAs_err h l, List.length_pos_of_mem (hearAs_truth hl)⟩
theorem some_wrong {r : SeRoom} (h : someB r = true) : seWrongOf r = ([], 0) := by
  obtain ⟨h0, h1⟩ := someB_iff.1 h
  have hf := (seWrong_first h0).2 [] ⟨incr_nil _, by unfold wrongSo; simpa using h1⟩
  refine Prod.ext ?_ (seWrong_err h0)
  rcases hf with e | e
  · exact e.symm
  · unfold fewer at e
    split at e
    · have : (seWrongOf r).1.length = 0 := by simpa using ‹(seWrongOf r).1.length = ([] : List Int).length›
      exact List.eq_nil_of_length_eq_zero this
    · simp at e
theorem true_told {r : SeRoom} (h : seErr r = 0) {l : List Int} (hl : l ∈ seSets r) {n : Nat} (hn : n < r.leaks.length) :
    ∃ m, toldOf (hearAs r l) n = (m, 0) ∧ (hasB l n = true → m ≠ 2) ∧ (hasB l n = false → m ≠ 1) := by
  have hs := hearAs_some h hl
  have ht := hearAs_truth hl
  refine ⟨_, told_is hs (show n < (hearAs r l).leaks.length from hn), fun hb e => ?_, fun hb e => ?_⟩
  · have := (settled_two (someB_iff.1 hs).2).1 e l ht
    rw [hb] at this; cases this
  · have := settled_one.1 e l ht
    rw [hb] at this; cases this
theorem true_knows {r : SeRoom} (h : seErr r = 0) {l : List Int} (hl : l ∈ seSets r) {u s day : Nat} (hu : u < r.writers.length) (hs : s < r.kept.length) (hd : day ≤ 9) :
    ∃ m, knowsOf (hearAs r l) u s day = (m, 0) ∧ (dayOf r l u s ≤ day → m ≠ 2) ∧ ((day : Int) < dayOf r l u s → m ≠ 1) := by
  have hso := hearAs_some h hl
  have ht := hearAs_truth hl
  refine ⟨_, knows_is hso (show u < (hearAs r l).writers.length from hu) (show s < (hearAs r l).kept.length from hs) hd, fun hb e => ?_, fun hb e => ?_⟩
  · have h2 := (settled_two (someB_iff.1 hso).2).1 e l ht
    have : ¬ dayOf r l u s ≤ day := of_decide_eq_false h2
    omega
  · have h2 := settled_one.1 e l ht
    have : dayOf r l u s ≤ day := of_decide_eq_true h2
    omega
theorem true_since {r : SeRoom} (h : seErr r = 0) {l : List Int} (hl : l ∈ seSets r) {u s : Nat} (hu : u < r.writers.length) (hs : s < r.kept.length) :
    ∃ lo hi m, sinceOf (hearAs r l) u s = ((lo, hi), m, 0) ∧ (dayOf r l u s ≤ 9 → m ≠ 2 ∧ lo ≤ dayOf r l u s ∧ dayOf r l u s ≤ hi) ∧ (9 < dayOf r l u s → m ≠ 1) := by
  have hso := hearAs_some h hl
  have ht := hearAs_truth hl
  obtain ⟨lo, hi, n, h1, h2⟩ := since_is hso (show u < (hearAs r l).writers.length from hu) (show s < (hearAs r l).kept.length from hs)
  refine ⟨lo, hi, _, h1, fun hb => ?_, fun hb e => ?_⟩
  · have hn := h2.pos l ht hb
    refine ⟨fun e => ?_, (h2.2.2 hn).2.2 l ht hb⟩
    rw [h2.1, settled_two (someB_iff.1 hso).2] at e
    have := e l ht
    have : ¬ dayOf r l u s ≤ 9 := of_decide_eq_false this
    omega
  · rw [h2.1, settled_one] at e
    have := e l ht
    have : dayOf r l u s ≤ 9 := of_decide_eq_true this
    omega
theorem sets_at {r : SeRoom} (x : Nat) : x % (seSets r).length < (seSets r).length := Nat.mod_lt _ (sets_pos r _)

/-- SecretFewest. -/
theorem but_heard (r : SeRoom) (l : List Int) : butRoom r l = withHeard r ((List.range r.heard.length).filterMap fun (i : Nat) => if hasB l (i : Int) then none else r.heard[i]?) := rfl
theorem but_mem {r : SeRoom} {l : List Int} {x : SeHeard} : x ∈ (butRoom r l).heard ↔ ∃ k, ∃ h : k < r.heard.length, hasB l k = false ∧ r.heard[k] = x := by
  show x ∈ (List.range r.heard.length).filterMap _ ↔ _
  rw [List.mem_filterMap]
  constructor
  · rintro ⟨k, hk, h⟩
    have hk := List.mem_range.1 hk
    cases hb : hasB l (k : Int)
    · rw [hb] at h
      rw [List.getElem?_eq_getElem hk] at h
      exact ⟨k, hk, hb, by simpa using h⟩
    · rw [hb] at h; cases h
  · rintro ⟨k, hk, hb, rfl⟩
    exact ⟨k, List.mem_range.2 hk, by rw [hb, List.getElem?_eq_getElem hk]; rfl⟩
theorem but_err {r : SeRoom} (h : seErr r = 0) (l : List Int) : seErr (butRoom r l) = 0 := by
  have hp := seParts.1 h
  rw [but_heard]
  refine withHeard_err h ?_ fun x hx => ?_
  · refine Nat.le_trans (List.length_filterMap_le _ _) ?_
    rw [List.length_range]; exact hp.nh
  · obtain ⟨k, hk, _, rfl⟩ := but_mem.1 (show x ∈ (butRoom r l).heard from hx)
    exact heard_all.1 hp.h _ (List.getElem_mem hk)
theorem but_truths (r : SeRoom) (l : List Int) : seTruths (butRoom r l) [] = seTruths r l := by
  unfold seTruths
  rw [but_heard, seSets_heard, ← but_heard]
  apply List.filter_congr
  intro t _
  rw [Bool.eq_iff_iff, seTrue_nil, seTrue_iff]
  constructor
  · intro h k hk hb
    exact h _ (but_mem.2 ⟨k, hk, hb, rfl⟩)
  · intro h x hx
    obtain ⟨k, hk, hb, rfl⟩ := but_mem.1 hx
    exact h k hk hb
theorem but_some {r : SeRoom} (h : seErr r = 0) (l : List Int) : someB (butRoom r l) = wrongSo r l := by
  unfold someB wrongSo
  rw [but_truths, but_err h]
  rfl
theorem fewest_is {r : SeRoom} (h : seErr r = 0) {o : List Int} (ho : incr r.heard.length o) :
    ∃ l, seWrongOf r = (l, 0) ∧ incr r.heard.length l ∧ someB (butRoom r l) = true ∧ (someB (butRoom r o) = true → fewer o l = false) := by
  have hf := seWrong_first h
  refine ⟨(seWrongOf r).1, Prod.ext rfl (seWrong_err h), hf.1.1, by rw [but_some h]; exact hf.1.2, fun hs => ?_⟩
  rw [but_some h] at hs
  rcases hf.2 o ⟨ho, hs⟩ with e | e
  · rw [e]; exact fewer_irrefl _
  · exact fewer_asymm e

/-- SecretMore: with one more thing heard. -/
def moreRoom (r : SeRoom) (h : SeHeard) : SeRoom := withHeard r (r.heard ++ [h])
theorem more_sub {r : SeRoom} {h : SeHeard} : ∀ t ∈ seTruths (moreRoom r h) [], t ∈ seTruths r [] := fun t ht => by
  rw [truth_iff] at ht ⊢
  refine ⟨by have := ht.1; unfold moreRoom at this; rwa [seSets_heard] at this, fun x hx => ?_⟩
  exact ht.2 x (List.mem_append_left _ hx)
theorem more_knows {r : SeRoom} {h : SeHeard} (hr : someB r = true) (hm : someB (moreRoom r h) = true) {u s day : Nat} (hu : u < r.writers.length) (hs : s < r.kept.length) (hd : day ≤ 9) :
    ∃ m n, knowsOf r u s day = (m, 0) ∧ knowsOf (moreRoom r h) u s day = (n, 0) ∧ (m ≠ 0 → n = m) :=
  ⟨_, _, knows_is hr hu hs hd, knows_is hm (show u < (moreRoom r h).writers.length from hu) (show s < (moreRoom r h).kept.length from hs) hd, fun hne => settled_sub more_sub (someB_iff.1 hm).2 hne⟩
theorem more_told {r : SeRoom} {h : SeHeard} (hr : someB r = true) (hm : someB (moreRoom r h) = true) {i : Nat} (hi : i < r.leaks.length) :
    ∃ m n, toldOf r i = (m, 0) ∧ toldOf (moreRoom r h) i = (n, 0) ∧ (m ≠ 0 → n = m) :=
  ⟨_, _, told_is hr hi, told_is hm (show i < (moreRoom r h).leaks.length from hi), fun hne => settled_sub more_sub (someB_iff.1 hm).2 hne⟩
theorem more_may {r : SeRoom} {h : SeHeard} (hr : someB r = true) (hm : someB (moreRoom r h) = true) {i : Nat} (hi : i < r.letters.length) :
    ∃ a b, mayOf r i = (a, 0) ∧ mayOf (moreRoom r h) i = (b, 0) ∧ subB a b = true ∧ a.length ≤ r.writers.length ∧ b.length ≤ r.writers.length := by
  refine ⟨_, _, may_is hr hi, may_is hm (show i < (moreRoom r h).letters.length from hi), subB_iff.2 fun w hw => ?_, mayList_len _ _ _, mayList_len _ _ _⟩
  obtain ⟨h1, h2, h3⟩ := mayList_mem.1 hw
  exact mayList_mem.2 ⟨h1, h2, can_sub more_sub h3⟩
theorem more_writers {r : SeRoom} {h : SeHeard} (hm : someB (moreRoom r h) = true) : 0 < r.writers.length ∧ 0 < r.kept.length := by
  have hv := seValid_of (someB_iff.1 hm).1
  have hl : r.heard.length < (moreRoom r h).heard.length := by show _ < (r.heard ++ [h]).length; simp
  have hh := hv.heard r.heard.length hl
  have e1 : (moreRoom r h).writers.length = r.writers.length := rfl
  have e2 : (moreRoom r h).kept.length = r.kept.length := rfl
  omega

/-- SecretDays. -/
theorem days_knows {r : SeRoom} (hr : someB r = true) {u s a b : Nat} (hu : u < r.writers.length) (hs : s < r.kept.length) (hab : a ≤ b) (hb : b ≤ 9) :
    ∃ m n, knowsOf r u s a = (m, 0) ∧ knowsOf r u s b = (n, 0) ∧ (m = 1 → n = 1) ∧ (n = 2 → m = 2) := by
  have h0 := (someB_iff.1 hr).2
  refine ⟨_, _, knows_is hr hu hs (by omega), knows_is hr hu hs hb, fun e => ?_, fun e => ?_⟩
  · rw [settled_one] at e ⊢
    intro t ht
    have : dayOf r t u s ≤ a := of_decide_eq_true (e t ht)
    exact decide_eq_true (by omega)
  · rw [settled_two h0] at e ⊢
    intro t ht
    have : ¬ dayOf r t u s ≤ b := of_decide_eq_false (e t ht)
    exact decide_eq_false (by omega)
theorem days_since {r : SeRoom} (hr : someB r = true) {u s a : Nat} (hu : u < r.writers.length) (hs : s < r.kept.length) (ha : a ≤ 9) :
    ∃ lo hi how m, sinceOf r u s = ((lo, hi), how, 0) ∧ knowsOf r u s 9 = (how, 0) ∧ knowsOf r u s a = (m, 0) ∧ (m = 1 → hi ≤ a) ∧ (how ≠ 2 → (a : Int) < lo → m = 2) := by
  have h0 := (someB_iff.1 hr).2
  obtain ⟨lo, hi, n, h1, h2⟩ := since_is hr hu hs
  have e9 := knows_is hr hu hs (day := 9) (Nat.le_refl 9)
  have hn : n = (seTruths r []).countP fun t => decide (dayOf r t u s ≤ ((9 : Nat) : Int)) := h2.1
  rw [← hn] at e9
  refine ⟨lo, hi, _, _, h1, e9, knows_is hr hu hs ha, fun e => ?_, fun hne hl => ?_⟩
  · rw [settled_one] at e
    by_cases hz : n = 0
    · have := (h2.2.1 hz).2; omega
    · obtain ⟨_, ⟨t, ht, _, e2⟩, _⟩ := h2.2.2 hz
      have : dayOf r t u s ≤ a := of_decide_eq_true (e t ht)
      have e2 : dayOf r t u s = hi := e2
      omega
  · rw [settled_two h0]
    intro t ht
    by_cases h9 : dayOf r t u s ≤ 9
    · have hz := h2.pos t ht h9
      have hx : lo ≤ dayOf r t u s := ((h2.2.2 hz).2.2 t ht h9).1
      exact decide_eq_false (by omega)
    · exact decide_eq_false (by omega)
/-- A sure leak is in each set. -/
theorem sets_sure {r : SeRoom} {i : Nat} (hs : sureAt r i = true) : ∀ k, i < k → ∀ t ∈ setsTo r k, (i : Int) ∈ t
  | 0, h, _, _ => absurd h (Nat.not_lt_zero i)
  | k + 1, h, t, ht => by
    obtain ⟨l, hl, h2⟩ := List.mem_flatMap.1 (show t ∈ (setsTo r k).flatMap (setStep r k) from ht)
    unfold setStep at h2
    by_cases e : i = k
    · subst e
      rw [hs] at h2
      have : t = l ++ [(i : Int)] := by simpa using h2
      rw [this]; simp
    · have hm := sets_sure hs k (by omega) l hl
      rcases List.mem_append.1 h2 with h3 | h3
      · split at h3
        · cases h3
        · have : t = l := by simpa using h3
          rw [this]; exact hm
      · have : t = l ++ [(k : Int)] := by simpa using h3
        rw [this]; simp [hm]
theorem leaksOf_mem {r : SeRoom} {t : List Int} {i : Nat} (hi : i < r.leaks.length) (h : (i : Int) ∈ t) : r.leaks[i] ∈ leaksOf r t := by
  unfold leaksOf
  rw [List.mem_filterMap]
  exact ⟨(i : Int), h, by rw [Int.toNat_natCast, List.getElem?_eq_getElem hi]⟩
theorem day_next {r : SeRoom} (hv : SeValid r) {t : List Int} {x : SeLeak} (hx : x ∈ leaksOf r t) (s : Nat) : dayOf r t x.dst.toNat s ≤ dayOf r t x.src.toNat s + 1 := by
  have hd : Days (startDay r.letters s) := startDay_days s fun x hx => by
    obtain ⟨i, hi, rfl⟩ := List.getElem_of_mem hx
    exact (hv.letters i hi).1
  have := rounds_stable (L := leaksOf r t) (d := startDay r.letters s) (n := r.writers.length) (fun x hx => ⟨leaksOf_src hv t x hx, leaksOf_dst hv t x hx⟩) (fun w => (hd w).1) x hx
  unfold dayOf fromD
  omega
theorem days_leak {r : SeRoom} (hr : someB r = true) {i s day : Nat} (hi : i < r.leaks.length) (hs : s < r.kept.length) (hd : day ≤ 8) :
    ∃ k l, knowsOf r r.leaks[i].src s day = (k, 0) ∧ knowsOf r r.leaks[i].dst s ((day : Int) + 1) = (l, 0) ∧ (r.leaks[i].sure = true → (k = 1 → l = 1) ∧ (k ≠ 2 → l ≠ 2)) := by
  obtain ⟨h0, h1⟩ := someB_iff.1 hr
  have hv := seValid_of h0
  obtain ⟨v1, v2, v3, v4⟩ := hv.leaks i hi
  obtain ⟨u, hu⟩ := Int.eq_ofNat_of_zero_le v1
  obtain ⟨v, hvv⟩ := Int.eq_ofNat_of_zero_le v3
  have key : r.leaks[i].sure = true → ∀ t ∈ seTruths r [], dayOf r t v s ≤ dayOf r t u s + 1 := fun hsu t ht => by
    have ht2 := (truth_iff.1 ht).1
    have hm := sets_sure (i := i) (by unfold sureAt; rw [List.getElem?_eq_getElem hi]; exact hsu) _ hi t ht2
    have := day_next hv (leaksOf_mem hi hm) s
    rw [hu, hvv] at this
    simpa using this
  rw [hu, hvv]
  have e2 : knowsOf r (v : Int) s ((day : Int) + 1) = _ := knows_is hr (u := v) (s := s) (day := day + 1) (by omega) hs (by omega)
  refine ⟨_, _, knows_is hr (by omega) hs (by omega), e2, fun hsu => ⟨fun e => ?_, fun e e' => e ?_⟩⟩
  · rw [settled_one] at e ⊢
    intro t ht
    have h3 : dayOf r t u s ≤ day := of_decide_eq_true (e t ht)
    have h4 := key hsu t ht
    exact decide_eq_true (by omega)
  · rw [settled_two h1] at e' ⊢
    intro t ht
    have h3 : ¬ dayOf r t v s ≤ ((day + 1 : Nat) : Int) := of_decide_eq_false (e' t ht)
    have h4 := key hsu t ht
    exact decide_eq_false (by omega)
end Go.Proofs.Ytmhbjohpggghgaa
namespace Go.Proofs.Ytmhbjohpggghgaa

theorem before_snoc (p : List Int) {a b : Int} (h : a ≠ b) (h2 : b = -1 ∨ (a ≠ -1 ∧ a < b)) : planBefore (p ++ [a]) (p ++ [b]) = true := by
  induction p with
  | nil =>
    show planBefore [a] [b] = true
    rw [planBefore, if_neg h]
    simp
    omega
  | cons x p ih =>
    show planBefore (x :: (p ++ [a])) (x :: (p ++ [b])) = true
    rw [planBefore, if_pos rfl, ih]
theorem before_longer : ∀ {p q : List Int}, planBefore p q = true → ∀ a b, planBefore (p ++ a) (q ++ b) = true
  | [], _, h, _, _ => by simp [planBefore] at h
  | _ :: _, [], h, _, _ => by simp [planBefore] at h
  | x :: xs, y :: ys, h, a, b => by
    show planBefore (x :: (xs ++ a)) (y :: (ys ++ b)) = true
    rw [planBefore] at h ⊢
    by_cases e : x = y
    · rw [if_pos e] at h ⊢; exact before_longer h a b
    · rw [if_neg e] at h ⊢; exact h
theorem before_asymm : ∀ {p q : List Int}, planBefore p q = true → planBefore q p = false
  | [], _, h => by simp [planBefore] at h
  | _ :: _, [], h => by simp [planBefore] at h
  | x :: xs, y :: ys, h => by
    rw [planBefore] at h ⊢
    by_cases e : x = y
    · rw [if_pos e] at h; rw [if_pos e.symm]; exact before_asymm h
    · rw [if_neg e] at h; rw [if_neg (fun h => e h.symm)]
      simp at h ⊢
      omega
theorem before_irrefl : ∀ p : List Int, planBefore p p = false
  | [] => rfl
  | x :: p => by rw [planBefore, if_pos rfl]; exact before_irrefl p
theorem plans_sorted (r : SeRoom) : ∀ k, (plansTo r k).Pairwise fun a b => planBefore a b = true
  | 0 => List.pairwise_singleton _ _
  | k + 1 => by
    show ((plansTo r k).flatMap (planStep r)).Pairwise _
    rw [List.pairwise_flatMap]
    refine ⟨fun p _ => ?_, (plans_sorted r k).imp fun {a b} hab x hx y hy => ?_⟩
    · unfold planStep
      rw [List.pairwise_append]
      refine ⟨?_, List.pairwise_singleton _ _, fun a ha b hb => ?_⟩
      · rw [List.pairwise_map]
        refine List.pairwise_lt_range.imp fun {a b} h => before_snoc p (by omega) (.inr ⟨by omega, by omega⟩)
      · obtain ⟨w, _, rfl⟩ := List.mem_map.1 ha
        have : b = p ++ [-1] := by simpa using hb
        rw [this]
        exact before_snoc p (by omega) (.inl rfl)
    · obtain ⟨v, rfl, _⟩ := planStep_mem hx
      obtain ⟨w, rfl, _⟩ := planStep_mem hy
      exact before_longer hab _ _
/-- The best of a list of plans. -/
def BestOf (r : SeRoom) (T L : List (List Int)) : Option (List Int) → Prop
  | none => ∀ q ∈ L, fitsB r T q = false
  | some p => p ∈ L ∧ fitsB r T p = true ∧ ∀ q ∈ L, fitsB r T q = true → waitingOf p < waitingOf q ∨ (waitingOf p = waitingOf q ∧ (q = p ∨ planBefore p q = true))
theorem best_step {r : SeRoom} {T L : List (List Int)} {b : Option (List Int)} {x : List Int} (h : BestOf r T L b) (hx : ∀ q ∈ L, planBefore q x = true) : BestOf r T (L ++ [x]) (bestStep r T b x) := by
  cases b with
  | none =>
    unfold bestStep
    simp only
    cases hf : fitsB r T x
    · rw [if_neg (by simp)]
      intro q hq
      rcases List.mem_append.1 hq with hq | hq
      · exact h q hq
      · rw [show q = x from by simpa using hq]; exact hf
    · rw [if_pos rfl]
      refine ⟨by simp, hf, fun q hq hqf => ?_⟩
      rcases List.mem_append.1 hq with hq | hq
      · rw [h q hq] at hqf; cases hqf
      · exact .inr ⟨by rw [show q = x from by simpa using hq], .inl (by simpa using hq)⟩
  | some p =>
    obtain ⟨h1, h2, h3⟩ := h
    unfold bestStep
    simp only
    by_cases hc : (decide (waitingOf x < waitingOf p) && fitsB r T x) = true
    · rw [if_pos hc]
      simp only [Bool.and_eq_true, decide_eq_true_eq] at hc
      refine ⟨by simp, hc.2, fun q hq hqf => ?_⟩
      rcases List.mem_append.1 hq with hq | hq
      · rcases h3 q hq hqf with h4 | h4
        · exact .inl (by omega)
        · exact .inl (by omega)
      · exact .inr ⟨by rw [show q = x from by simpa using hq], .inl (by simpa using hq)⟩
    · rw [if_neg hc]
      refine ⟨by simp [h1], h2, fun q hq hqf => ?_⟩
      rcases List.mem_append.1 hq with hq | hq
      · exact h3 q hq hqf
      · have e : q = x := by simpa using hq
        subst e
        rw [hqf, Bool.and_true, decide_eq_true_eq] at hc
        by_cases e : waitingOf p = waitingOf q
        · exact .inr ⟨e, .inr (hx p h1)⟩
        · exact .inl (by omega)
theorem best_fold {r : SeRoom} {T : List (List Int)} : ∀ (M L : List (List Int)) (b : Option (List Int)), BestOf r T L b → ((L ++ M).Pairwise fun a b => planBefore a b = true) → BestOf r T (L ++ M) (M.foldl (bestStep r T) b)
  | [], L, b, h, _ => by simpa using h
  | x :: M, L, b, h, hp => by
    have e : L ++ x :: M = (L ++ [x]) ++ M := by simp
    rw [e] at hp ⊢
    exact best_fold M (L ++ [x]) _ (best_step h fun q hq => (List.pairwise_append.1 (List.pairwise_append.1 hp).1).2.2 q hq x (by simp)) hp
theorem bestPlan_of (r : SeRoom) (T : List (List Int)) : BestOf r T (sePlans r) (bestPlan r T) := by
  have := best_fold (r := r) (T := T) (sePlans r) [] none (fun q hq => by cases hq) (by rw [List.nil_append]; exact plans_sorted r _)
  rw [List.nil_append] at this
  exact this
theorem mem_plans {r : SeRoom} : ∀ (k : Nat) (p : List Int), p.length = k → (∀ x ∈ p, x = -1 ∨ (0 ≤ x ∧ x < r.writers.length)) → p ∈ plansTo r k
  | 0, p, h, _ => by rw [List.eq_nil_of_length_eq_zero h]; simp [plansTo]
  | k + 1, p, h, hx => by
    rcases nil_snoc p with rfl | ⟨q, x, rfl⟩
    · simp at h
    · have hq : q.length = k := by simpa using h
      refine List.mem_flatMap.2 ⟨q, mem_plans k q hq (fun y hy => hx y (by simp [hy])), ?_⟩
      unfold planStep
      rcases hx x (by simp) with rfl | ⟨h1, h2⟩
      · simp
      · obtain ⟨u, rfl⟩ := Int.eq_ofNat_of_zero_le h1
        refine List.mem_append_left _ (List.mem_map.2 ⟨u, List.mem_range.2 (by omega), rfl⟩)
theorem fits_at {r : SeRoom} {T : List (List Int)} {p : List Int} (h : fitsB r T p = true) : p.length = r.letters.length ∧ ∀ i, i < p.length → fitsAt r T p i = true := by
  unfold fitsB at h
  rw [Bool.and_eq_true, decide_eq_true_eq, List.all_eq_true] at h
  exact ⟨h.1, fun i hi => h.2 i (List.mem_range.2 hi)⟩
theorem fitsAt_who {r : SeRoom} {T : List (List Int)} {p : List Int} {i : Nat} (h : fitsAt r T p i = true) : p[i]?.getD 0 = -1 ∨ (0 ≤ p[i]?.getD 0 ∧ p[i]?.getD 0 < r.writers.length ∧ canB r T (letterAt r i) (p[i]?.getD 0) = true) := by
  unfold fitsAt at h
  simp only [Bool.and_eq_true, Bool.or_eq_true, decide_eq_true_eq] at h
  rcases h.2 with e | e
  · exact .inl e
  · refine .inr ?_
    have := inB_iff.1 (show inB (p[i]?.getD 0) 0 ((r.writers.length : Int) - 1) = true from e.1.1)
    exact ⟨this.1, by omega, e.1.2⟩
theorem fits_mem {r : SeRoom} {T : List (List Int)} {p : List Int} (h : fitsB r T p = true) : p ∈ sePlans r := by
  obtain ⟨h1, h2⟩ := fits_at h
  refine mem_plans _ p h1 fun x hx => ?_
  obtain ⟨i, hi, rfl⟩ := List.getElem_of_mem hx
  have := fitsAt_who (h2 i hi)
  rw [List.getElem?_eq_getElem hi] at this
  rcases this with e | ⟨e1, e2, _⟩
  · exact .inl e
  · exact .inr ⟨e1, e2⟩
/-- What Plan tells of a room that has a truth. -/
theorem plan_is {r : SeRoom} (hr : someB r = true) :
    (∃ p, planOf r = (p, (waitingOf p : Int), 0) ∧ fitsB r (seTruths r []) p = true ∧ p.length = r.letters.length ∧ ∀ o, fitsB r (seTruths r []) o = true → waitingOf p ≤ waitingOf o ∧ (waitingOf o = waitingOf p → planBefore o p = false)) ∨
    (planOf r = ([], 0, 9) ∧ ∀ o, fitsB r (seTruths r []) o = false) := by
  obtain ⟨h0, h1⟩ := someB_iff.1 hr
  have e : planErr r = 0 := by unfold planErr; rw [h0]; exact known_ok h1
  have hb := bestPlan_of r (seTruths r [])
  cases hbp : bestPlan r (seTruths r []) with
  | none =>
    rw [hbp] at hb
    refine .inr ⟨by unfold planOf; rw [if_pos e, hbp], fun o => ?_⟩
    cases ho : fitsB r (seTruths r []) o
    · rfl
    · rw [hb o (fits_mem ho)] at ho; cases ho
  | some p =>
    rw [hbp] at hb
    obtain ⟨b1, b2, b3⟩ := hb
    refine .inl ⟨p, by unfold planOf; rw [if_pos e, hbp], b2, (fits_at b2).1, fun o ho => ?_⟩
    rcases b3 o (fits_mem ho) ho with h | ⟨h, h2⟩
    · exact ⟨by omega, fun e => by omega⟩
    · refine ⟨by omega, fun _ => ?_⟩
      rcases h2 with rfl | h2
      · exact before_irrefl _
      · exact before_asymm h2
theorem plan_bad {r : SeRoom} (h : someB r = false) : ∃ e, planOf r = ([], 0, e) ∧ e ≠ 0 := by
  have h2 : planErr r ≠ 0 := none_err h id
  exact ⟨planErr r, by unfold planOf; rw [if_neg h2], h2⟩

/-- SecretMore's plans. -/
theorem fits_sub {r : SeRoom} {T T' : List (List Int)} (h : ∀ t ∈ T', t ∈ T) {p : List Int} (hf : fitsB r T p = true) : fitsB r T' p = true := by
  unfold fitsB at hf ⊢
  rw [Bool.and_eq_true, List.all_eq_true] at hf ⊢
  refine ⟨hf.1, fun i hi => ?_⟩
  have := hf.2 i hi
  unfold fitsAt at this ⊢
  simp only [Bool.and_eq_true, Bool.or_eq_true] at this ⊢
  refine ⟨this.1, ?_⟩
  rcases this.2 with e | e
  · exact .inl e
  · exact .inr ⟨⟨e.1.1, can_sub h e.1.2⟩, e.2⟩
theorem more_plan {r : SeRoom} {h : SeHeard} (hr : someB r = true) (hm : someB (moreRoom r h) = true) :
    ∃ l a g k b i, planOf r = (l, a, g) ∧ planOf (moreRoom r h) = (k, b, i) ∧ (g = 0 → i = 0 ∧ b ≤ a) ∧ l.length ≤ r.letters.length ∧ k.length ≤ r.letters.length := by
  rcases plan_is hr with ⟨p, e1, f1, l1, -⟩ | ⟨e1, -⟩
  · have hf : fitsB (moreRoom r h) (seTruths (moreRoom r h) []) p = true := fits_sub (r := r) more_sub f1
    rcases plan_is hm with ⟨q, e2, -, l2, b2⟩ | ⟨e2, n2⟩
    · have := (b2 p hf).1
      refine ⟨_, _, _, _, _, _, e1, e2, fun _ => ⟨rfl, by omega⟩, by omega, ?_⟩
      have e : (moreRoom r h).letters.length = r.letters.length := rfl
      omega
    · rw [n2 p] at hf; cases hf
  · obtain ⟨⟨k, b, i⟩, e2⟩ : ∃ x, planOf (moreRoom r h) = x := ⟨_, rfl⟩
    refine ⟨_, _, _, _, _, _, e1, e2, (fun h => by cases h), (by simp), ?_⟩
    rcases plan_is hm with ⟨q, e3, -, l2, -⟩ | ⟨e3, -⟩
    · rw [e3] at e2
      obtain ⟨rfl, -⟩ := Prod.mk.inj e2
      have e : (moreRoom r h).letters.length = r.letters.length := rfl
      omega
    · rw [e3] at e2
      obtain ⟨rfl, -⟩ := Prod.mk.inj e2
      simp

/-- The lesser of days. -/
def minD (d e : Nat → Int) : Nat → Int := fun w => min (d w) (e w)
theorem relax_min (d e : Nat → Int) (x : SeLeak) : relax (minD d e) x = minD (relax d x) (relax e x) := funext fun w => by
  unfold minD relax
  simp only
  split <;> omega
theorem relaxL_min : ∀ (L : List SeLeak) (d e : Nat → Int), relaxL L (minD d e) = minD (relaxL L d) (relaxL L e)
  | [], _, _ => rfl
  | x :: L, d, e => by
    show relaxL L (relax (minD d e) x) = minD (relaxL L (relax d x)) (relaxL L (relax e x))
    rw [relax_min, relaxL_min L]
theorem rounds_min (L : List SeLeak) (d e : Nat → Int) : ∀ k, rounds L (minD d e) k = minD (rounds L d k) (rounds L e k)
  | 0 => rfl
  | k + 1 => by
    show relaxL L (rounds L (minD d e) k) = minD (relaxL L (rounds L d k)) (relaxL L (rounds L e k))
    rw [rounds_min L d e k, relaxL_min]
theorem rounds_none (L : List SeLeak) (k w : Nat) : ¬ rounds L noDay k w ≤ 9 := by
  have := rounds_ge (L := L) (d := noDay) (g := noDay) (LeD.refl _) (fun x _ => by show (10 : Int) ≤ 10 + 1; omega) k w
  have h : noDay w = 10 := rfl
  omega
theorem snoc_ind {α : Type} {P : List α → Prop} (h0 : P []) (h1 : ∀ l x, P l → P (l ++ [x])) : ∀ l, P l := fun l => by
  have : ∀ k : List α, P k.reverse := fun k => by
    induction k with
    | nil => exact h0
    | cons x k ih => rw [List.reverse_cons]; exact h1 _ x ih
  have := this l.reverse
  rwa [List.reverse_reverse] at this
theorem startDay_le (s : Nat) : ∀ (L : List SeLetter) (w : Nat), startDay L s w ≤ 10 := by
  refine snoc_ind ?_ ?_
  · intro w; exact Int.le_refl 10
  · intro L x ih w
    rw [startDay_snoc]
    unfold startOne
    have := ih w
    split <;> omega
theorem startDay_min (L : List SeLetter) (x : SeLetter) (s : Nat) : startDay (L ++ [x]) s = minD (startDay L s) (startDay [x] s) := funext fun w => by
  have e : startDay [x] s = startOne s noDay x := by rw [show [x] = [] ++ [x] from rfl, startDay_snoc]; rfl
  rw [startDay_snoc, e]
  have := startDay_le s L w
  have h : noDay w = 10 := rfl
  unfold minD startOne
  simp only [h]
  split <;> omega
/-- What comes by all letters together comes by one of them. -/
theorem rounds_one (L : List SeLeak) (s n w : Nat) : ∀ (X : List SeLetter), rounds L (startDay X s) n w ≤ 9 → ∃ x ∈ X, rounds L (startDay [x] s) n w ≤ 9 := by
  refine snoc_ind ?_ ?_
  · intro h; exact absurd h (rounds_none L n w)
  · intro X x ih h
    rw [startDay_min, rounds_min] at h
    have h : min (rounds L (startDay X s) n w) (rounds L (startDay [x] s) n w) ≤ 9 := h
    by_cases h2 : rounds L (startDay [x] s) n w ≤ 9
    · exact ⟨x, by simp, h2⟩
    · obtain ⟨y, hy, h3⟩ := ih (by omega)
      exact ⟨y, by simp [hy], h3⟩
theorem startDay_one (x : SeLetter) (s w : Nat) : startDay [x] s w = if x.writer = (w : Int) ∧ bitB x.secrets s = true then min 10 x.day else 10 := rfl
theorem startDay_no {x : SeLetter} {s : Nat} (h : x.writer = -1 ∨ bitB x.secrets s = false) : startDay [x] s = noDay := funext fun w => by
  rw [startDay_one, if_neg (fun ⟨h1, h2⟩ => by
    rcases h with h | h
    · omega
    · rw [h] at h2; cases h2)]
  rfl
/-- All letters, as they are written. -/
def writtenTo (r : SeRoom) (p : List Int) (k : Nat) : List SeLetter := r.letters.mapIdx fun i x => if i < k then { x with writer := p[i]?.getD 0 } else x
theorem writtenTo_len (r : SeRoom) (p : List Int) (k : Nat) : (writtenTo r p k).length = r.letters.length := by simp [writtenTo]
theorem writtenTo_at (r : SeRoom) (p : List Int) (k i : Nat) (h : i < r.letters.length) : (writtenTo r p k)[i]'(by rw [writtenTo_len]; exact h) = if i < k then { r.letters[i] with writer := p[i]?.getD 0 } else r.letters[i] := by simp [writtenTo]
theorem kept_written {r : SeRoom} {T : List (List Int)} {p t : List Int} {s : Nat} (hf : fitsB r T p = true) (ht : t ∈ T) (hs : s < r.kept.length) : keepsB r (writtenTo r p r.letters.length) [t] s = true := by
  obtain ⟨f1, f2⟩ := fits_at hf
  unfold keepsB
  rw [List.all_eq_true]
  intro t' ht'
  have e : t' = t := by simpa using ht'
  subst e
  unfold keepsIn
  rw [List.all_eq_true]
  intro w hw
  have hw := List.mem_range.1 hw
  cases hb : bitB (keptAt r s) w
  · rfl
  · show (!(true && _)) = true
    rw [Bool.true_and, Bool.not_eq_true', decide_eq_false_iff_not]
    intro h9
    obtain ⟨x, hx, h3⟩ := rounds_one _ s _ w _ h9
    obtain ⟨i, hi, rfl⟩ := List.getElem_of_mem hx
    have hi2 : i < r.letters.length := by rw [writtenTo_len] at hi; exact hi
    rw [writtenTo_at r p _ i hi2, if_pos hi2] at h3
    rcases fitsAt_who (f2 i (by omega)) with e | ⟨_, _, e⟩
    · rw [startDay_no (x := { r.letters[i] with writer := p[i]?.getD 0 }) (.inl e)] at h3
      exact rounds_none _ _ _ h3
    · cases hbs : bitB r.letters[i].secrets s
      · rw [startDay_no (x := { r.letters[i] with writer := p[i]?.getD 0 }) (.inr hbs)] at h3
        exact rounds_none _ _ _ h3
      · unfold canB at e
        rw [List.all_eq_true] at e
        have := e s (List.mem_range.2 hs)
        unfold letterAt at this
        rw [List.getElem?_eq_getElem hi2] at this
        simp only [Option.getD_some, hbs, Bool.not_true, Bool.false_or] at this
        unfold keepsB at this
        rw [List.all_eq_true] at this
        have := this _ ht
        unfold keepsIn at this
        rw [List.all_eq_true] at this
        have := this w (List.mem_range.2 hw)
        rw [hb, Bool.true_and, Bool.not_eq_true', decide_eq_false_iff_not] at this
        exact this h3
end Go.Proofs.Ytmhbjohpggghgaa
namespace Go.Proofs.Ytmhbjohpggghgaa

/-- SecretCut. -/
theorem less_nil (T : List (List Int)) : lessOf T [] = T := by
  unfold lessOf
  have : (fun t : List Int => t.filter fun x => !hasB [] x) = id := funext fun t => List.filter_eq_self.2 fun _ _ => rfl
  rw [this, List.map_id]
theorem keeps_iff {r : SeRoom} {X : List SeLetter} {T : List (List Int)} {s : Nat} : keepsB r X T s = true ↔ ∀ t ∈ T, ∀ w, w < r.writers.length → bitB (keptAt r s) w = true → ¬ fromD r X t s w ≤ 9 := by
  unfold keepsB
  rw [List.all_eq_true]
  constructor
  · intro h t ht w hw hb
    have := h t ht
    unfold keepsIn at this
    rw [List.all_eq_true] at this
    have := this w (List.mem_range.2 hw)
    rwa [hb, Bool.true_and, Bool.not_eq_true', decide_eq_false_iff_not] at this
  · intro h t ht
    unfold keepsIn
    rw [List.all_eq_true]
    intro w hw
    cases hb : bitB (keptAt r s) w
    · rfl
    · rw [Bool.true_and, Bool.not_eq_true', decide_eq_false_iff_not]
      exact h t ht w (List.mem_range.1 hw) hb
/-- Of whom from whom a secret is kept Since tells Never. -/
def keptTo (r : SeRoom) (s k : Nat) : Bool := (List.range k).all fun (w : Nat) => !bitB (keptAt r s) w || decide ((sinceOf r (w : Int) (s : Int)).2.1 = 2)
theorem day_nine {r : SeRoom} {t : List Int} {w s : Nat} : dayOf r t w s ≤ 9 ↔ fromD r r.letters t s w ≤ 9 := by unfold dayOf; omega
theorem kept_cut {r : SeRoom} (hr : someB r = true) {s : Nat} (hs : s < r.kept.length) : keptTo r s r.writers.length = cutSo r s [] := by
  rw [Bool.eq_iff_iff]
  unfold cutSo keptTo
  rw [less_nil, keeps_iff, List.all_eq_true]
  have h0 := (someB_iff.1 hr).2
  have how : ∀ w, w < r.writers.length → ((sinceOf r (w : Int) (s : Int)).2.1 = 2 ↔ ∀ t ∈ seTruths r [], ¬ fromD r r.letters t s w ≤ 9) := fun w hw => by
    obtain ⟨lo, hi, n, e, hd⟩ := since_is hr hw hs
    rw [e]
    show settled n _ = 2 ↔ _
    rw [hd.1, settled_two h0]
    constructor
    · intro h t ht h9
      have : ¬ dayOf r t w s ≤ 9 := of_decide_eq_false (h t ht)
      exact this (day_nine.2 h9)
    · intro h t ht
      exact decide_eq_false fun h9 => h t ht (day_nine.1 h9)
  constructor
  · intro h t ht w hw hb
    have := h w (List.mem_range.2 hw)
    rw [hb, Bool.not_true, Bool.false_or, decide_eq_true_eq] at this
    exact (how w hw).1 this t ht
  · intro h w hw
    have hw := List.mem_range.1 hw
    cases hb : bitB (keptAt r s) w
    · rfl
    · rw [Bool.not_true, Bool.false_or, decide_eq_true_eq]
      exact (how w hw).2 fun t ht => h t ht w hw hb
theorem cut_is {r : SeRoom} (hr : someB r = true) {s : Nat} (hs : s < r.kept.length) {o : List Int} (ho : incr r.leaks.length o) :
    (∃ l, cutOf r s = (l, 0) ∧ incr r.leaks.length l ∧ cutSo r s l = true ∧ (cutSo r s o = true → fewer o l = false) ∧ keptTo r s r.writers.length = decide (l.length = 0)) ∨
    (cutOf r s = ([], 9) ∧ cutSo r s o = false ∧ keptTo r s r.writers.length = false) := by
  obtain ⟨h0, h1⟩ := someB_iff.1 hr
  have e : cutErr r s = 0 := by unfold cutErr; rw [index_ok h0 (by omega) (by omega)]; exact known_ok h1
  obtain ⟨s1, s2⟩ := first_all (cutSo r s) r.leaks.length
  have hcs : ∀ l, searchFrom (cutSo r s) (r.leaks.length : Int) 0 (r.leaks.length + 1) = some l → cutOf r s = (l, 0) := fun l h => by rw [cutOf_hid, if_pos e, Int.toNat_natCast, h]
  have hcn : searchFrom (cutSo r s) (r.leaks.length : Int) 0 (r.leaks.length + 1) = none → cutOf r s = ([], 9) := fun h => by rw [cutOf_hid, if_pos e, Int.toNat_natCast, h]
  rw [kept_cut hr hs]
  cases hsr : searchFrom (cutSo r s) (r.leaks.length : Int) 0 (r.leaks.length + 1) with
  | none => exact .inr ⟨hcn hsr, s2 hsr o ho, s2 hsr [] (incr_nil _)⟩
  | some l =>
    have hf := s1 l hsr
    refine .inl ⟨l, hcs l hsr, hf.1.1, hf.1.2, fun hso => ?_, ?_⟩
    · rcases hf.2 o ⟨ho, hso⟩ with e | e
      · rw [e]; exact fewer_irrefl _
      · exact fewer_asymm e
    · rw [Bool.eq_iff_iff, decide_eq_true_eq]
      constructor
      · intro hk
        rcases hf.2 [] ⟨incr_nil _, hk⟩ with e | e
        · rw [← e]; rfl
        · unfold fewer at e
          split at e
          · assumption
          · simp at e
      · intro hl
        have := hf.1.2
        rwa [List.eq_nil_of_length_eq_zero hl] at this
theorem cut_none {r : SeRoom} {s : Int} (h : someB r = false ∨ r.kept.length = 0) : ∃ e, cutOf r s = ([], e) ∧ e ≠ 0 := by
  have h2 : cutErr r s ≠ 0 := by
    rcases h with h | h
    · exact none_err h fun hb => by rw [index_bad hb]; exact hb
    · exact known_bad (index_out (by omega))
  exact ⟨cutErr r s, by unfold cutOf; rw [if_neg h2], h2⟩
theorem cutSo_is (r : SeRoom) (s : Nat) (l : List Int) : keepsB r r.letters (lessOf (seTruths r []) l) s = cutSo r s l := rfl

/-- SecretMay. -/
theorem may_none {r : SeRoom} {n : Int} (h : someB r = false ∨ r.letters.length = 0) : ∃ e, mayOf r n = ([], e) ∧ e ≠ 0 := by
  have h2 : mayErr r n ≠ 0 := by
    rcases h with h | h
    · exact none_err h fun hb => by rw [index_bad hb]; exact hb
    · exact known_bad (index_out (by omega))
  exact ⟨mayErr r n, by unfold mayOf; rw [if_neg h2], h2⟩
theorem may_kept {r : SeRoom} (hr : someB r = true) {n : Nat} (hn : n < r.letters.length) {s : Nat} (hs : s < r.kept.length) (hb : bitB r.letters[n].secrets s = true) {w : Int} (hw : w ∈ mayList r (seTruths r []) r.letters[n]) : bitB (keptAt r s) w.toNat = false := by
  obtain ⟨h0, h1⟩ := someB_iff.1 hr
  have hv := seValid_of h0
  obtain ⟨w0, w1, hc⟩ := mayList_mem.1 hw
  obtain ⟨u, rfl⟩ := Int.eq_ofNat_of_zero_le w0
  unfold canB at hc
  rw [List.all_eq_true] at hc
  have := hc s (List.mem_range.2 hs)
  rw [hb, Bool.not_true, Bool.false_or, keeps_iff] at this
  have := this _ (List.getElem_mem h1) u (by omega)
  rw [Int.toNat_natCast]
  cases hk : bitB (keptAt r s) u
  · rfl
  · exfalso
    refine this hk ?_
    have h2 := rounds_le (leaksOf r (seTruths r [])[0]) (startDay [(⟨r.letters[n].day, r.letters[n].secrets, (u : Int)⟩ : SeLetter)] s) r.writers.length u
    rw [startDay_one, if_pos ⟨rfl, hb⟩] at h2
    have h3 := (hv.letters n hn).2.1
    show rounds (leaksOf r (seTruths r [])[0]) (startDay [(⟨r.letters[n].day, r.letters[n].secrets, (u : Int)⟩ : SeLetter)] s) r.writers.length u ≤ 9
    have h2 : rounds (leaksOf r (seTruths r [])[0]) (startDay [(⟨r.letters[n].day, r.letters[n].secrets, (u : Int)⟩ : SeLetter)] s) r.writers.length u ≤ min 10 r.letters[n].day := h2
    omega
/-- The secrets that are left: those of a letter, without some. -/
def fewTo (sec : Int) (m : Nat) : Nat → Nat
  | 0 => 0
  | k + 1 => fewTo sec m k + if bitB sec k && !m.testBit k then 2 ^ k else 0
theorem fewTo_lt (sec : Int) (m : Nat) : ∀ k, fewTo sec m k < 2 ^ k
  | 0 => by simp [fewTo]
  | k + 1 => by
    have := fewTo_lt sec m k
    rw [fewTo, Nat.pow_succ]
    split <;> omega
theorem fewTo_bit (sec : Int) (m : Nat) : ∀ k s, (fewTo sec m k).testBit s = true → bitB sec s = true
  | 0, s, h => by simp [fewTo] at h
  | k + 1, s, h => by
    rw [fewTo] at h
    by_cases hc : (bitB sec k && !m.testBit k) = true
    · rw [if_pos hc] at h
      rw [Bool.and_eq_true] at hc
      by_cases e : s = k
      · rw [e]; exact hc.1
      · by_cases hl : s < k
        · rw [Nat.add_comm, Nat.testBit_two_pow_add_gt hl] at h
          exact fewTo_bit sec m k s h
        · exfalso
          have hlt : fewTo sec m k + 2 ^ k < 2 ^ s := by
            have h1 := fewTo_lt sec m k
            have h2 : 2 ^ (k + 1) ≤ 2 ^ s := Nat.pow_le_pow_right (by omega) (by omega)
            rw [Nat.pow_succ] at h2
            omega
          rw [Nat.testBit_lt_two_pow hlt] at h; cases h
    · rw [if_neg hc, Nat.add_zero] at h
      exact fewTo_bit sec m k s h
/-- The room without what was heard, in which a letter has other secrets. -/
def lessRoom (r : SeRoom) (n : Nat) (few : Int) : SeRoom := { r with heard := [], letters := r.letters.modify n fun x => { x with secrets := few } }
theorem plain_some {r : SeRoom} (h : seErr r = 0) : someB (withHeard r []) = true := by
  rw [someB_iff, truths_nil _ rfl, seSets_heard]
  exact ⟨withHeard_err h (by simp) (fun x hx => by cases hx), sets_pos r _⟩
theorem lessRoom_at {r : SeRoom} {n : Nat} {few : Int} {i : Nat} (hi : i < r.letters.length) : (lessRoom r n few).letters[i]? = some (if n = i then { r.letters[i] with secrets := few } else r.letters[i]) := by
  show (r.letters.modify n _)[i]? = _
  rw [List.getElem?_modify, List.getElem?_eq_getElem hi]
  simp only [Option.map_some]
  split <;> rfl
theorem lessRoom_some {r : SeRoom} (h : seErr r = 0) {n : Nat} {few : Int} (hf : 0 ≤ few ∧ few < 2 ^ r.kept.length) : someB (lessRoom r n few) = true := by
  have hp := seParts.1 h
  rw [someB_iff, truths_nil _ rfl, seSets_same (r := r) (r' := lessRoom r n few) rfl]
  refine ⟨seParts.2 ⟨hp.nw, hp.w, hp.nk, hp.k, hp.nl, hp.l, ?_, fun i hi => ?_, by simp [lessRoom], fun i hi => by simp [lessRoom] at hi⟩, sets_pos r _⟩
  · show (r.letters.modify n _).length ≤ 4
    rw [List.length_modify]; exact hp.nt
  · have hi2 : i < r.letters.length := by simpa [lessRoom] using hi
    have h1 := hp.t i hi2
    unfold letterErr at h1 ⊢
    rw [lessRoom_at hi2]
    rw [List.getElem?_eq_getElem hi2] at h1
    simp only at h1 ⊢
    have hany : ∀ (d w : Int), ((lessRoom r n few).letters.take i).any (fun y => decide (y.writer = w) && decide (y.day = d)) = (r.letters.take i).any (fun y => decide (y.writer = w) && decide (y.day = d)) := fun d w => by
      have hm : ((lessRoom r n few).letters.take i).map (fun y => (y.writer, y.day)) = (r.letters.take i).map (fun y => (y.writer, y.day)) := by
        apply List.ext_getElem?
        intro j
        rw [List.getElem?_map, List.getElem?_map, List.getElem?_take, List.getElem?_take]
        split
        · by_cases hj : j < r.letters.length
          · rw [lessRoom_at hj, List.getElem?_eq_getElem hj]
            simp only [Option.map_some]
            split <;> rfl
          · rw [List.getElem?_eq_none (by simp [lessRoom]; omega), List.getElem?_eq_none (by omega)]
        · rfl
      have e : ∀ L : List SeLetter, L.any (fun y => decide (y.writer = w) && decide (y.day = d)) = (L.map fun y => (y.writer, y.day)).any (fun y => decide (y.1 = w) && decide (y.2 = d)) := fun L => by rw [List.any_map]; rfl
      rw [e, e, hm]
    by_cases he : n = i
    · rw [if_pos he]
      unfold letterErrOf at h1 ⊢
      simp only at h1 ⊢
      rw [hany]
      by_cases hd : inB r.letters[i].day 0 9 = true
      · rw [if_pos hd] at h1 ⊢
        by_cases hs : (inB r.letters[i].secrets 0 (allBits r.kept.length) && inB r.letters[i].writer (-1) ((r.writers.length : Int) - 1)) = true
        · rw [if_pos hs] at h1
          rw [Bool.and_eq_true] at hs
          rw [if_pos (show (inB few 0 (allBits (lessRoom r n few).kept.length) && inB r.letters[i].writer (-1) (((lessRoom r n few).writers.length : Int) - 1)) = true from by
            rw [Bool.and_eq_true]
            exact ⟨inB_iff.2 ⟨hf.1, by show few ≤ allBits r.kept.length; unfold allBits; omega⟩, hs.2⟩)]
          exact h1
        · rw [if_neg hs] at h1; simp at h1
      · rw [if_neg hd] at h1; simp at h1
    · rw [if_neg he]
      unfold letterErrOf at h1 ⊢
      rw [hany]
      exact h1
theorem less_may {r : SeRoom} (h : seErr r = 0) {n : Nat} (hn : n < r.letters.length) {few : Int} (hf : 0 ≤ few ∧ few < 2 ^ r.kept.length) (hb : ∀ s, bitB few s = true → bitB r.letters[n].secrets s = true) :
    ∃ a b, mayOf (withHeard r []) n = (a, 0) ∧ mayOf (lessRoom r n few) n = (b, 0) ∧ subB a b = true ∧ a.length ≤ r.writers.length ∧ b.length ≤ r.writers.length := by
  have hl : n < (lessRoom r n few).letters.length := by simpa [lessRoom] using hn
  have e : (lessRoom r n few).letters[n] = { r.letters[n] with secrets := few } := by
    have := lessRoom_at (few := few) hn (n := n)
    rw [if_pos rfl, List.getElem?_eq_getElem hl] at this
    exact Option.some.inj this
  refine ⟨_, _, may_is (plain_some h) (show n < (withHeard r []).letters.length from hn), may_is (lessRoom_some h hf) hl, subB_iff.2 fun w hw => ?_, mayList_len _ _ _, mayList_len _ _ _⟩
  rw [truths_nil _ rfl, seSets_heard] at hw
  rw [truths_nil _ rfl, seSets_same (r := r) (r' := lessRoom r n few) rfl, e]
  obtain ⟨w0, w1, hc⟩ := mayList_mem.1 hw
  refine mayList_mem.2 ⟨w0, w1, ?_⟩
  unfold canB at hc ⊢
  rw [List.all_eq_true] at hc ⊢
  intro s hs
  have hc := hc s hs
  have hc : (!bitB r.letters[n].secrets s || keepsB r [{ r.letters[n] with writer := w }] (seSets r) s) = true := hc
  show (!bitB few s || keepsB (lessRoom r n few) [({ day := r.letters[n].day, secrets := few, writer := w } : SeLetter)] (seSets r) s) = true
  cases hbf : bitB few s
  · rfl
  · rw [hb s hbf, Bool.not_true, Bool.false_or, keeps_iff] at hc
    rw [Bool.not_true, Bool.false_or, keeps_iff]
    intro t ht u hu hk h9
    refine hc t ht u hu hk ?_
    have e2 : startDay [({ day := r.letters[n].day, secrets := few, writer := w } : SeLetter)] s = startDay [{ r.letters[n] with writer := w }] s := funext fun v => by
      rw [startDay_one, startDay_one]
      simp only [hbf, hb s hbf]
    have h9 : rounds (leaksOf r t) (startDay [({ day := r.letters[n].day, secrets := few, writer := w } : SeLetter)] s) r.writers.length u ≤ 9 := h9
    rw [e2] at h9
    exact h9

/-- SecretLeak: with one more leak. -/
def leakRoom (r : SeRoom) (x : SeLeak) : SeRoom := { r with heard := [], leaks := r.leaks ++ [x] }
theorem leak_setsTo (r : SeRoom) (x : SeLeak) : ∀ k, k ≤ r.leaks.length → setsTo (leakRoom r x) k = setsTo r k
  | 0, _ => rfl
  | k + 1, h => by
    show (setsTo (leakRoom r x) k).flatMap (setStep (leakRoom r x) k) = (setsTo r k).flatMap (setStep r k)
    rw [leak_setsTo r x k (by omega)]
    have : setStep (leakRoom r x) k = setStep r k := by
      funext l
      unfold setStep sureAt
      show (if (match (r.leaks ++ [x])[k]? with | some x => x.sure | none => false) = true then _ else _) ++ _ = _
      rw [List.getElem?_append_left (by omega)]
      rfl
    rw [this]
theorem leak_sets (r : SeRoom) (x : SeLeak) : (∀ t ∈ seSets r, t ++ [(r.leaks.length : Int)] ∈ seSets (leakRoom r x)) ∧ ∀ t ∈ seSets (leakRoom r x), ∃ l ∈ seSets r, t = l ∨ t = l ++ [(r.leaks.length : Int)] := by
  have e : seSets (leakRoom r x) = (seSets r).flatMap (setStep (leakRoom r x) r.leaks.length) := by
    unfold seSets
    have : (leakRoom r x).leaks.length = r.leaks.length + 1 := by simp [leakRoom]
    rw [this]
    show (setsTo (leakRoom r x) r.leaks.length).flatMap _ = _
    rw [leak_setsTo r x _ (Nat.le_refl _)]
  rw [e]
  refine ⟨fun t ht => List.mem_flatMap.2 ⟨t, ht, by unfold setStep; simp⟩, fun t ht => ?_⟩
  obtain ⟨l, hl, h2⟩ := List.mem_flatMap.1 ht
  refine ⟨l, hl, ?_⟩
  unfold setStep at h2
  rcases List.mem_append.1 h2 with h3 | h3
  · split at h3
    · cases h3
    · exact .inl (by simpa using h3)
  · exact .inr (by simpa using h3)
theorem sets_below {r : SeRoom} : ∀ k, ∀ t ∈ setsTo r k, ∀ i ∈ t, 0 ≤ i ∧ i < (k : Int)
  | 0, t, ht, i, hi => by simp [setsTo] at ht; rw [ht] at hi; cases hi
  | k + 1, t, ht, i, hi => by
    obtain ⟨l, hl, h2⟩ := List.mem_flatMap.1 (show t ∈ (setsTo r k).flatMap (setStep r k) from ht)
    have ih := sets_below k l hl
    unfold setStep at h2
    rcases List.mem_append.1 h2 with h3 | h3
    · split at h3
      · cases h3
      · have : t = l := by simpa using h3
        rw [this] at hi
        have := ih i hi; omega
    · have : t = l ++ [(k : Int)] := by simpa using h3
      rw [this] at hi
      rcases List.mem_append.1 hi with hi | hi
      · have := ih i hi; omega
      · have : i = k := by simpa using hi
        omega
theorem filterMap_same {α β : Type} {f g : α → Option β} : ∀ {L : List α}, (∀ i ∈ L, f i = g i) → L.filterMap f = L.filterMap g
  | [], _ => rfl
  | x :: L, h => by
    have ih := filterMap_same (L := L) fun i hi => h i (by simp [hi])
    rw [List.filterMap_cons, List.filterMap_cons, h x (by simp), ih]
theorem leak_leaks {r : SeRoom} {x : SeLeak} {t : List Int} (h : ∀ i ∈ t, 0 ≤ i ∧ i < (r.leaks.length : Int)) : leaksOf (leakRoom r x) t = leaksOf r t := by
  unfold leaksOf
  refine filterMap_same fun i hi => ?_
  have := h i hi
  show (r.leaks ++ [x])[i.toNat]? = _
  rw [List.getElem?_append_left (by omega)]
theorem leak_leaks2 {r : SeRoom} {x : SeLeak} {t : List Int} (h : ∀ i ∈ t, 0 ≤ i ∧ i < (r.leaks.length : Int)) : leaksOf (leakRoom r x) (t ++ [(r.leaks.length : Int)]) = leaksOf r t ++ [x] := by
  rw [leaksOf_append, leak_leaks h]
  congr 1
  unfold leaksOf
  show [(r.leaks.length : Int)].filterMap (fun i => (r.leaks ++ [x])[i.toNat]?) = [x]
  simp
theorem relaxL_mono : ∀ (L : List SeLeak) {d e : Nat → Int}, LeD d e → LeD (relaxL L d) (relaxL L e)
  | [], _, _, h => h
  | x :: L, _, _, h => relaxL_mono L (relax_mono x h)
theorem rounds_longer (L : List SeLeak) (x : SeLeak) (d : Nat → Int) : ∀ k, LeD (rounds (L ++ [x]) d k) (rounds L d k)
  | 0 => LeD.refl _
  | k + 1 => by
    show LeD (relaxL (L ++ [x]) (rounds (L ++ [x]) d k)) (relaxL L (rounds L d k))
    rw [relaxL_append]
    exact LeD.trans (relax_le _ x) (relaxL_mono L (rounds_longer L x d k))
theorem leak_from {r : SeRoom} {x : SeLeak} {t : List Int} (h : ∀ i ∈ t, 0 ≤ i ∧ i < (r.leaks.length : Int)) (X : List SeLetter) (s w : Nat) :
    fromD (leakRoom r x) X t s w = fromD r X t s w ∧ fromD (leakRoom r x) X (t ++ [(r.leaks.length : Int)]) s w ≤ fromD r X t s w := by
  unfold fromD
  rw [leak_leaks h, leak_leaks2 h]
  exact ⟨rfl, rounds_longer _ x _ _ w⟩
theorem leak_some {r : SeRoom} {x : SeLeak} (h : seErr (leakRoom r x) = 0) : someB (leakRoom r x) = true := by
  rw [someB_iff, truths_nil _ rfl]
  exact ⟨h, sets_pos _ _⟩
theorem leak_since {r : SeRoom} {x : SeLeak} (h : seErr (withHeard r []) = 0) (h2 : seErr (leakRoom r x) = 0) {u s : Nat} (hu : u < r.writers.length) (hs : s < r.kept.length) :
    ∃ lo hi m lo' hi' n, sinceOf (withHeard r []) u s = ((lo, hi), m, 0) ∧ sinceOf (leakRoom r x) u s = ((lo', hi'), n, 0) ∧ (m = 1 → n = 1) ∧ (m ≠ 2 → n ≠ 2 ∧ lo' ≤ lo) := by
  have hr : someB (withHeard r []) = true := by
    rw [someB_iff, truths_nil _ rfl]; exact ⟨h, sets_pos _ _⟩
  have hm := leak_some h2
  obtain ⟨lo, hi, m, e1, d1⟩ := since_is hr (show u < (withHeard r []).writers.length from hu) (show s < (withHeard r []).kept.length from hs)
  obtain ⟨lo', hi', n, e2, d2⟩ := since_is hm (show u < (leakRoom r x).writers.length from hu) (show s < (leakRoom r x).kept.length from hs)
  have p1 := (someB_iff.1 hr).2
  have p2 := (someB_iff.1 hm).2
  rw [truths_nil _ rfl, seSets_heard] at e1 d1 p1
  rw [truths_nil _ rfl] at e2 d2 p2
  obtain ⟨s1, s2⟩ := leak_sets r x
  have key : ∀ t ∈ seSets r, dayOf (leakRoom r x) t u s = dayOf r t u s ∧ dayOf (leakRoom r x) (t ++ [(r.leaks.length : Int)]) u s ≤ dayOf r t u s := fun t ht => by
    have := leak_from (x := x) (sets_below _ t ht) r.letters s u
    unfold dayOf
    have e : (leakRoom r x).letters = r.letters := rfl
    rw [e, this.1]
    exact ⟨rfl, by omega⟩
  refine ⟨lo, hi, _, lo', hi', _, e1, e2, fun e => ?_, fun hne => ?_⟩
  · rw [d1.1, settled_one] at e
    rw [d2.1, settled_one]
    intro t ht
    obtain ⟨l, hl, h3⟩ := s2 t ht
    have h4 : dayOf r l u s ≤ 9 := of_decide_eq_true (e l hl)
    have := key l hl
    rcases h3 with rfl | rfl
    · exact decide_eq_true (show dayOf (leakRoom r x) t u s ≤ 9 by omega)
    · exact decide_eq_true (show dayOf (leakRoom r x) (l ++ [(r.leaks.length : Int)]) u s ≤ 9 by omega)
  · have hex : m ≠ 0 := fun e => hne (by
      rw [d1.1] at e ⊢
      rw [settled_two p1]
      intro t ht
      have := List.countP_eq_zero.1 e t ht
      simpa using this)
    obtain ⟨⟨t, ht, t9, tl⟩, _, _⟩ := d1.2.2 hex
    have t9 : dayOf r t u s ≤ 9 := t9
    have tl : dayOf r t u s = lo := tl
    have hk := key t ht
    have hz := d2.pos _ (s1 t ht) (show dayOf (leakRoom r x) (t ++ [(r.leaks.length : Int)]) u s ≤ 9 by omega)
    refine ⟨fun e => ?_, ?_⟩
    · rw [d2.1, settled_two p2] at e
      have : ¬ dayOf (leakRoom r x) (t ++ [(r.leaks.length : Int)]) u s ≤ 9 := of_decide_eq_false (e _ (s1 t ht))
      omega
    · have := ((d2.2.2 hz).2.2 _ (s1 t ht) (show dayOf (leakRoom r x) (t ++ [(r.leaks.length : Int)]) u s ≤ 9 by omega)).1
      have this : lo' ≤ dayOf (leakRoom r x) (t ++ [(r.leaks.length : Int)]) u s := this
      omega
theorem leak_may {r : SeRoom} {x : SeLeak} (h : seErr (withHeard r []) = 0) (h2 : seErr (leakRoom r x) = 0) {n : Nat} (hn : n < r.letters.length) :
    ∃ a b, mayOf (withHeard r []) n = (a, 0) ∧ mayOf (leakRoom r x) n = (b, 0) ∧ subB b a = true ∧ a.length ≤ r.writers.length ∧ b.length ≤ r.writers.length := by
  have hr : someB (withHeard r []) = true := by
    rw [someB_iff, truths_nil _ rfl]; exact ⟨h, sets_pos _ _⟩
  have hm := leak_some h2
  refine ⟨_, _, may_is hr (show n < (withHeard r []).letters.length from hn), may_is hm (show n < (leakRoom r x).letters.length from hn), subB_iff.2 fun w hw => ?_, mayList_len _ _ _, mayList_len _ _ _⟩
  rw [truths_nil _ rfl, seSets_heard]
  rw [truths_nil _ rfl] at hw
  obtain ⟨w0, w1, hc⟩ := mayList_mem.1 hw
  refine mayList_mem.2 ⟨w0, w1, ?_⟩
  unfold canB at hc ⊢
  rw [List.all_eq_true] at hc ⊢
  intro s hs
  have hc : (!bitB r.letters[n].secrets s || keepsB (leakRoom r x) [{ r.letters[n] with writer := w }] (seSets (leakRoom r x)) s) = true := hc s hs
  show (!bitB r.letters[n].secrets s || keepsB r [{ r.letters[n] with writer := w }] (seSets r) s) = true
  rw [Bool.or_eq_true] at hc ⊢
  rcases hc with hc | hc
  · exact .inl hc
  · refine .inr ?_
    rw [keeps_iff] at hc ⊢
    intro t ht u hu hk h9
    refine hc _ ((leak_sets r x).1 t ht) u hu hk ?_
    have := (leak_from (x := x) (sets_below _ t ht) [{ r.letters[n] with writer := w }] s u).2
    omega
theorem leak_writers {r : SeRoom} {x : SeLeak} (h : seErr (leakRoom r x) = 0) : 0 < r.writers.length := by
  have hv := seValid_of h
  have hl : r.leaks.length < (leakRoom r x).leaks.length := by show _ < (r.leaks ++ [x]).length; simp
  have := hv.leaks r.leaks.length hl
  have e1 : (leakRoom r x).writers.length = r.writers.length := rfl
  omega
end Go.Proofs.Ytmhbjohpggghgaa
namespace Go.Proofs.Ytmhbjohpggghgaa
theorem days_none {r : SeRoom} (h : someB r = false ∨ r.writers.length = 0 ∨ r.kept.length = 0) : ∃ m e, knowsOf r 0 0 0 = (m, e) ∧ e ≠ 0 := by
  have h2 : knowsErr r 0 0 0 ≠ 0 := by
    have who : (r.writers.length = 0 ∨ r.kept.length = 0 ∨ seErr r ≠ 0) → whoErr r 0 0 ≠ 0 := fun h3 => by
      unfold whoErr
      by_cases hi : indexErr r 0 r.writers.length = 0
      · rw [if_pos hi]
        rcases h3 with h3 | h3 | h3
        · exact absurd hi (index_out (by omega))
        · exact index_out (by omega)
        · rw [index_bad h3]; exact h3
      · rw [if_neg hi]; exact hi
    unfold knowsErr
    rcases h with h | h | h
    · refine none_err h fun hb => ?_
      have := who (.inr (.inr hb))
      rw [if_neg this]; exact this
    · have := who (.inl h)
      rw [if_neg this]; exact known_bad this
    · have := who (.inr (.inl h))
      rw [if_neg this]; exact known_bad this
  exact ⟨0, knowsErr r 0 0 0, by unfold knowsOf; rw [if_neg h2], h2⟩
theorem wrong_bad {r : SeRoom} (h : seErr r ≠ 0) : seWrongOf r = ([], seErr r) := by unfold seWrongOf; rw [if_neg h]
theorem settled_lit {n : Int} {a b : Nat} (h : settled a b = n) : n = 0 ∨ n = 1 ∨ n = 2 := h ▸ settled_three a b
theorem knows_lit (r : SeRoom) (u s d : Int) {m e : Int} (h : knowsOf r u s d = (m, e)) : m = 0 ∨ m = 1 ∨ m = 2 := by
  unfold knowsOf at h
  split at h
  · exact settled_lit (Prod.mk.inj h).1
  · exact .inl (Prod.mk.inj h).1.symm
theorem told_lit (r : SeRoom) (n : Int) {m e : Int} (h : toldOf r n = (m, e)) : m = 0 ∨ m = 1 ∨ m = 2 := by
  unfold toldOf at h
  split at h
  · exact settled_lit (Prod.mk.inj h).1
  · exact .inl (Prod.mk.inj h).1.symm
theorem since_lit (r : SeRoom) (u s : Int) {d : Int × Int} {m e : Int} (h : sinceOf r u s = (d, m, e)) : m = 0 ∨ m = 1 ∨ m = 2 := by
  unfold sinceOf at h
  split at h
  · exact settled_lit (Prod.mk.inj (Prod.mk.inj h).2).1
  · exact .inl (Prod.mk.inj (Prod.mk.inj h).2).1.symm
end Go.Proofs.Ytmhbjohpggghgaa
