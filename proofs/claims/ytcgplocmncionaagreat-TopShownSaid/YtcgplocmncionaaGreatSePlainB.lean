/- What is proved here: plain facts: truths of a room as bits and as lists of leaks. No program. No condition. -/
/- What is proved here: plain facts: what a valid room is; days from letters and leaks, step by step, as numbers from 0 to 10. No program. No condition. -/
/- What is proved here: plain facts: the best plan, found by trying letter by letter and leaving what cannot be better. No program. No condition. -/
/- What is proved here: plain facts: the first of the fewest numbers that do, sought among lists or among sets. No program. No condition. -/
/- What is proved here: plain facts: what Wrong and Cut of a room find. No program. No condition. -/
import Derived.Test.YtcgplocmncionaaGreatSePlain
set_option linter.unusedVariables false
set_option linter.unusedSimpArgs false
namespace Go.Proofs.YtcgplocmncionaaGreat

/-- All sure leaks are in a set. -/
def sureIn (r : SeRoom) (k set : Nat) : Bool := (List.range k).all fun i => !sureAt r i || set.testBit i
def heardSo (r : SeRoom) (set k : Nat) : Bool := match r.heard[k]? with | some x => soB r x (bitsList set r.leaks.length) | none => true
def okHeard (r : SeRoom) (but set k : Nat) : Bool := (List.range k).all fun k => but.testBit k || heardSo r set k
def okSet (r : SeRoom) (but set : Nat) : Bool := sureIn r r.leaks.length set && okHeard r but set r.heard.length
/-- The truths, as bits. -/
def truthsP (r : SeRoom) (but : Nat) : List Nat := (List.range (2 ^ r.leaks.length)).filter (okSet r but)

theorem bitsList_succ (s n : Nat) : bitsList s (n + 1) = bitsList s n ++ (if s.testBit n then [(n : Int)] else []) := by
  unfold bitsList
  rw [List.range_succ, List.filter_append, List.map_append]
  congr 1
  cases h : s.testBit n <;> simp [h]
theorem bitsList_low (s n k : Nat) (h : k ≤ n) : bitsList (s + 2 ^ n) k = bitsList s k := by
  unfold bitsList
  congr 1
  apply List.filter_congr
  intro i hi
  rw [Nat.add_comm]
  exact Nat.testBit_two_pow_add_gt (by have := List.mem_range.1 hi; omega) s
theorem bit_high (s n : Nat) (h : s < 2 ^ n) : (s + 2 ^ n).testBit n = true := by
  rw [Nat.add_comm, Nat.testBit_two_pow_add_eq, Nat.testBit_lt_two_pow h]; rfl
theorem bit_high_no (s n : Nat) (h : s < 2 ^ n) : s.testBit n = false := Nat.testBit_lt_two_pow h
theorem sureIn_succ (r : SeRoom) (k set : Nat) : sureIn r (k + 1) set = (sureIn r k set && (!sureAt r k || set.testBit k)) := by
  unfold sureIn; rw [List.range_succ, List.all_append]; simp
theorem sureIn_low (r : SeRoom) (s n k : Nat) (h : k ≤ n) : sureIn r k (s + 2 ^ n) = sureIn r k s := by
  unfold sureIn
  rw [Bool.eq_iff_iff, List.all_eq_true, List.all_eq_true]
  constructor
  · intro H i hi
    have := H i hi
    rwa [Nat.add_comm, Nat.testBit_two_pow_add_gt (by have := List.mem_range.1 hi; omega) s] at this
  · intro H i hi
    rw [Nat.add_comm, Nat.testBit_two_pow_add_gt (by have := List.mem_range.1 hi; omega) s]
    exact H i hi
theorem range_double (n : Nat) : List.range (2 ^ (n + 1)) = List.range (2 ^ n) ++ (List.range (2 ^ n)).map (· + 2 ^ n) := by
  rw [Nat.pow_succ, Nat.mul_two, List.range_add]
  congr 1
  apply List.map_congr_left
  intro a _
  omega
theorem flatMap_two {α β : Type} (L : List α) (f g : α → List β) : (L.flatMap fun x => f x ++ g x).Perm (L.flatMap f ++ L.flatMap g) := by
  induction L with
  | nil => simp
  | cons a L ih =>
    simp only [List.flatMap_cons]
    refine (List.Perm.append_left _ ih).trans ?_
    simp only [List.append_assoc]
    refine List.Perm.append_left _ ?_
    rw [← List.append_assoc, ← List.append_assoc]
    exact List.Perm.append_right _ List.perm_append_comm
theorem sets_perm (r : SeRoom) : ∀ k, (setsTo r k).Perm (((List.range (2 ^ k)).filter (sureIn r k)).map fun s => bitsList s k)
  | 0 => by
    have : ((List.range (2 ^ 0)).filter (sureIn r 0)) = [0] := rfl
    rw [this]
    exact List.Perm.refl _
  | k + 1 => by
    show ((setsTo r k).flatMap (setStep r k)).Perm _
    have ih := sets_perm r k
    refine (List.Perm.flatMap_right (setStep r k) ih).trans ?_
    rw [range_double, List.filter_append, List.map_append]
    have e1 : ((List.range (2 ^ k)).map (· + 2 ^ k)).filter (sureIn r (k + 1)) = ((List.range (2 ^ k)).filter (sureIn r k)).map (· + 2 ^ k) := by
      rw [List.filter_map]
      congr 1
      apply List.filter_congr
      intro s hs
      show sureIn r (k + 1) (s + 2 ^ k) = _
      rw [sureIn_succ, sureIn_low r s k k (Nat.le_refl _), bit_high s k (List.mem_range.1 hs)]
      simp
    have e2 : (List.range (2 ^ k)).filter (sureIn r (k + 1)) = if sureAt r k then [] else (List.range (2 ^ k)).filter (sureIn r k) := by
      cases hs : sureAt r k
      · simp only [Bool.false_eq_true, if_false]
        apply List.filter_congr
        intro s _
        rw [sureIn_succ, hs]; simp
      · simp only [if_true]
        rw [List.filter_eq_nil_iff]
        intro s h
        rw [sureIn_succ, hs, bit_high_no s k (List.mem_range.1 h)]
        simp
    rw [e1, e2]
    unfold setStep
    refine (flatMap_two _ _ _).trans (List.Perm.append ?_ ?_)
    · cases hs : sureAt r k
      · simp only [Bool.false_eq_true, if_false]
        rw [List.flatMap_singleton']
        have : ∀ s ∈ (List.range (2 ^ k)).filter (sureIn r k), bitsList s (k + 1) = bitsList s k := fun s h => by
          rw [bitsList_succ, bit_high_no s k (List.mem_range.1 (List.mem_filter.1 h).1)]; simp
        rw [List.map_congr_left this]
      · simp
    · rw [← List.map_eq_flatMap, List.map_map, List.map_map]
      refine List.Perm.of_eq (List.map_congr_left fun s h => ?_)
      have hlt := List.mem_range.1 (List.mem_filter.1 h).1
      show bitsList s k ++ [(k : Int)] = bitsList (s + 2 ^ k) (k + 1)
      rw [bitsList_succ, bitsList_low s k k (Nat.le_refl _), bit_high s k hlt]
      rfl
theorem seTrue_bits (r : SeRoom) (but set : Nat) : seTrue r (bitsList but r.heard.length) (bitsList set r.leaks.length) = okHeard r but set r.heard.length := by
  unfold seTrue okHeard
  rw [Bool.eq_iff_iff, List.all_eq_true, List.all_eq_true]
  have e : ∀ k ∈ List.range r.heard.length, soAt r (bitsList but r.heard.length) (bitsList set r.leaks.length) k = (but.testBit k || heardSo r set k) := fun k hk => by
    unfold soAt heardSo
    rw [hasB_bits but r.heard.length k (List.mem_range.1 hk)]
    cases r.heard[k]? <;> rfl
  exact ⟨fun h k hk => by rw [← e k hk]; exact h k hk, fun h k hk => by rw [e k hk]; exact h k hk⟩
/-- **The truths, as lists and as bits.** -/
theorem truths_perm (r : SeRoom) (but : Nat) : (seTruths r (bitsList but r.heard.length)).Perm ((truthsP r but).map fun s => bitsList s r.leaks.length) := by
  unfold seTruths seSets
  refine ((sets_perm r r.leaks.length).filter _).trans ?_
  rw [List.filter_map]
  refine List.Perm.map _ ?_
  unfold truthsP
  rw [List.filter_filter]
  refine List.Perm.of_eq (List.filter_congr fun s _ => ?_)
  show (seTrue r _ (bitsList s _) && sureIn r _ s) = okSet r but s
  unfold okSet
  rw [seTrue_bits, Bool.and_comm]
theorem bits_none (m : Nat) : bitsList 0 m = [] := by
  unfold bitsList
  simp
theorem truths_perm0 (r : SeRoom) : (seTruths r []).Perm ((truthsP r 0).map fun s => bitsList s r.leaks.length) := by
  have := truths_perm r 0
  rwa [bits_none] at this
theorem truths_len0 (r : SeRoom) : (seTruths r []).length = (truthsP r 0).length := by
  have := (truths_perm0 r).length_eq
  simpa using this
theorem truths_len_but (r : SeRoom) (but : Nat) : (seTruths r (bitsList but r.heard.length)).length = (truthsP r but).length := by
  have := (truths_perm r but).length_eq
  simpa using this
theorem truths_count (r : SeRoom) (p : List Int → Bool) : (seTruths r []).countP p = (truthsP r 0).countP fun s => p (bitsList s r.leaks.length) := by
  rw [(truths_perm0 r).countP_eq, List.countP_map]
  rfl
theorem truths_all (r : SeRoom) (p : List Int → Bool) : (seTruths r []).all p = (truthsP r 0).all fun s => p (bitsList s r.leaks.length) := by
  rw [(truths_perm0 r).all_eq, List.all_map]
  rfl
theorem truthsP_lt {r : SeRoom} {but s : Nat} (h : s ∈ truthsP r but) : s < 2 ^ r.leaks.length := List.mem_range.1 (List.mem_filter.1 h).1

/-- The days of those that know, however they stand: how many, the first, the last. -/
def DaysL {α : Type} (f : α → Int) (l : List α) (n : Nat) (lo hi : Int) : Prop :=
  n = l.countP (fun t => decide (f t ≤ 9)) ∧ (n = 0 → lo = 0 ∧ hi = 0) ∧ (n ≠ 0 → (∃ t ∈ l, f t ≤ 9 ∧ f t = lo) ∧ (∃ t ∈ l, f t ≤ 9 ∧ f t = hi) ∧ ∀ t ∈ l, f t ≤ 9 → lo ≤ f t ∧ f t ≤ hi)
theorem DaysL.perm {α β : Type} {f : α → Int} {g : β → Int} {l : List α} {k : List β} {n n' : Nat} {lo hi lo' hi' : Int} (m : β → α) (hp : l.Perm (k.map m)) (hfg : ∀ t ∈ k, f (m t) = g t) (h : DaysL f l n lo hi) (h' : DaysL g k n' lo' hi') : n = n' ∧ lo = lo' ∧ hi = hi' := by
  obtain ⟨h1, h2, h3⟩ := h
  obtain ⟨k1, k2, k3⟩ := h'
  have e : n = n' := by
    rw [h1, k1, hp.countP_eq, List.countP_map]
    refine List.countP_congr fun t ht => ?_
    simp [hfg t ht]
  subst e
  refine ⟨rfl, ?_⟩
  by_cases hn : n = 0
  · rw [(h2 hn).1, (h2 hn).2, (k2 hn).1, (k2 hn).2]; exact ⟨rfl, rfl⟩
  · obtain ⟨⟨a, ha, ha9, ea⟩, ⟨b, hb, hb9, eb⟩, hall⟩ := h3 hn
    obtain ⟨⟨c, hc, hc9, ec⟩, ⟨d, hd, hd9, ed⟩, kall⟩ := k3 hn
    have back : ∀ t ∈ l, ∃ s ∈ k, g s = f t := fun t ht => by
      obtain ⟨s, hs, rfl⟩ := List.mem_map.1 (hp.mem_iff.1 ht)
      exact ⟨s, hs, (hfg s hs).symm⟩
    have forth : ∀ s ∈ k, ∃ t ∈ l, f t = g s := fun s hs => ⟨m s, hp.mem_iff.2 (List.mem_map.2 ⟨s, hs, rfl⟩), hfg s hs⟩
    obtain ⟨a', ha', ea'⟩ := back a ha
    obtain ⟨b', hb', eb'⟩ := back b hb
    obtain ⟨c', hc', ec'⟩ := forth c hc
    obtain ⟨d', hd', ed'⟩ := forth d hd
    have := kall a' ha' (by omega)
    have := kall b' hb' (by omega)
    have := hall c' hc' (by omega)
    have := hall d' hd' (by omega)
    omega
theorem days_nil {α : Type} (f : α → Int) : DaysL f [] 0 0 0 := ⟨rfl, fun _ => ⟨rfl, rfl⟩, fun h => absurd rfl h⟩
theorem days_skip {α : Type} {f : α → Int} {l : List α} {n : Nat} {lo hi : Int} (h : DaysL f l n lo hi) (x : α) (hx : 9 < f x) : DaysL f (l ++ [x]) n lo hi := by
  obtain ⟨h1, h2, h3⟩ := h
  refine ⟨by rw [List.countP_append, ← h1]; simp [show ¬ f x ≤ 9 from by omega], h2, fun hn => ?_⟩
  obtain ⟨⟨a, ha, ha9, ea⟩, ⟨b, hb, hb9, eb⟩, hall⟩ := h3 hn
  refine ⟨⟨a, by simp [ha], ha9, ea⟩, ⟨b, by simp [hb], hb9, eb⟩, fun t ht ht9 => ?_⟩
  rcases List.mem_append.1 ht with ht | ht
  · exact hall t ht ht9
  · have : t = x := by simpa using ht
    subst this
    omega
theorem days_first {α : Type} {f : α → Int} {l : List α} {lo hi : Int} (h : DaysL f l 0 lo hi) (x : α) (hx : f x ≤ 9) : DaysL f (l ++ [x]) 1 (f x) (f x) := by
  obtain ⟨h1, _, _⟩ := h
  have h0 : ∀ t ∈ l, ¬ f t ≤ 9 := by
    have := List.countP_eq_zero.1 h1.symm
    intro t ht h9
    have := this t ht
    simp at this
    omega
  refine ⟨by rw [List.countP_append, ← h1]; simp [hx], fun h => by omega, fun _ => ⟨⟨x, by simp, hx, rfl⟩, ⟨x, by simp, hx, rfl⟩, fun t ht ht9 => ?_⟩⟩
  rcases List.mem_append.1 ht with ht | ht
  · exact absurd ht9 (h0 t ht)
  · have : t = x := by simpa using ht
    subst this
    omega
theorem days_more {α : Type} {f : α → Int} {l : List α} {n : Nat} {lo hi : Int} (h : DaysL f l n lo hi) (hn : n ≠ 0) (x : α) (hx : f x ≤ 9) : DaysL f (l ++ [x]) (n + 1) (min lo (f x)) (max hi (f x)) := by
  obtain ⟨h1, h2, h3⟩ := h
  obtain ⟨⟨a, ha, ha9, ea⟩, ⟨b, hb, hb9, eb⟩, hall⟩ := h3 hn
  refine ⟨by rw [List.countP_append, ← h1]; simp [hx], fun h => by omega, fun _ => ⟨?_, ?_, fun t ht ht9 => ?_⟩⟩
  · by_cases hl : lo ≤ f x
    · exact ⟨a, by simp [ha], ha9, by omega⟩
    · exact ⟨x, by simp, hx, by omega⟩
  · by_cases hl : f x ≤ hi
    · exact ⟨b, by simp [hb], hb9, by omega⟩
    · exact ⟨x, by simp, hx, by omega⟩
  · rcases List.mem_append.1 ht with ht | ht
    · have := hall t ht ht9
      omega
    · have : t = x := by simpa using ht
      subst this
      omega
theorem DaysL.pos {α : Type} {f : α → Int} {l : List α} {n : Nat} {lo hi : Int} (h : DaysL f l n lo hi) (x : α) (hx : x ∈ l) (h9 : f x ≤ 9) : n ≠ 0 := by
  intro e
  have h0 := h.1
  rw [e] at h0
  have := List.countP_eq_zero.1 h0.symm x hx
  simp at this
  omega
theorem daysTo_spec (f : List Int → Int) : ∀ l : List (List Int), DaysL f l (daysTo f l).1 (daysTo f l).2.1 (daysTo f l).2.2
  | [] => days_nil f
  | t :: l => by
    have ih := daysTo_spec f l
    have mv : ∀ {n lo hi}, DaysL f (l ++ [t]) n lo hi → DaysL f (t :: l) n lo hi := fun {n lo hi} h => by
      obtain ⟨h1, h2, h3⟩ := h
      have hp : (l ++ [t]).Perm (t :: l) := List.perm_append_comm
      refine ⟨h1.trans (hp.countP_eq _), h2, fun hn => ?_⟩
      obtain ⟨⟨a, ha, ha9⟩, ⟨b, hb, hb9⟩, hall⟩ := h3 hn
      exact ⟨⟨a, hp.mem_iff.1 ha, ha9⟩, ⟨b, hp.mem_iff.1 hb, hb9⟩, fun x hx => hall x (hp.mem_iff.2 hx)⟩
    rw [daysTo]
    generalize daysTo f l = p at ih
    obtain ⟨n, lo, hi⟩ := p
    simp only at ih ⊢
    by_cases h9 : 9 < f t
    · rw [if_pos h9]; exact mv (days_skip ih t h9)
    · rw [if_neg h9]
      by_cases hn : n = 0
      · subst hn; rw [if_pos rfl]; exact mv (days_first ih t (by omega))
      · rw [if_neg hn]; exact mv (days_more ih hn t (by omega))
end Go.Proofs.YtcgplocmncionaaGreat
namespace Go.Proofs.YtcgplocmncionaaGreat

structure SeValid (r : SeRoom) : Prop where
  nw : r.writers.length ≤ 4
  nk : r.kept.length ≤ 3
  nl : r.leaks.length ≤ 4
  nt : r.letters.length ≤ 4
  nh : r.heard.length ≤ 3
  kept : ∀ i (h : i < r.kept.length), 0 ≤ r.kept[i] ∧ r.kept[i] < 2 ^ r.writers.length
  leaks : ∀ i (h : i < r.leaks.length), 0 ≤ r.leaks[i].src ∧ r.leaks[i].src < r.writers.length ∧ 0 ≤ r.leaks[i].dst ∧ r.leaks[i].dst < r.writers.length
  letters : ∀ i (h : i < r.letters.length), 0 ≤ r.letters[i].day ∧ r.letters[i].day ≤ 9 ∧ 0 ≤ r.letters[i].secrets ∧ r.letters[i].secrets < 2 ^ r.kept.length ∧ -1 ≤ r.letters[i].writer ∧ r.letters[i].writer < r.writers.length
  heard : ∀ i (h : i < r.heard.length), 0 ≤ r.heard[i].writer ∧ r.heard[i].writer < r.writers.length ∧ 0 ≤ r.heard[i].secret ∧ r.heard[i].secret < r.kept.length ∧ 0 ≤ r.heard[i].day ∧ r.heard[i].day ≤ 9
  fresh : ∀ i, i < r.writers.length → writerErr r i = 0

theorem seValid_of {r : SeRoom} (h : seErr r = 0) : SeValid r := by
  unfold seErr seCheck at h
  obtain ⟨a1, b1, h⟩ := checkPart_zero h
  obtain ⟨a2, b2, h⟩ := checkPart_zero h
  obtain ⟨a3, b3, h⟩ := checkPart_zero h
  obtain ⟨a4, b4, h⟩ := checkPart_zero h
  obtain ⟨a5, b5, h⟩ := checkPart_zero h
  refine ⟨a1, a2, a3, a4, a5, fun i hi => ?_, fun i hi => ?_, fun i hi => ?_, fun i hi => ?_, b1⟩
  · have := b2 i hi
    unfold keptErr at this
    rw [List.getElem?_eq_getElem hi] at this
    simp only at this
    by_cases hb : inB r.kept[i] 0 (allBits r.writers.length) = true
    · have := inB_iff.1 hb
      unfold allBits at this
      omega
    · rw [if_neg hb] at this; omega
  · have := b3 i hi
    unfold leakErr leakErrOf at this
    rw [List.getElem?_eq_getElem hi] at this
    simp only at this
    by_cases hb : (seWho r r.leaks[i].src && seWho r r.leaks[i].dst) = true
    · rw [Bool.and_eq_true] at hb
      unfold seWho at hb
      have h1 := inB_iff.1 hb.1
      have h2 := inB_iff.1 hb.2
      omega
    · rw [if_neg hb] at this; omega
  · have := b4 i hi
    unfold letterErr letterErrOf at this
    rw [List.getElem?_eq_getElem hi] at this
    simp only at this
    by_cases hb : inB r.letters[i].day 0 9 = true
    · rw [if_pos hb] at this
      by_cases hc : (inB r.letters[i].secrets 0 (allBits r.kept.length) && inB r.letters[i].writer (-1) ((r.writers.length : Int) - 1)) = true
      · rw [Bool.and_eq_true] at hc
        have h1 := inB_iff.1 hb
        have h2 := inB_iff.1 hc.1
        have h3 := inB_iff.1 hc.2
        unfold allBits at h2
        omega
      · rw [if_neg hc] at this; omega
    · rw [if_neg hb] at this; omega
  · have := b5 i hi
    unfold heardErr heardErrOf at this
    rw [List.getElem?_eq_getElem hi] at this
    simp only at this
    by_cases hb : (seWho r r.heard[i].writer && inB r.heard[i].secret 0 ((r.kept.length : Int) - 1)) = true
    · rw [if_pos hb] at this
      rw [Bool.and_eq_true] at hb
      unfold seWho at hb
      by_cases hc : inB r.heard[i].day 0 9 = true
      · have h1 := inB_iff.1 hb.1
        have h2 := inB_iff.1 hb.2
        have h3 := inB_iff.1 hc
        omega
      · rw [if_neg hc] at this; omega
    · rw [if_neg hb] at this; omega

/-- Days from 0 to 10. -/
def Days (d : Nat → Int) : Prop := ∀ w, 0 ≤ d w ∧ d w ≤ 10
theorem Days.relax {d : Nat → Int} (h : Days d) (x : SeLeak) : Days (relax d x) := fun w => by
  unfold Go.Proofs.YtcgplocmncionaaGreat.relax
  have h1 := h w
  have h2 := h x.src.toNat
  split <;> omega
theorem Days.relaxL : ∀ (L : List SeLeak) {d : Nat → Int}, Days d → Days (relaxL L d)
  | [], _, h => h
  | x :: L, _, h => Days.relaxL L (h.relax x)
theorem Days.rounds {L : List SeLeak} {d : Nat → Int} (h : Days d) : ∀ k, Days (rounds L d k)
  | 0 => h
  | k + 1 => (Days.rounds h k).relaxL L
def noDay : Nat → Int := fun _ => 10
theorem noDay_days : Days noDay := fun _ => ⟨(by decide : (0 : Int) ≤ 10), (by decide : (10 : Int) ≤ 10)⟩
/-- One letter. -/
def startOne (s : Nat) (d : Nat → Int) (x : SeLetter) : Nat → Int := fun w => if x.writer = (w : Int) ∧ bitB x.secrets s = true then min (d w) x.day else d w
theorem startDay_snoc (L : List SeLetter) (x : SeLetter) (s : Nat) : startDay (L ++ [x]) s = startOne s (startDay L s) x := by
  funext w
  unfold startDay startOne
  rw [List.foldl_append]
  rfl
theorem startDay_succ (L : List SeLetter) (s k : Nat) (hk : k < L.length) : startDay (L.take (k + 1)) s = startOne s (startDay (L.take k) s) L[k] := by
  rw [List.take_succ_eq_append_getElem hk, startDay_snoc]
theorem startOne_days {s : Nat} {d : Nat → Int} {x : SeLetter} (h : Days d) (hx : 0 ≤ x.day) : Days (startOne s d x) := fun w => by
  unfold startOne
  have := h w
  split <;> omega
theorem startDay_days {L : List SeLetter} (s : Nat) (h : ∀ x ∈ L, 0 ≤ x.day) : Days (startDay L s) := by
  suffices g : ∀ k, k ≤ L.length → Days (startDay (L.take k) s) by have := g L.length (Nat.le_refl _); rwa [List.take_length] at this
  intro k
  induction k with
  | zero => intro _; rw [List.take_zero]; exact noDay_days
  | succ k ih => intro hk; rw [startDay_succ L s k (by omega)]; exact startOne_days (ih (by omega)) (h _ (List.getElem_mem (by omega)))

theorem leaksOf_append (r : SeRoom) (a b : List Int) : leaksOf r (a ++ b) = leaksOf r a ++ leaksOf r b := List.filterMap_append ..
theorem relaxL_append (a b : List SeLeak) (d : Nat → Int) : relaxL (a ++ b) d = relaxL b (relaxL a d) := List.foldl_append ..
/-- The first k leaks of a set. -/
def relaxTo (r : SeRoom) (set k : Nat) (d : Nat → Int) : Nat → Int := relaxL (leaksOf r (bitsList set k)) d
theorem relaxTo_succ (r : SeRoom) (set k : Nat) (d : Nat → Int) (hk : k < r.leaks.length) : relaxTo r set (k + 1) d = if set.testBit k then relax (relaxTo r set k d) r.leaks[k] else relaxTo r set k d := by
  unfold relaxTo
  rw [bitsList_succ]
  cases h : set.testBit k
  · simp
  · simp only [if_true]
    rw [leaksOf_append, relaxL_append]
    have : leaksOf r [(k : Int)] = [r.leaks[k]] := by
      unfold leaksOf
      simp [List.getElem?_eq_getElem hk]
    rw [this]
    rfl
theorem relaxTo_days (r : SeRoom) (set k : Nat) {d : Nat → Int} (h : Days d) : Days (relaxTo r set k d) := h.relaxL _
/-- Leaks among four writers turn four days alone. -/
theorem relax_out {r : SeRoom} (hv : SeValid r) (l : List Int) (d : Nat → Int) (w : Nat) (hw : r.writers.length ≤ w) : relaxL (leaksOf r l) d w = d w := by
  have hx : ∀ x ∈ leaksOf r l, x.dst.toNat < r.writers.length := fun x hx => by
    unfold leaksOf at hx
    obtain ⟨i, _, hi⟩ := List.mem_filterMap.1 hx
    obtain ⟨h1, h2⟩ := List.getElem?_eq_some_iff.1 hi
    have := hv.leaks _ h1
    rw [h2] at this
    omega
  generalize leaksOf r l = L at hx
  induction L generalizing d with
  | nil => rfl
  | cons x L ih =>
    show relaxL L (relax d x) w = d w
    rw [ih _ (fun y hy => hx y (by simp [hy]))]
    unfold relax
    rw [if_neg (by have := hx x (by simp); omega)]
theorem leaksOf_src {r : SeRoom} (hv : SeValid r) (l : List Int) : ∀ x ∈ leaksOf r l, x.src.toNat < r.writers.length := fun x hx => by
  unfold leaksOf at hx
  obtain ⟨i, _, hi⟩ := List.mem_filterMap.1 hx
  obtain ⟨h1, h2⟩ := List.getElem?_eq_some_iff.1 hi
  have := hv.leaks _ h1
  rw [h2] at this
  omega
/-- A round that turns none of four days: it is over. -/
theorem spread_done {r : SeRoom} (hv : SeValid r) (set : Nat) (d : Nat → Int) (k : Nat) (h : ∀ w, w < 4 → relaxTo r set r.leaks.length (rounds (leaksOf r (bitsList set r.leaks.length)) d k) w = rounds (leaksOf r (bitsList set r.leaks.length)) d k w) :
    rounds (leaksOf r (bitsList set r.leaks.length)) d k = rounds (leaksOf r (bitsList set r.leaks.length)) d r.writers.length := by
  refine rounds_fix (leaksOf_src hv _) (funext fun w => ?_)
  by_cases hw : w < 4
  · exact h w hw
  · exact relax_out hv _ _ w (by have := hv.nw; omega)
/-- The days of four. -/
def sum4 (d : Nat → Int) : Nat := (d 0).toNat + (d 1).toNat + (d 2).toNat + (d 3).toNat
theorem sum4_less {r : SeRoom} (set : Nat) {d : Nat → Int} (hd : Days d) (h : ¬ ∀ w, w < 4 → relaxTo r set r.leaks.length d w = d w) : sum4 (relaxTo r set r.leaks.length d) < sum4 d := by
  have hle := relaxL_le (leaksOf r (bitsList set r.leaks.length)) d
  have hD := relaxTo_days r set r.leaks.length hd
  have hex : ∃ w, w < 4 ∧ relaxTo r set r.leaks.length d w ≠ d w := by
    refine Classical.byContradiction fun hno => h (fun w hw => ?_)
    refine Classical.byContradiction fun hne => hno ⟨w, hw, hne⟩
  obtain ⟨w, hw, hne⟩ := hex
  have a0 : relaxTo r set r.leaks.length d 0 ≤ d 0 := hle 0
  have a1 : relaxTo r set r.leaks.length d 1 ≤ d 1 := hle 1
  have a2 : relaxTo r set r.leaks.length d 2 ≤ d 2 := hle 2
  have a3 : relaxTo r set r.leaks.length d 3 ≤ d 3 := hle 3
  have b0 := (hD 0).1
  have b1 := (hD 1).1
  have b2 := (hD 2).1
  have b3 := (hD 3).1
  unfold sum4
  obtain rfl | rfl | rfl | rfl : w = 0 ∨ w = 1 ∨ w = 2 ∨ w = 3 := by omega
  all_goals omega
/-- Since when, by leaks as bits. -/
def sinceP (r : SeRoom) (set s : Nat) : Nat → Int := fromD r r.letters (bitsList set r.leaks.length) s
theorem sinceP_days {r : SeRoom} (hv : SeValid r) (set s : Nat) : Days (sinceP r set s) :=
  Days.rounds (startDay_days s (fun x hx => by
    obtain ⟨i, hi, rfl⟩ := List.getElem_of_mem hx
    exact (hv.letters i hi).1)) _
theorem dayOf_bits {r : SeRoom} (hv : SeValid r) (set w s : Nat) : dayOf r (bitsList set r.leaks.length) w s = sinceP r set s w := by
  unfold dayOf
  have := (sinceP_days hv set s w).2
  show min 10 (sinceP r set s w) = _
  omega
theorem sureBits_or (r : SeRoom) (k : Nat) : setOf (((List.range (k + 1)).filter (sureAt r)).map fun (i : Nat) => (i : Int)) = if sureAt r k then setOf (((List.range k).filter (sureAt r)).map fun (i : Nat) => (i : Int)) ||| (1 <<< k) else setOf (((List.range k).filter (sureAt r)).map fun (i : Nat) => (i : Int)) := by
  rw [List.range_succ, List.filter_append, List.map_append]
  cases h : sureAt r k
  · simp [h]
  · simp only [List.filter_cons_of_pos h, List.filter_nil, List.map_cons, List.map_nil, if_true]
    unfold setOf
    rw [List.foldl_append]
    rfl
/-- The sure leaks, as bits. -/
def sureTo (r : SeRoom) (k : Nat) : Nat := setOf (((List.range k).filter (sureAt r)).map fun (i : Nat) => (i : Int))
theorem sureTo_lt (r : SeRoom) (k : Nat) (h : k ≤ 4) : sureTo r k < 16 := by
  have : sureTo r k < 2 ^ k := setOf_lt _ k (fun x hx => by
    obtain ⟨i, hi, rfl⟩ := List.mem_map.1 hx
    have := List.mem_range.1 (List.mem_filter.1 hi).1
    omega)
  have h2 : 2 ^ k ≤ 2 ^ 4 := Nat.pow_le_pow_right (by omega) h
  omega
theorem sureTo_bit (r : SeRoom) (k i : Nat) : (sureTo r k).testBit i = (decide (i < k) && sureAt r i) := by
  unfold sureTo
  rw [setOf_bit _ _ (fun x hx => by obtain ⟨i, _, rfl⟩ := List.mem_map.1 hx; omega), Bool.eq_iff_iff]
  simp only [decide_eq_true_eq, Bool.and_eq_true, List.mem_map, List.mem_filter, List.mem_range]
  constructor
  · rintro ⟨j, ⟨h1, h2⟩, h3⟩
    have : j = i := by omega
    subst this
    exact ⟨h1, h2⟩
  · rintro ⟨h1, h2⟩
    exact ⟨i, ⟨h1, h2⟩, rfl⟩
/-- No sure leak is missing: as bits. -/
theorem sure_gone : ∀ a : Nat, a < 16 → ∀ b : Nat, b < 16 → (decide (a &&& (15 ^^^ b) = 0)) = (List.range 4).all fun i => !a.testBit i || b.testBit i := by decide +kernel
theorem sureIn_bits (r : SeRoom) (hl : r.leaks.length ≤ 4) (set : Nat) (hs : set < 16) : sureIn r r.leaks.length set = decide (sureTo r r.leaks.length &&& (15 ^^^ set) = 0) := by
  rw [sure_gone _ (sureTo_lt r _ hl) set hs]
  unfold sureIn
  rw [Bool.eq_iff_iff, List.all_eq_true, List.all_eq_true]
  constructor
  · intro h i hi
    rw [sureTo_bit]
    by_cases hlt : i < r.leaks.length
    · have := h i (List.mem_range.2 hlt)
      simp only [hlt, decide_true, Bool.true_and]
      exact this
    · simp [hlt]
  · intro h i hi
    have hlt := List.mem_range.1 hi
    have := h i (List.mem_range.2 (by omega))
    rw [sureTo_bit] at this
    simpa [hlt] using this
end Go.Proofs.YtcgplocmncionaaGreat
namespace Go.Proofs.YtcgplocmncionaaGreat

/-- All that can be given to the letters to come. -/
def plansFrom (r : SeRoom) : Nat → List Int → List (List Int)
  | 0, p => [p]
  | i + 1, p => (planStep r p).flatMap (plansFrom r i)
theorem plansTo_from (r : SeRoom) : ∀ (j i : Nat), plansTo r (i + j) = (plansTo r i).flatMap (plansFrom r j)
  | 0, i => by
    show plansTo r i = (plansTo r i).flatMap fun p => [p]
    rw [List.flatMap_singleton']
  | j + 1, i => by
    rw [show i + (j + 1) = (i + 1) + j from by omega, plansTo_from r j (i + 1)]
    show ((plansTo r i).flatMap (planStep r)).flatMap (plansFrom r j) = _
    rw [List.flatMap_assoc]
    rfl
theorem sePlans_from (r : SeRoom) : sePlans r = plansFrom r r.letters.length [] := by
  unfold sePlans
  have := plansTo_from r r.letters.length 0
  rw [Nat.zero_add] at this
  rw [this]
  show [[]].flatMap _ = _
  simp
theorem planStep_mem {r : SeRoom} {p q : List Int} (h : q ∈ planStep r p) : ∃ w, q = p ++ [w] ∧ (w = -1 ∨ ∃ k : Nat, k < r.writers.length ∧ w = (k : Int)) := by
  unfold planStep at h
  rcases List.mem_append.1 h with h | h
  · obtain ⟨k, hk, rfl⟩ := List.mem_map.1 h
    exact ⟨_, rfl, .inr ⟨k, List.mem_range.1 hk, rfl⟩⟩
  · have : q = p ++ [-1] := by simpa using h
    exact ⟨_, this, .inl rfl⟩
theorem plansFrom_pre {r : SeRoom} : ∀ (j : Nat) (p q : List Int), q ∈ plansFrom r j p → p <+: q ∧ q.length = p.length + j
  | 0, p, q, h => by
    have : q = p := by simpa [plansFrom] using h
    subst this
    exact ⟨List.prefix_refl _, rfl⟩
  | j + 1, p, q, h => by
    obtain ⟨p', hp', hq⟩ := List.mem_flatMap.1 h
    obtain ⟨w, rfl, _⟩ := planStep_mem hp'
    obtain ⟨h1, h2⟩ := plansFrom_pre j _ _ hq
    refine ⟨(List.prefix_append p [w]).trans h1, ?_⟩
    rw [h2]; simp; omega
theorem waiting_pre {p q : List Int} (h : p <+: q) : waitingOf p ≤ waitingOf q := by
  obtain ⟨t, rfl⟩ := h
  unfold waitingOf
  rw [List.countP_append]
  omega
theorem waiting_snoc (p : List Int) (w : Int) : waitingOf (p ++ [w]) = waitingOf p + if w = -1 then 1 else 0 := by
  unfold waitingOf
  rw [List.countP_append]
  by_cases h : w = -1 <;> simp [h]
theorem pre_get {p q : List Int} (h : p <+: q) (i : Nat) (hi : i < p.length) : q[i]?.getD 0 = p[i]?.getD 0 := by
  obtain ⟨t, rfl⟩ := h
  rw [List.getElem?_append_left hi]
theorem fitsAt_pre {r : SeRoom} {T : List (List Int)} {p q : List Int} (h : p <+: q) (i : Nat) (hi : i < p.length) : fitsAt r T q i = fitsAt r T p i := by
  unfold fitsAt
  simp only [pre_get h i hi]
  congr 3
  rw [Bool.eq_iff_iff]
  simp only [Bool.and_eq_true, List.all_eq_true]
  constructor
  · intro h2 k hk
    have := h2 k hk; rwa [pre_get h k (by have := List.mem_range.1 hk; omega)] at this
  · intro h2 k hk
    have := h2 k hk; rwa [pre_get h k (by have := List.mem_range.1 hk; omega)]
/-- Nothing that is to come is better. -/
def noBetter (best : Option (List Int)) (n : Nat) : Bool := match best with | some q => decide (waitingOf q ≤ n) | none => false
theorem fold_same {r : SeRoom} {T : List (List Int)} (b : Option (List Int)) (L : List (List Int)) (h : ∀ q ∈ L, bestStep r T b q = b) : L.foldl (bestStep r T) b = b := by
  induction L with
  | nil => rfl
  | cons a L ih =>
    rw [List.foldl_cons, h a (by simp)]
    exact ih fun q hq => h q (by simp [hq])
theorem fold_pruned {r : SeRoom} {T : List (List Int)} {b : Option (List Int)} {j : Nat} {p : List Int} (h : noBetter b (waitingOf p) = true) : (plansFrom r j p).foldl (bestStep r T) b = b := by
  refine fold_same b _ fun q hq => ?_
  have h1 := waiting_pre (plansFrom_pre j p q hq).1
  cases b with
  | none => simp [noBetter] at h
  | some c =>
    simp only [noBetter, decide_eq_true_eq] at h
    unfold bestStep
    simp only
    rw [if_neg (by simp; omega)]
theorem fold_unfit {r : SeRoom} {T : List (List Int)} {b : Option (List Int)} {j : Nat} {p : List Int} (i : Nat) (hi : i < p.length) (h : fitsAt r T p i = false) : (plansFrom r j p).foldl (bestStep r T) b = b := by
  refine fold_same b _ fun q hq => ?_
  have h1 := plansFrom_pre j p q hq
  have h2 : fitsB r T q = false := by
    unfold fitsB
    rw [Bool.and_eq_false_iff]
    right
    rw [List.all_eq_false]
    refine ⟨i, List.mem_range.2 (by omega), ?_⟩
    rw [fitsAt_pre h1.1 i hi, h]
    simp
  unfold bestStep
  cases b with
  | none => simp only; rw [if_neg (by simp [h2])]
  | some c => simp only; rw [if_neg (by simp [h2])]
/-- The search. -/
def tryW (r : SeRoom) (T : List (List Int)) (next : List Int → Option (List Int) → Option (List Int)) (p : List Int) (w : Int) (b : Option (List Int)) : Option (List Int) := if fitsAt r T (p ++ [w]) p.length then next (p ++ [w]) b else b
def dfs (r : SeRoom) (T : List (List Int)) : Nat → List Int → Option (List Int) → Option (List Int)
  | 0, p, b => if noBetter b (waitingOf p) then b else some p
  | j + 1, p, b => if noBetter b (waitingOf p) then b else tryW r T (dfs r T j) p (-1) ((List.range r.writers.length).foldl (fun b (w : Nat) => tryW r T (dfs r T j) p (w : Int) b) b)
theorem dfs_fold {r : SeRoom} {T : List (List Int)} : ∀ (j : Nat) (p : List Int) (b : Option (List Int)), p.length + j = r.letters.length → (∀ i, i < p.length → fitsAt r T p i = true) → dfs r T j p b = (plansFrom r j p).foldl (bestStep r T) b
  | 0, p, b, hl, hf => by
    rw [dfs]
    by_cases hn : noBetter b (waitingOf p) = true
    · rw [if_pos hn]; exact (fold_pruned (j := 0) hn).symm
    · rw [if_neg hn]
      show some p = bestStep r T b p
      have hfit : fitsB r T p = true := by
        unfold fitsB
        rw [Bool.and_eq_true, List.all_eq_true]
        exact ⟨by simp; omega, fun i hi => hf i (List.mem_range.1 hi)⟩
      unfold bestStep
      cases b with
      | none => simp only; rw [if_pos hfit]
      | some c =>
        simp only [noBetter, decide_eq_true_eq] at hn
        simp only
        rw [if_pos (by simp [hfit]; omega)]
  | j + 1, p, b, hl, hf => by
    rw [dfs]
    by_cases hn : noBetter b (waitingOf p) = true
    · rw [if_pos hn]; exact (fold_pruned (j := j + 1) hn).symm
    · rw [if_neg hn]
      have one : ∀ (w : Int) (b : Option (List Int)), tryW r T (dfs r T j) p w b = (plansFrom r j (p ++ [w])).foldl (bestStep r T) b := fun w b => by
        unfold tryW
        cases hw : fitsAt r T (p ++ [w]) p.length
        · rw [if_neg (by simp)]
          exact (fold_unfit p.length (by simp) hw).symm
        · rw [if_pos rfl]
          refine dfs_fold j (p ++ [w]) b (by simp; omega) (fun i hi => ?_)
          by_cases e : i < p.length
          · rw [fitsAt_pre (List.prefix_append p [w]) i e]; exact hf i e
          · have : i = p.length := by simp at hi; omega
            subst this
            exact hw
      show _ = ((planStep r p).flatMap (plansFrom r j)).foldl (bestStep r T) b
      unfold planStep
      rw [List.flatMap_append, List.foldl_append, List.flatMap_map, one]
      have h2 : (List.range r.writers.length).foldl (fun b (w : Nat) => tryW r T (dfs r T j) p (w : Int) b) b = ((List.range r.writers.length).flatMap fun (w : Nat) => plansFrom r j (p ++ [(w : Int)])).foldl (bestStep r T) b := by
        generalize List.range r.writers.length = L
        induction L generalizing b with
        | nil => rfl
        | cons a L ih =>
          rw [List.foldl_cons, List.flatMap_cons, List.foldl_append, one]
          by_cases hn2 : noBetter ((plansFrom r j (p ++ [(a : Int)])).foldl (bestStep r T) b) (waitingOf p) = true
          · clear ih
            generalize (plansFrom r j (p ++ [(a : Int)])).foldl (bestStep r T) b = c at hn2 ⊢
            induction L generalizing c with
            | nil => rfl
            | cons x L ih2 =>
              rw [List.foldl_cons, List.flatMap_cons, List.foldl_append, one]
              have hx : noBetter c (waitingOf (p ++ [(x : Int)])) = true := by
                have := waiting_pre (List.prefix_append p [(x : Int)])
                cases c with
                | none => simp [noBetter] at hn2
                | some q => simp only [noBetter, decide_eq_true_eq] at hn2 ⊢; omega
              rw [fold_pruned hx]
              exact ih2 c hn2
          · exact ih _ hn2
      rw [h2]
      simp
theorem bestPlan_dfs (r : SeRoom) (T : List (List Int)) : bestPlan r T = dfs r T r.letters.length [] none := by
  rw [dfs_fold r.letters.length [] none (by simp) (fun i hi => absurd hi (Nat.not_lt_zero i))]
  unfold bestPlan
  rw [sePlans_from]
end Go.Proofs.YtcgplocmncionaaGreat
namespace Go.Proofs.YtcgplocmncionaaGreat
theorem incr_full {n : Nat} {l : List Int} (h : incr n l) (hl : l.length = n) : ∀ i, i < n → (i : Int) ∈ l := by
  induction n generalizing l with
  | zero => intro i hi; omega
  | succ n ih =>
    rcases nil_snoc l with rfl | ⟨l', x, rfl⟩
    · simp at hl
    · obtain ⟨h3, h4, h5⟩ := incr_snoc.1 h
      have hl' : l'.length = n := by simpa using hl
      have hi' : incr n l' := ⟨h3.1, fun y hy => ⟨(h3.2 y hy).1, by have := h4 y hy; omega⟩⟩
      intro i hi
      by_cases e : i < n
      · have := ih hi' hl' i e
        simp [this]
      · have hx : x = (n : Int) := by
          by_cases h0 : n = 0
          · subst h0; omega
          · have h1 := ih hi' hl' (n - 1) (by omega)
            have := h4 _ h1
            omega
        have : i = n := by omega
        subst this
        simp [hx]
/-- The first of the fewest, or all. -/
theorem first_or_all (so : List Int → Bool) (n : Nat) (hn : n ≤ 5) (hall : ∀ l, incr n l → l.length = n → so l = true) : FirstOf (fun l => incr n l ∧ so l = true) ((searchFrom so n 0 n).getD ((choicesTo n n).headD [])) := by
  obtain ⟨s1, s2⟩ := searchFrom_spec so n n 0
  cases hs : searchFrom so (n : Int) 0 n with
  | some l =>
    have h := s1 l hs
    refine ⟨⟨h.1.1, h.1.2.2.2⟩, fun x ⟨x1, x2⟩ => ?_⟩
    have hxl := incr_len x1
    by_cases e : x.length < n
    · exact h.2 x ⟨x1, by omega, by omega, x2⟩
    · refine .inr ?_
      have := h.1.2.2.1
      unfold fewer
      rw [if_neg (by show ¬ l.length = x.length; omega)]
      show decide (l.length < x.length) = true
      simp; omega
  | none =>
    have hn' := s2 hs
    have hc := choices_all n hn
    have hsort := choicesTo_sorted (n : Int) n
    have hmem := choicesTo_mem (n : Int) n
    generalize choicesTo (n : Int) n = L at hc hsort hmem
    cases L with
    | nil => simp at hc
    | cons a L =>
      obtain ⟨a1, a2⟩ := (hmem a).1 (by simp)
      refine ⟨⟨a2, hall a a2 a1⟩, fun x ⟨x1, x2⟩ => ?_⟩
      show x = a ∨ fewer a x = true
      have hxl := incr_len x1
      by_cases e : x.length < n
      · rw [hn' x x1 (by omega) (by omega)] at x2; cases x2
      · have hx : x ∈ a :: L := (hmem x).2 ⟨by omega, x1⟩
        rcases List.mem_cons.1 hx with e2 | h2
        · exact .inl e2
        · refine .inr ?_
          unfold fewer
          rw [if_pos (by omega)]
          exact (List.pairwise_cons.1 hsort).1 x h2
/-- The first of the fewest of all. -/
theorem first_all (so : List Int → Bool) (n : Nat) : (∀ l, searchFrom so n 0 (n + 1) = some l → FirstOf (fun l => incr n l ∧ so l = true) l) ∧ (searchFrom so n 0 (n + 1) = none → ∀ l, incr n l → so l = false) := by
  obtain ⟨s1, s2⟩ := searchFrom_spec so n (n + 1) 0
  refine ⟨fun l hl => ?_, fun hn l hl => ?_⟩
  · have h := s1 l hl
    exact ⟨⟨h.1.1, h.1.2.2.2⟩, fun x ⟨x1, x2⟩ => h.2 x ⟨x1, by omega, by have := incr_len x1; omega, x2⟩⟩
  · exact s2 hn l hl (by omega) (by have := incr_len hl; omega)
theorem found_iff (so : List Int → Bool) (n : Nat) (l : List Int) : (∃ s, s < 2 ^ n ∧ so (bitsList s n) = true ∧ l = bitsList s n) ↔ (incr n l ∧ so l = true) := by
  constructor
  · rintro ⟨s, _, h2, rfl⟩; exact ⟨bits_incr _ _, h2⟩
  · rintro ⟨h1, h2⟩; exact ⟨setOf l, setOf_lt l _ h1.2, by rw [setOf_bits h1]; exact h2, (setOf_bits h1).symm⟩
theorem found_first {so : List Int → Bool} {n : Nat} {w best : List Int} {found : Bool} (hw : FirstOf (fun l => incr n l ∧ so l = true) w) (h : Found n (fun s => so (bitsList s n)) (2 ^ n) best found) : found = true ∧ best = w := by
  cases found with
  | true => exact ⟨rfl, firstOf_one (firstOf_iff (found_iff so n) (h.2 rfl)) hw⟩
  | false =>
    have := (h.1 rfl).2 (setOf w) (setOf_lt _ _ hw.1.1.2)
    simp only at this
    rw [setOf_bits hw.1.1, hw.1.2] at this
    cases this
theorem found_search {so : List Int → Bool} {n : Nat} {best : List Int} {found : Bool} (h : Found n (fun s => so (bitsList s n)) (2 ^ n) best found) : searchFrom so n 0 (n + 1) = if found then some best else none := by
  obtain ⟨s1, s2⟩ := first_all so n
  cases found with
  | true =>
    have hf := firstOf_iff (found_iff so n) (h.2 rfl)
    cases hs : searchFrom so (n : Int) 0 (n + 1) with
    | some l => rw [firstOf_one (s1 l hs) hf]; rfl
    | none => have := s2 hs best hf.1.1; rw [hf.1.2] at this; cases this
  | false =>
    cases hs : searchFrom so (n : Int) 0 (n + 1) with
    | none => rfl
    | some l =>
      have hf := s1 l hs
      have := (h.1 rfl).2 (setOf l) (setOf_lt _ _ hf.1.1.2)
      simp only at this
      rw [setOf_bits hf.1.1, hf.1.2] at this
      cases this
/-- 'Rising' of ascending numbers. -/
theorem risingFrom_incr (below : Int) : ∀ (l : List Int) (last : Int), l.Pairwise (fun a b => a < b) → (∀ x ∈ l, last < x ∧ x < below) → risingFrom last below l = true
  | [], _, _, _ => rfl
  | x :: xs, last, hp, h => by
    rw [List.pairwise_cons] at hp
    have hx := h x (by simp)
    rw [risingFrom, risingFrom_incr below xs x hp.2 fun y hy => ⟨hp.1 y hy, (h y (by simp [hy])).2⟩]
    simp [hx.1, hx.2]
theorem rising_incr {n : Int} {l : List Int} (h : incr n l) : rising l n = true :=
  risingFrom_incr n l (-1) h.1 fun x hx => by have := h.2 x hx; omega
end Go.Proofs.YtcgplocmncionaaGreat
namespace Go.Proofs.YtcgplocmncionaaGreat

theorem sets_pos (r : SeRoom) : ∀ k, 0 < (setsTo r k).length
  | 0 => by simp [setsTo]
  | k + 1 => by
    have h := sets_pos r k
    show 0 < ((setsTo r k).flatMap (setStep r k)).length
    cases hL : setsTo r k with
    | nil => rw [hL] at h; simp at h
    | cons a L =>
      rw [List.flatMap_cons]
      unfold setStep
      simp only [List.length_append, List.length_cons]
      omega
theorem truths_full (r : SeRoom) (but : List Int) (h : ∀ k, k < r.heard.length → (k : Int) ∈ but) : 0 < (seTruths r but).length := by
  unfold seTruths
  rw [List.filter_eq_self.2 (fun l _ => ?_)]
  · exact sets_pos r _
  · unfold seTrue
    rw [List.all_eq_true]
    intro k hk
    unfold soAt
    rw [hasB_iff.2 (h k (List.mem_range.1 hk))]
    rfl
def wrongSo (r : SeRoom) (l : List Int) : Bool := decide (0 < (seTruths r l).length)
theorem seWrong_first {r : SeRoom} (h : seErr r = 0) : FirstOf (fun l => incr r.heard.length l ∧ wrongSo r l = true) (seWrongOf r).1 := by
  unfold seWrongOf
  rw [if_pos h]
  have hv := seValid_of h
  exact first_or_all (wrongSo r) r.heard.length (by have := hv.nh; omega) (fun l h1 h2 => by
    unfold wrongSo
    rw [decide_eq_true_eq]
    exact truths_full r l (incr_full h1 h2))
theorem seWrong_no {r : SeRoom} (h : seErr r ≠ 0) : seWrongOf r = ([], seErr r) := by unfold seWrongOf; rw [if_neg h]
theorem seWrong_err {r : SeRoom} (h : seErr r = 0) : (seWrongOf r).2 = 0 := by unfold seWrongOf; rw [if_pos h]
theorem seWrong_found {r : SeRoom} (h : seErr r = 0) {best : List Int} {found : Bool} (hf : Found r.heard.length (fun s => decide (0 < (truthsP r s).length)) (2 ^ r.heard.length) best found) : seWrongOf r = (best, 0) := by
  have e : (fun s => decide (0 < (truthsP r s).length)) = fun s => wrongSo r (bitsList s r.heard.length) := funext fun s => by unfold wrongSo; rw [truths_len_but]
  rw [e] at hf
  have := (found_first (seWrong_first h) hf).2
  exact Prod.ext this.symm (seWrong_err h)
/-- Which leaks a set leaves of another. -/
theorem bit15 (b i : Nat) (h : i < 4) : (15 ^^^ b).testBit i = !b.testBit i := by
  rw [Nat.testBit_xor]
  have : (15 : Nat).testBit i = true := by
    obtain rfl | rfl | rfl | rfl : i = 0 ∨ i = 1 ∨ i = 2 ∨ i = 3 := by omega
    all_goals rfl
  rw [this]; simp
theorem bits_less (a b n : Nat) (hn : n ≤ 4) : (bitsList a n).filter (fun x => !hasB (bitsList b n) x) = bitsList (a &&& (15 ^^^ b)) n := by
  unfold bitsList
  rw [List.filter_map, List.filter_filter]
  congr 1
  apply List.filter_congr
  intro i hi
  have hlt := List.mem_range.1 hi
  show (!hasB (((List.range n).filter fun i => b.testBit i).map fun (i : Nat) => (i : Int)) (i : Int) && a.testBit i) = _
  have := hasB_bits b n i hlt
  unfold bitsList at this
  rw [this, Nat.testBit_and, bit15 b i (by omega), Bool.and_comm]
def cutSo (r : SeRoom) (s : Nat) (l : List Int) : Bool := keepsB r r.letters (lessOf (seTruths r []) l) s
theorem cutOf_hid (r : SeRoom) (s : Int) : cutOf r s = if cutErr r s = 0 then (match searchFrom (cutSo r s.toNat) r.leaks.length 0 (r.leaks.length + 1) with | some l => (l, 0) | none => ([], 9)) else ([], cutErr r s) := rfl
end Go.Proofs.YtcgplocmncionaaGreat
