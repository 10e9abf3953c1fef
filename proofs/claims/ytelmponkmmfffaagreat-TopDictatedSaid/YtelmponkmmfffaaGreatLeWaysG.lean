/- What is proved here: how many words are in rooms is compared as the numbers are; a shape is compared with a letter word by word; plain facts on in how many ways a letter is of a form. -/
/- What is proved here: plain facts on how many corrections are left between a letter and a shape, by places; what a reader remembers. -/
/- What is proved here: how a reader of layer 2 lies in memory, what it remembers, and that both stay while memory grows and the map learns. No condition. -/
/- What is proved here: the contract of slices.EqualFunc with the comparison of a shape and a letter. No condition but lengths. -/
import Derived.Test.YtelmponkmmfffaaGreatLeCntG
import Derived.Test.YtelmponkmmfffaaGreatLeMakeG
import Derived.DeepKeys
import Derived.BigQuiet
import Derived.Test.YtelmponkmmfffaaGreatDeStandG
set_option linter.unusedVariables false
set_option linter.unusedSimpArgs false
namespace Go.Proofs.YtelmponkmmfffaaGreat
open Go Go.RowKit Go.Shelf
def SmL (x : Int) : Prop := -5 ≤ x ∧ x < 64000
theorem okI_L (n : Int) (h : SmL n) : (Lit.int .i64 n).wf = true := by
  unfold Lit.wf
  have e1 : IntKind.min .i64 = -9223372036854775808 := by decide
  have e2 : IntKind.max .i64 = 9223372036854775807 := by decide
  simp only [e1, e2, Bool.and_eq_true, decide_eq_true_eq]
  unfold SmL at h
  omega
set_option maxRecDepth 100000 in
set_option maxHeartbeats 1000000 in
theorem many_lits (b c d e f : Int) (hb : SmL b) (hc : SmL c) (hd : SmL d) (he : SmL e) (hf : SmL f) : Tryz.prog.keyLits 2 106 (Value.agg #[.int .i64 b, .int .i64 c, .int .i64 d, .int .i64 e, .int .i64 f]).cells.toList = some [.int .i64 b, .int .i64 c, .int .i64 d, .int .i64 e, .int .i64 f] := by
  have h4 : Tryz.prog.underlying 3 = some (.int .i64) := by kernel_rfl
  have h5 : Tryz.prog.cellsOf 3 = 1 := by kernel_rfl
  have h8 : Tryz.prog.cellsOf 106 = 5 := by kernel_rfl
  have h9 : Tryz.prog.underlying 106 = some (.array 5 3) := by kernel_rfl
  have e1 : ∀ (m : Nat) (x : Int), SmL x → Tryz.prog.keyLits (m + 1) 3 [.int .i64 x] = some [.int .i64 x] := fun m x hx => by
    unfold Program.keyLits
    simp only [h4, okI_L x hx, and_self, if_true]
  show Tryz.prog.keyLits (0 + 1 + 1) 106 [.int .i64 b, .int .i64 c, .int .i64 d, .int .i64 e, .int .i64 f] = _
  unfold Program.keyLits
  rw [h9]
  simp only [h8, h5, List.length_cons, List.length_nil, Nat.zero_add, Nat.reduceAdd, if_true]
  rw [show List.range 5 = [0, 1, 2, 3, 4] from rfl]
  have f1 := fun x hx => e1 0 x hx
  simp only [Nat.zero_add] at f1
  simp only [List.mapM_cons, List.mapM_nil, Nat.zero_mul, Nat.one_mul, Nat.reduceMul, List.drop_zero, List.drop_succ_cons, List.take_succ_cons, List.take_zero, f1 b hb, f1 c hc, f1 d hd, f1 e he, f1 f hf]
  rfl
def sameM (a b : List Int) : Bool := decide (mAt a 0 = mAt b 0 ∧ mAt a 1 = mAt b 1 ∧ mAt a 2 = mAt b 2 ∧ mAt a 3 = mAt b 3 ∧ mAt a 4 = mAt b 4)
theorem many_eq {a b : List Int} (ha : ∀ x ∈ a, SmL x) (hb : ∀ x ∈ b, SmL x) (w : World) :
    (Op.equalIn 10000 106 (manyV a) (manyV b)).run Tryz.prog w = .ok (sameM a b) w := by
  have sm : ∀ (l : List Int), (∀ x ∈ l, SmL x) → ∀ i, SmL (mAt l i) := fun l h i => by
    unfold mAt
    cases hx : l[i]? with
    | none => simp [SmL]
    | some x => exact h x (List.mem_of_getElem? hx)
  have pa := sm a ha
  have pb := sm b hb
  obtain ⟨r, hr, hi⟩ := run_equalIn_deep (P := Tryz.prog) 9998 2 106 (by kernel_rfl) w 2 2 (manyV a) (manyV b) _ _ (by kernel_rfl) (by kernel_rfl) (many_lits _ _ _ _ _ (pa 0) (pa 1) (pa 2) (pa 3) (pa 4)) (many_lits _ _ _ _ _ (pb 0) (pb 1) (pb 2) (pb 3) (pb 4))
  have e : r = sameM a b := by
    unfold sameM
    rw [Bool.eq_iff_iff, hi]
    simp only [List.cons.injEq, Lit.int.injEq, true_and, and_true, decide_eq_true_eq]
  rw [e] at hr
  exact hr
theorem same_eq {a b : List Int} (hl : a.length = b.length) (h5 : a.length ≤ 5) (h : sameM a b = true) : a = b := by
  unfold sameM at h
  simp only [decide_eq_true_eq] at h
  obtain ⟨h0, h1, h2, h3, h4⟩ := h
  apply List.ext_getElem hl
  intro i hi hj
  have e : ∀ (l : List Int) (hi : i < l.length), mAt l i = l[i] := fun l hi => by unfold mAt; rw [List.getElem?_eq_getElem hi]; rfl
  rw [← e a hi, ← e b hj]
  have : i = 0 ∨ i = 1 ∨ i = 2 ∨ i = 3 ∨ i = 4 := by omega
  rcases this with rfl | rfl | rfl | rfl | rfl <;> assumption
/-- What a round of ways makes of the last one, the first one, and how many there were. -/
def waysStep (fit : List Int → Bool) (s : List Int × List Int × Nat) (m : List Int) : List Int × List Int × Nat :=
  if sameM m s.1 = true then s else if fit m = true then (m, if s.2.2 = 0 then m else s.2.1, s.2.2 + 1) else (m, s.2.1, s.2.2)
def waysOf (fit : List Int → Bool) (l : List (List Int)) : List Int × List Int × Nat := l.foldl (waysStep fit) ([-1], [], 0)
def waysG (ps : List LeP) (l : List ByteArray) : List Int × List Int × Nat := waysOf (fun m => fitL (shapeF ps m) l) (countsF (roomsF ps))
theorem ways_snoc (fit : List Int → Bool) (l : List (List Int)) (x : List Int) : waysOf fit (l ++ [x]) = waysStep fit (waysOf fit l) x := by
  unfold waysOf
  rw [List.foldl_append]
  rfl
theorem counts_ok : ∀ (rs : List (Int × Int)), (∀ r ∈ rs, 0 ≤ r.1 ∧ r.1 ≤ r.2 ∧ r.2 ≤ 3) → ∀ m ∈ countsF rs, m.length = rs.length ∧ ∀ x ∈ m, 0 ≤ x ∧ x ≤ 3
  | [], _, m, hm => by
    have : m = [] := by simpa [countsF] using hm
    subst this
    exact ⟨rfl, fun x hx => by simp at hx⟩
  | r :: rs, h, m, hm => by
    have h0 := h r (by simp)
    simp only [countsF, List.mem_flatMap, List.mem_range, List.mem_map] at hm
    obtain ⟨k, hk, s, hs, rfl⟩ := hm
    obtain ⟨i1, i2⟩ := counts_ok rs (fun q hq => h q (by simp [hq])) s hs
    refine ⟨by simp [i1], fun x hx => ?_⟩
    rcases List.mem_cons.1 hx with rfl | hx
    · omega
    · exact i2 x hx
/-- Of the ones so far: the last one; the first one that fits; whether there was one. -/
structure WaysOk (fit : List Int → Bool) (n : Nat) (l : List (List Int)) (s : List Int × List Int × Nat) : Prop where
  last : (l = [] ∧ s.1 = [-1]) ∨ (s.1 ∈ l)
  first : 0 < s.2.2 → s.2.1 ∈ l ∧ fit s.2.1 = true
  none : s.2.2 = 0 → s.2.1 = [] ∧ ∀ m ∈ l, fit m = false
  many : s.2.2 ≤ l.length
theorem ways_step (fit : List Int → Bool) (n : Nat) (h5 : n ≤ 5) (l : List (List Int)) (x : List Int) (hl : ∀ m ∈ l ++ [x], m.length = n ∧ ∀ x ∈ m, 0 ≤ x ∧ x ≤ 3) (k : WaysOk fit n l (waysOf fit l)) : WaysOk fit n (l ++ [x]) (waysOf fit (l ++ [x])) := by
  have hx := hl x (by simp)
  rw [ways_snoc]
  generalize waysOf fit l = s at k
  unfold waysStep
  by_cases hs : sameM x s.1 = true
  · rw [if_pos hs]
    rcases k.last with ⟨rfl, e⟩ | hm
    · exfalso
      rw [e] at hs
      unfold sameM at hs
      simp only [decide_eq_true_eq] at hs
      have h0 := (mAt_bd hx.2 0).1
      rw [hs.1] at h0
      simp [mAt] at h0
    · have hq := hl s.1 (by simp [hm])
      have e := same_eq (hx.1.trans hq.1.symm) (by omega) hs
      refine ⟨.inr (by simp [hm]), fun h => ⟨by simp [(k.first h).1], (k.first h).2⟩, fun h => ⟨(k.none h).1, fun m hm2 => ?_⟩, by have := k.many; simp; omega⟩
      rcases List.mem_append.1 hm2 with h2 | h2
      · exact (k.none h).2 m h2
      · rw [List.mem_singleton.1 h2, e]; exact (k.none h).2 _ hm
  · rw [if_neg hs]
    by_cases hf : fit x = true
    · rw [if_pos hf]
      refine ⟨.inr (by simp), fun _ => ?_, fun h => by simp at h, by have := k.many; simp; omega⟩
      simp only
      by_cases h0 : s.2.2 = 0
      · rw [if_pos h0]; exact ⟨by simp, hf⟩
      · rw [if_neg h0]
        have := k.first (by omega)
        exact ⟨by simp [this.1], this.2⟩
    · rw [if_neg hf]
      refine ⟨.inr (by simp), fun h => ⟨by simp [(k.first h).1], (k.first h).2⟩, fun h => ⟨(k.none h).1, fun m hm2 => ?_⟩, by have := k.many; simp; omega⟩
      rcases List.mem_append.1 hm2 with h2 | h2
      · exact (k.none h).2 m h2
      · rw [List.mem_singleton.1 h2]; simpa using hf
theorem ways_ok (fit : List Int → Bool) (n : Nat) (h5 : n ≤ 5) (l : List (List Int)) (hl : ∀ m ∈ l, m.length = n ∧ ∀ x ∈ m, 0 ≤ x ∧ x ≤ 3) : WaysOk fit n l (waysOf fit l) := by
  have h : ∀ k, k ≤ l.length → WaysOk fit n (l.take k) (waysOf fit (l.take k)) := fun k => by
    induction k with
    | zero => intro _; exact ⟨.inl ⟨rfl, rfl⟩, fun h => absurd h (Nat.lt_irrefl 0), fun _ => ⟨rfl, fun m hm => by simp at hm⟩, Nat.le_refl _⟩
    | succ k ih =>
      intro hk
      rw [← List.take_append_getElem (by omega : k < l.length)]
      exact ways_step fit n h5 _ _ (fun m hm => hl m (by
        rw [List.take_append_getElem (by omega : k < l.length)] at hm
        exact List.mem_of_mem_take hm)) (ih (by omega))
  have := h l.length (Nat.le_refl _)
  rwa [List.take_length] at this
theorem counts_few : ∀ (rs : List (Int × Int)), (∀ r ∈ rs, 0 ≤ r.1 ∧ r.1 ≤ r.2 ∧ r.2 ≤ 3) → (countsF rs).length ≤ 4 ^ rs.length
  | [], _ => by simp [countsF]
  | r :: rs, h => by
    have h0 := h r (by simp)
    have ih := counts_few rs (fun q hq => h q (by simp [hq]))
    simp only [countsF, List.length_flatMap, List.length_map, List.length_cons]
    have hs : ∀ (k : Nat), ((List.range k).map fun _ => (countsF rs).length).sum = k * (countsF rs).length := fun k => by
      induction k with
      | zero => simp
      | succ k ih2 => rw [List.range_succ, List.map_append, List.sum_append, ih2, Nat.succ_mul]; simp
    rw [hs, Nat.pow_succ, Nat.mul_comm]
    exact Nat.mul_le_mul ih (by omega)
theorem fit_iff : ∀ (a b : List ByteArray), fitL a b = true ↔ a.length = b.length ∧ ∀ i (h1 : i < a.length) (h2 : i < b.length), fitB a[i] b[i] = true
  | [], [] => by simp [fitL]
  | [], _ :: _ => by simp [fitL]
  | _ :: _, [] => by simp [fitL]
  | x :: a, y :: b => by
    simp only [fitL, Bool.and_eq_true, fit_iff a b, List.length_cons, Nat.add_right_cancel_iff]
    constructor
    · rintro ⟨h0, h1, h2⟩
      refine ⟨h1, fun i hi hj => ?_⟩
      cases i with
      | zero => exact h0
      | succ i => exact h2 i (by simpa using hi) (by simpa using hj)
    · rintro ⟨h1, h2⟩
      exact ⟨h2 0 (by simp) (by simp), h1, fun i hi hj => h2 (i + 1) (by simpa using hi) (by simpa using hj)⟩
end Go.Proofs.YtelmponkmmfffaaGreat
namespace Go.Proofs.YtelmponkmmfffaaGreat
open Go Go.RowKit Go.Shelf
theorem leastF_congr {f g : Nat → Int} : ∀ (l : List Nat) (b : Nat × Int), (∀ k ∈ l, f k = g k) → leastF f l b = leastF g l b
  | [], _, _ => rfl
  | k :: l, b, h => by
    simp only [leastF, h k (by simp)]
    exact leastF_congr l _ (fun q hq => h q (by simp [hq]))
theorem stepL_less {kind : Nat} {a s a' s' : List ByteArray} {c : Int} (h : stepF kind a s = some (a', s', c)) : a'.length + s'.length < a.length + s.length ∧ 0 ≤ c ∧ c ≤ 1 := by
  unfold stepF at h
  split at h
  · split at h
    · cases h; simp; omega
    · cases h
  · split at h
    · cases h
    · cases h; simp; omega
  · cases h; simp
  · cases h; simp
  · cases h
theorem left_fuel : ∀ (n m : Nat) (a s : List ByteArray), a.length + s.length ≤ n → a.length + s.length ≤ m → leftF n a s = leftF m a s
  | 0, 0, _, _, _, _ => rfl
  | 0, m + 1, a, s, h, _ => by
    have h1 : a.length = 0 := by omega
    have h2 : s.length = 0 := by omega
    simp [leftF, h1, h2]
  | n + 1, 0, a, s, _, h => by
    have h1 : a.length = 0 := by omega
    have h2 : s.length = 0 := by omega
    simp [leftF, h1, h2]
  | n + 1, m + 1, a, s, h1, h2 => by
    simp only [leftF]
    split
    · rfl
    · refine leastF_congr _ _ (fun k _ => ?_)
      cases hs : stepF k a s with
      | none => rfl
      | some x =>
        obtain ⟨a', s', c⟩ := x
        have := stepL_less hs
        simp only
        rw [left_fuel n m a' s' (by omega) (by omega)]
/-- What is left: the kind of the next mark, and how many corrections. -/
def leftL (a s : List ByteArray) : Nat × Int := leftF (a.length + s.length) a s
theorem leftL_eq (a s : List ByteArray) : leftL a s = if a.length = 0 ∧ s.length = 0 then (4, 0) else leastF (fun k => match stepF k a s with | none => -1 | some (a', s', c) => c + (leftL a' s').2) [0, 1, 2, 3] (0, -1) := by
  unfold leftL
  rw [left_fuel (a.length + s.length) (a.length + s.length + 1) a s (Nat.le_refl _) (by omega)]
  simp only [leftF]
  split
  · rfl
  · refine leastF_congr _ _ (fun k _ => ?_)
    cases hs : stepF k a s with
    | none => rfl
    | some x =>
      obtain ⟨a', s', c⟩ := x
      have := stepL_less hs
      simp only
      rw [left_fuel (a.length + s.length) (a'.length + s'.length) a' s' (by omega) (Nat.le_refl _)]
/-- By places: how much was read, and how much is written. -/
def stepP (a s : List ByteArray) (kind i k : Nat) : Option (Nat × Nat × Int) :=
  match kind with
  | 0 => if i < a.length ∧ k < s.length ∧ fitB (s[k]?.getD noW) (a[i]?.getD noW) = true then some (i + 1, k + 1, 0) else none
  | 1 => if i < a.length ∧ k < s.length ∧ fitB (s[k]?.getD noW) (a[i]?.getD noW) = false then some (i + 1, k + 1, 1) else none
  | 2 => if i < a.length then some (i + 1, k, 1) else none
  | 3 => if k < s.length then some (i, k + 1, 1) else none
  | _ => none
def leftP (a s : List ByteArray) (i k : Nat) : Nat × Int := leftL (a.drop i) (s.drop k)
theorem step_place (a s : List ByteArray) (kind i k : Nat) (hi : i ≤ a.length) (hk : k ≤ s.length) : stepF kind (a.drop i) (s.drop k) = (stepP a s kind i k).map fun x => (a.drop x.1, s.drop x.2.1, x.2.2) := by
  rcases Nat.lt_or_ge i a.length with h1 | h1
  · rw [List.drop_eq_getElem_cons h1]
    rcases Nat.lt_or_ge k s.length with h2 | h2
    · rw [List.drop_eq_getElem_cons h2]
      match kind with
      | 0 => cases hf : fitB s[k] a[i] <;> simp [-List.getElem_cons_drop, stepF, stepP, h1, h2, hf]
      | 1 => cases hf : fitB s[k] a[i] <;> simp [-List.getElem_cons_drop, stepF, stepP, h1, h2, hf]
      | 2 => simp [-List.getElem_cons_drop, stepF, stepP, h1, List.drop_eq_getElem_cons h2]
      | 3 => simp [-List.getElem_cons_drop, stepF, stepP, h2, List.drop_eq_getElem_cons h1]
      | n + 4 => simp [-List.getElem_cons_drop, stepF, stepP]
    · rw [List.drop_of_length_le h2]
      match kind with
      | 0 => simp [-List.getElem_cons_drop, stepF, stepP, Nat.not_lt.2 h2]
      | 1 => simp [-List.getElem_cons_drop, stepF, stepP, Nat.not_lt.2 h2]
      | 2 => simp [-List.getElem_cons_drop, stepF, stepP, h1, List.drop_of_length_le h2]
      | 3 => simp [-List.getElem_cons_drop, stepF, stepP, Nat.not_lt.2 h2]
      | n + 4 => simp [-List.getElem_cons_drop, stepF, stepP]
  · rw [List.drop_of_length_le h1]
    rcases Nat.lt_or_ge k s.length with h2 | h2
    · rw [List.drop_eq_getElem_cons h2]
      match kind with
      | 0 => simp [-List.getElem_cons_drop, stepF, stepP, Nat.not_lt.2 h1]
      | 1 => simp [-List.getElem_cons_drop, stepF, stepP, Nat.not_lt.2 h1]
      | 2 => simp [-List.getElem_cons_drop, stepF, stepP, Nat.not_lt.2 h1]
      | 3 => simp [-List.getElem_cons_drop, stepF, stepP, h2, List.drop_of_length_le h1]
      | n + 4 => simp [-List.getElem_cons_drop, stepF, stepP]
    · rw [List.drop_of_length_le h2]
      match kind with
      | 0 => simp [-List.getElem_cons_drop, stepF, stepP, Nat.not_lt.2 h1]
      | 1 => simp [-List.getElem_cons_drop, stepF, stepP, Nat.not_lt.2 h1]
      | 2 => simp [-List.getElem_cons_drop, stepF, stepP, Nat.not_lt.2 h1]
      | 3 => simp [-List.getElem_cons_drop, stepF, stepP, Nat.not_lt.2 h2]
      | n + 4 => simp [-List.getElem_cons_drop, stepF, stepP]
/-- What left asks at a kind. -/
def askP (a s : List ByteArray) (i k kind : Nat) : Int := match stepP a s kind i k with | none => -1 | some (i', k', c) => c + (leftP a s i' k').2
theorem leftP_eq (a s : List ByteArray) (i k : Nat) (hi : i ≤ a.length) (hk : k ≤ s.length) : leftP a s i k = if i = a.length ∧ k = s.length then (4, 0) else leastF (askP a s i k) [0, 1, 2, 3] (0, -1) := by
  unfold leftP
  rw [leftL_eq]
  by_cases h0 : i = a.length ∧ k = s.length
  · rw [if_pos h0, if_pos (by rw [List.length_drop, List.length_drop]; omega)]
  · rw [if_neg h0, if_neg (by rw [List.length_drop, List.length_drop]; omega)]
    refine leastF_congr _ _ (fun q _ => ?_)
    rw [step_place a s q i k hi hk]
    unfold askP
    cases stepP a s q i k <;> rfl
theorem stepP_in {a s : List ByteArray} {kind i k i' k' : Nat} {c : Int} (h : stepP a s kind i k = some (i', k', c)) (hi : i ≤ a.length) (hk : k ≤ s.length) : i' ≤ a.length ∧ k' ≤ s.length ∧ (a.length - i') + (s.length - k') < (a.length - i) + (s.length - k) ∧ 0 ≤ c ∧ c ≤ 1 := by
  unfold stepP at h
  split at h
  all_goals first
    | (split at h
       · cases h; omega
       · cases h)
    | cases h
theorem least_bd {f : Nat → Int} {B : Int} (hB : -1 ≤ B) : ∀ (l : List Nat) (b : Nat × Int), (∀ k ∈ l, -1 ≤ f k ∧ f k ≤ B) → -1 ≤ b.2 ∧ b.2 ≤ B → -1 ≤ (leastF f l b).2 ∧ (leastF f l b).2 ≤ B
  | [], b, _, h => h
  | k :: l, b, hf, h => by
    simp only [leastF]
    refine least_bd hB l _ (fun q hq => hf q (by simp [hq])) ?_
    split
    · exact hf k (by simp)
    · exact h
theorem left_bd (a s : List ByteArray) : ∀ (n i k : Nat), i ≤ a.length → k ≤ s.length → (a.length - i) + (s.length - k) ≤ n → -1 ≤ (leftP a s i k).2 ∧ (leftP a s i k).2 ≤ n
  | n, i, k, hi, hk, hn => by
    rw [leftP_eq a s i k hi hk]
    split
    · simp
    · refine least_bd (by omega) _ _ (fun q _ => ?_) (by simp)
      unfold askP
      cases h : stepP a s q i k with
      | none => simp
      | some x =>
        obtain ⟨i', k', c⟩ := x
        obtain ⟨h1, h2, h3, h4, h5⟩ := stepP_in h hi hk
        cases n with
        | zero => omega
        | succ n =>
          have := left_bd a s n i' k' h1 h2 (by omega)
          simp only
          omega
end Go.Proofs.YtelmponkmmfffaaGreat
namespace Go.Proofs.YtelmponkmmfffaaGreat
open Go Go.RowKit Go.Shelf
@[reducible] def plV (x : Nat × Nat) : Value := .agg #[.int .i64 (x.1 : Int), .int .i64 (x.2 : Int)]
theorem plV_inj {x y : Nat × Nat} (e : plV x = plV y) : x = y := by
  simp only [plV, Value.agg.injEq, Array.mk.injEq, List.cons.injEq, Value.int.injEq, true_and, and_true] at e
  obtain ⟨x1, x2⟩ := x
  obtain ⟨y1, y2⟩ := y
  simp only at e
  rw [show x1 = y1 by omega, show x2 = y2 by omega]
def MemoL (a b : List ByteArray) (T : List (Value × Value)) : Prop := ∃ E : List (Nat × Nat), T = E.map (fun x => (plV x, Value.int .i64 (leftP a b x.1 x.2).2)) ∧ E.Nodup ∧ ∀ x ∈ E, x.1 ≤ a.length ∧ x.2 ≤ b.length
theorem memoL_nil (a b : List ByteArray) : MemoL a b [] := ⟨[], rfl, List.nodup_nil, fun p h => by cases h⟩
theorem MemoL.len {a b : List ByteArray} (ha : a.length ≤ 60) (hb : b.length ≤ 60) {T : List (Value × Value)} (k : MemoL a b T) : T.length ≤ 6400 := by
  obtain ⟨E, rfl, hn, h⟩ := k
  have h1 := nodup_below 6400 (E.map fun x => x.1 * 64 + x.2) (by
    rw [List.Nodup, List.pairwise_map]
    refine List.Pairwise.imp_of_mem (fun {x y} hx hy hne e => hne ?_) hn
    have h1 := h x hx
    have h2 := h y hy
    obtain ⟨x1, x2⟩ := x
    obtain ⟨y1, y2⟩ := y
    simp only at e h1 h2
    rw [show x1 = y1 by omega, show x2 = y2 by omega]) (fun v hv => by
      obtain ⟨p, hp, rfl⟩ := List.mem_map.1 hv
      have := h p hp
      omega)
  simpa using h1
theorem MemoL.more {a b : List ByteArray} {T : List (Value × Value)} (k : MemoL a b T) {x : Nat × Nat} (hx : x.1 ≤ a.length ∧ x.2 ≤ b.length) (hnew : ∀ p ∈ T, p.1 ≠ plV x) : MemoL a b (T ++ [(plV x, Value.int .i64 (leftP a b x.1 x.2).2)]) := by
  obtain ⟨E, rfl, hn, h⟩ := k
  refine ⟨E ++ [x], by simp, ?_, fun p hp => ?_⟩
  · rw [List.nodup_append]
    refine ⟨hn, by simp, fun u hu v hv => ?_⟩
    have : v = x := by simpa using hv
    subst this
    intro e
    subst e
    exact hnew _ (List.mem_map.2 ⟨_, hu, rfl⟩) rfl
  · rcases List.mem_append.1 hp with hp | hp
    · exact h p hp
    · have : p = x := by simpa using hp
      subst this
      exact hx
theorem MemoL.get {a b : List ByteArray} {T : List (Value × Value)} (k : MemoL a b T) {x : Nat × Nat} {v : Value} (hv : (plV x, v) ∈ T) : v = Value.int .i64 (leftP a b x.1 x.2).2 := by
  obtain ⟨E, rfl, hn, h⟩ := k
  obtain ⟨p, hp, e⟩ := List.mem_map.1 hv
  have e1 := plV_inj (congrArg Prod.fst e)
  have e2 : Value.int .i64 (leftP a b p.1 p.2).2 = v := congrArg Prod.snd e
  rw [← e2, e1]
theorem key_place : Maps.Keyed Tryz.prog 141 := Maps.Keyed.of_law (deep_law (m := 3) (by omega) (by kernel_rfl) (by kernel_rfl) (by kernel_rfl))
theorem key_mapL : Tryz.prog.underlying 198 = some (.map 141 3) := by kernel_rfl
set_option maxRecDepth 100000 in
set_option maxHeartbeats 1000000 in
theorem place_lits (n : Nat) (a b : Int) (ha : 0 ≤ a ∧ a < 64000) (hb : 0 ≤ b ∧ b < 64000) : Tryz.prog.keyLits (n + 1 + 1) 141 [.int .i64 a, .int .i64 b] = some [.int .i64 a, .int .i64 b] := by
  have h1 : (match Tryz.prog.underlying 141 with | some (.struct fs) => (fs.toList.map fun f => (f.type, f.offset)) == [(3, 0), (3, 1)] && fs.all (fun f => f.name != "_") | _ => false) = true := by kernel_rfl
  have h4 : Tryz.prog.underlying 3 = some (.int .i64) := by kernel_rfl
  have h5 : Tryz.prog.cellsOf 3 = 1 := by kernel_rfl
  have h6 : Tryz.prog.cellsOf 141 = 2 := by kernel_rfl
  cases hu : Tryz.prog.underlying 141 with
  | none => rw [hu] at h1; cases h1
  | some kd =>
    rw [hu] at h1
    cases kd with
    | struct fs =>
      simp only [Bool.and_eq_true, beq_iff_eq] at h1
      obtain ⟨g1, g2⟩ := h1
      have e1 : ∀ (m : Nat) (x : Int), 0 ≤ x ∧ x < 64000 → Tryz.prog.keyLits (m + 1) 3 [.int .i64 x] = some [.int .i64 x] := fun m x hx => by
        unfold Program.keyLits
        simp only [h4, okI_small x hx.1 hx.2, and_self, if_true]
      unfold Program.keyLits
      rw [hu]
      obtain ⟨L⟩ := fs
      simp only at g1 g2 ⊢
      match L, g1 with
      | [f0, f1], g1 =>
        simp only [List.map_cons, List.map_nil, List.cons.injEq, Prod.mk.injEq, and_true] at g1
        obtain ⟨⟨t0, o0⟩, t1, o1⟩ := g1
        simp only [h6, List.length_cons, List.length_nil, Nat.zero_add, Nat.reduceAdd, g2, and_self, if_true, List.mapM_cons, List.mapM_nil, t0, o0, t1, o1, h5, List.drop_zero, List.drop_succ_cons, List.take_succ_cons, List.take_zero, e1 n a ha, e1 n b hb]
        rfl
    | _ => simp at h1
set_option maxRecDepth 100000 in
theorem key_pl (x : Nat × Nat) (h1 : x.1 < 64000) (h2 : x.2 < 64000) : ∃ l, keyOf Tryz.prog 141 (plV x) = some l := by
  have g1 : (match Tryz.prog.underlying 141 with | some (.struct _) => true | _ => false) = true := by kernel_rfl
  have g2 : Tryz.prog.keyType 141 = true := by kernel_rfl
  have g3 : Value.formed Tryz.prog 141 (plV x) = true := by kernel_rfl
  obtain ⟨n, h7⟩ : ∃ n, Tryz.prog.types.size = n + 1 + 1 := ⟨Tryz.prog.types.size - 2, by kernel_rfl⟩
  have e := place_lits (n + 1) (x.1 : Int) (x.2 : Int) (by omega) (by omega)
  unfold keyOf
  cases hu : Tryz.prog.underlying 141 with
  | none => rw [hu] at g1; cases g1
  | some kd =>
    rw [hu] at g1
    cases kd with
    | struct fs =>
      simp only [g2, g3, Bool.and_self, if_true, h7]
      rw [show (plV x).cells.toList = [.int .i64 (x.1 : Int), .int .i64 (x.2 : Int)] from rfl, e]
      exact ⟨_, rfl⟩
    | _ => cases g1
theorem place_eq (x y : Nat × Nat) (h1 : x.1 < 64000) (h2 : x.2 < 64000) (h3 : y.1 < 64000) (h4 : y.2 < 64000) (w : World) :
    (Op.equalIn 10000 141 (plV x) (plV y)).run Tryz.prog w = .ok (decide (x = y)) w := by
  obtain ⟨r, hr, hi⟩ := run_equalIn_deep (P := Tryz.prog) 9998 2 141 (by kernel_rfl) w 2 2 (plV x) (plV y) _ _ (by kernel_rfl) (by kernel_rfl) (place_lits 0 x.1 x.2 (by omega) (by omega)) (place_lits 0 y.1 y.2 (by omega) (by omega))
  have e : r = decide (x = y) := by
    rw [Bool.eq_iff_iff, hi, decide_eq_true_eq]
    simp only [List.cons.injEq, Lit.int.injEq, true_and, and_true]
    obtain ⟨x1, x2⟩ := x
    obtain ⟨y1, y2⟩ := y
    simp only [Prod.mk.injEq]
    omega
  rw [e] at hr
  exact hr
/-- A reader in memory. -/
structure RdW (W : World) (br bo : Nat) (aa ab : Option Addr) (ca cb : Nat) (a b : List ByteArray) : Prop where
  blk : W.heap[br]? = some (.cells #[.slice aa a.length ca, .slice ab b.length cb, .map (some bo)] 200 (0, 0))
  from_ : StrsC W aa a
  shape : StrsC W ab b
  map : ∃ T, MapV W Tryz.prog 141 bo T ∧ MemoL a b T
variable {W W' : World} {br bo : Nat} {aa ab : Option Addr} {ca cb : Nat} {a b : List ByteArray}
theorem RdW.bo_lt (k : RdW W br bo aa ab ca cb a b) : bo < W.heap.size := by
  obtain ⟨T, hT, _⟩ := k.map
  exact hT.lt
theorem RdW.br_lt (k : RdW W br bo aa ab ca cb a b) : br < W.heap.size := lt_of_block k.blk
theorem RdW.ne (k : RdW W br bo aa ab ca cb a b) : br ≠ bo := by
  obtain ⟨T, ⟨es, c, hb, _⟩, _⟩ := k.map
  intro e
  have := k.blk
  rw [e, hb] at this
  cases this
theorem RdW.other (k : RdW W br bo aa ab ca cb a b) {q : Nat} {cs : Array Value} {t : TypeId} {x : Nat × Nat} (hb : W.heap[q]? = some (.cells cs t x)) : q ≠ bo := by
  obtain ⟨T, ⟨es, c, hm, _⟩, _⟩ := k.map
  intro e
  rw [e, hm] at hb
  cases hb
theorem RdW.below (k : RdW W br bo aa ab ca cb a b) (hb : Below W.heap.size W W') : RdW W' br bo aa ab ca cb a b := by
  obtain ⟨T, hT, hM⟩ := k.map
  exact ⟨(hb.block _ k.br_lt).trans k.blk, k.from_.mono hb, k.shape.mono hb, T, hT.below hb hT.lt, hM⟩
theorem RdW.keeps (k : RdW W br bo aa ab ca cb a b) (hg : W.grownBy W' (some bo)) : Keeps W W' := by
  obtain ⟨T, ⟨es, c, hm, _⟩, _⟩ := k.map
  exact .of_grown hg hm
theorem RdW.learn (k : RdW W br bo aa ab ca cb a b) (hg : W.grownBy W' (some bo)) {T : List (Value × Value)} (hT : MapV W' Tryz.prog 141 bo T) (hM : MemoL a b T) : RdW W' br bo aa ab ca cb a b :=
  ⟨(hg.block _ k.br_lt (fun e => k.ne (Option.some.inj e))).trans k.blk, k.from_.keep (k.keeps hg), k.shape.keep (k.keeps hg), T, hT, hM⟩
theorem RdW.grow (k : RdW W br bo aa ab ca cb a b) (hg : W.grownBy W' (some bo)) (hm : ∃ T, MapV W' Tryz.prog 141 bo T ∧ MemoL a b T) : RdW W' br bo aa ab ca cb a b := by
  obtain ⟨T, hT, hM⟩ := hm
  exact k.learn hg hT hM
end Go.Proofs.YtelmponkmmfffaaGreat
namespace Go.Proofs.YtelmponkmmfffaaGreat
open Go Go.RowKit Go.Shelf
theorem emp_eq (a : ByteArray) : a.toList.isEmpty = decide (a = noW) := by
  rw [← str_eq a noW, show noW.toList = [] from by rw [ByteArray.toList, ByteArray.toList.loop]; rfl]
  cases a.toList <;> rfl
set_option maxHeartbeats 1000000 in
theorem LFit_any (a b : ByteArray) (w : World) :
    Calls Tryz.prog 99 #[.string a, .string b] w fun e w' => e = .returned (.bool (fitB a b)) ∧ w' = w := by
  have h1 := emp_eq a
  have h2 := str_eq a b
  have HF := Lib.hid (show fitB a b = (decide (a = noW) || decide (a = b)) from rfl)
  generalize fitB a b = r at HF ⊢
  generalize decide (a = noW) = c at h1 HF
  generalize decide (a = b) = d at h2 HF
  go_enter Tryz.func99, Tryz.ntmps99
  cases c
  all_goals
    go_wp2
    go_ret
    exact ⟨ret_bool (by rw [HF.out]; simp), rfl⟩
set_option maxRecDepth 100000 in
set_option maxHeartbeats 2000000 in
theorem LEqualF_any (aa ab : Option Addr) (a b : List ByteArray) (ca cb : Nat) (w : World) (ha : a.length ≤ 9223372036854775807) (hb : b.length ≤ 9223372036854775807) (hia : StrsC w aa a) (hib : StrsC w ab b) :
    Calls Tryz.prog 97 #[.slice aa a.length ca, .slice ab b.length cb, .func (.func 99) #[] #[]] w fun e w' => e = .returned (.bool (fitL a b)) ∧ w' = w := by
  have HI := Lib.hid (fit_iff a b)
  generalize fitL a b = r at HI ⊢
  by_cases hl : a.length = b.length
  · have hne : (((a.length : Nat) : Int) != (b.length : Int)) = false := by rw [hl]; simp
    have HL := Lib.hid hl
    have HB := Lib.hid hib
    clear hl hib
    go_enter Tryz.func97, Tryz.ntmps97
    go_upto_region 4 with (fail)
    clear hne
    go_loop [17] (fun i => ∃ k : Nat, k ≤ a.length ∧ i = .int .i64 k ∧ Hid (∀ j (_ : j < k) (h1 : j < a.length) (h2 : j < b.length), fitB a[j] b[j] = true)) (fun i => a.length - (intOf i).toNat)
    case atStart => exact ⟨0, Nat.zero_le _, rfl, Lib.hid (fun j h => absurd h (Nat.not_lt_zero j))⟩
    case round =>
      obtain ⟨k, hk, rfl, HR⟩ := hrel
      by_cases hlt : k < a.length
      · have hltb : k < b.length := by have := HL.out; omega
        obtain ⟨b1, o1, rfl, hb1, hx⟩ := hia k hlt
        obtain ⟨b2, o2, rfl, hb2, hy⟩ := HB.out k hltb
        have C := LFit_any a[k] b[k] w
        have HT := Lib.hid (fun (h : fitB a[k] b[k] = true) => show ∀ j (_ : j < k + 1) (h1 : j < a.length) (h2 : j < b.length), fitB a[j] b[j] = true from fun j hj h1 h2 => if hjk : j < k then HR.out j hjk h1 h2 else (by have e : j = k := (by omega); subst e; exact h))
        have HF := Lib.hid (fun (h : fitB a[k] b[k] = false) => show r = false from Bool.eq_false_iff.2 (fun hr => by have := (HI.out.1 hr).2 k hlt hltb; rw [h] at this; cases this))
        generalize fitB a[k] b[k] = q at C HT HF
        generalize a[k] = xa at hx C
        generalize b[k] = xb at hy C
        have C := Lib.hid C
        have hltI : (k : Int) < (b.length : Int) := by omega
        cases q
        · go_wp2_with (go_at_call 99; go_must (refine C.out.mono ?_; rintro e w2 ⟨rfl, hw2⟩; obtain rfl := hw2.symm; dsimp only))
          go_ret
          exact ⟨ret_bool (HF.out (by trivial)).symm, rfl⟩
        · go_wp2_with (go_at_call 99; go_must (refine C.out.mono ?_; rintro e w2 ⟨rfl, hw2⟩; obtain rfl := hw2.symm; dsimp only))
          go_round
          case rel => exact ⟨k + 1, by omega, by go_num, Lib.hid (HT.out (by trivial))⟩
          case measure => simp [intOf]; omega
      · obtain rfl : k = a.length := by omega
        have hr := Lib.hid (HI.out.2 ⟨HL.out, fun j h1 h2 => HR.out j h1 h1 h2⟩)
        go_wp2
        go_ret
        exact ⟨ret_bool hr.out.symm, rfl⟩
  · have hne : (((a.length : Nat) : Int) != (b.length : Int)) = true := nei_t (by omega)
    have hr := Lib.hid (show r = false from Bool.eq_false_iff.2 (fun hr => hl (HI.out.1 hr).1))
    go_enter Tryz.func97, Tryz.ntmps97
    go_wp2
    go_ret
    exact ⟨ret_bool hr.out.symm, rfl⟩
end Go.Proofs.YtelmponkmmfffaaGreat
