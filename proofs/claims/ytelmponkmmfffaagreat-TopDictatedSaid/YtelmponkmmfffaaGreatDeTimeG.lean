/- What is proved here: which plans the reference of layer 9 enumerates. No program. No condition. -/
/- What is proved here: the search of layer 9 in plain Lean: the least end of all ways on from a stand, and the first way that has it. No program. No condition. -/
/- What is proved here: the first way on that ends as early as can be, as layer 9's Best finds it. No program. No condition. -/
/- What is proved here: ways on from a stand are plans, list by list; plans are ordered as their moves are. No program. No condition. -/
/- What is proved here: what a plan is that goes through from the beginning: its customers, and its minutes. No program. No condition. -/
import Derived.Test.YtelmponkmmfffaaGreatDeSpecG
set_option linter.unusedVariables false
set_option linter.unusedSimpArgs false
namespace Go.Proofs.YtelmponkmmfffaaGreat

/-- A plan of the first customers of a hall. -/
structure PlanOk (h : DeH) (k : Nat) (p : List (List Int)) : Prop where
  len : p.length = h.writers.length
  nodup : p.flatten.Nodup
  mem : ∀ c : Int, c ∈ p.flatten ↔ 0 ≤ c ∧ c < (k : Int)
  can : ∀ w l, p[w]? = some l → ∀ c ∈ l, canD h w c.toNat = true

theorem insert_perm : ∀ (p : List (List Int)) (w i : Nat) (c : Int), w < p.length → ((insertAt p w i c).flatten).Perm (c :: p.flatten)
  | [], _, _, _, h => by simp at h
  | l :: p, 0, i, c, _ => by
    show ((l.take i ++ c :: l.drop i) :: p).flatten.Perm _
    rw [List.flatten_cons, List.flatten_cons]
    have h : (l.take i ++ c :: l.drop i).Perm (c :: l) := by
      have := List.perm_middle (a := c) (l₁ := l.take i) (l₂ := l.drop i)
      rwa [List.take_append_drop] at this
    exact h.append_right _
  | l :: p, w + 1, i, c, h => by
    show (l :: insertAt p w i c).flatten.Perm _
    rw [List.flatten_cons, List.flatten_cons]
    have ih := insert_perm p w i c (by simpa using h)
    exact (ih.append_left l).trans List.perm_middle
theorem insert_len (p : List (List Int)) (w i : Nat) (c : Int) : (insertAt p w i c).length = p.length := by simp [insertAt]
theorem insert_get (p : List (List Int)) (w i : Nat) (c : Int) (v : Nat) : (insertAt p w i c)[v]? = if w = v then (p[v]?).map (fun l => l.take i ++ c :: l.drop i) else p[v]? := by
  unfold insertAt
  rw [List.getElem?_modify]
  by_cases e : w = v
  · simp [e]
  · simp [e]

theorem plan_step {h : DeH} {k : Nat} {p : List (List Int)} {w i : Nat} (hp : PlanOk h k p) (hw : w < h.writers.length) (hc : canD h w k = true) : PlanOk h (k + 1) (insertAt p w i (k : Int)) := by
  have hperm := insert_perm p w i (k : Int) (by rw [hp.len]; exact hw)
  refine ⟨by rw [insert_len]; exact hp.len, ?_, fun c => ?_, fun v l hl c hcl => ?_⟩
  · rw [hperm.nodup_iff, List.nodup_cons]
    exact ⟨fun hm => by have := (hp.mem _).1 hm; omega, hp.nodup⟩
  · rw [hperm.mem_iff, List.mem_cons, hp.mem]
    omega
  · rw [insert_get] at hl
    by_cases e : w = v
    · subst e
      rw [if_pos rfl] at hl
      obtain ⟨l0, h0, rfl⟩ := Option.map_eq_some_iff.1 hl
      rcases List.mem_append.1 hcl with h1 | h1
      · exact hp.can w l0 h0 c (List.mem_of_mem_take h1)
      · rcases List.mem_cons.1 h1 with rfl | h2
        · simpa using hc
        · exact hp.can w l0 h0 c (List.mem_of_mem_drop h2)
    · rw [if_neg e] at hl
      exact hp.can v l hl c hcl

theorem plan_zero {h : DeH} {p : List (List Int)} : PlanOk h 0 p ↔ p = List.replicate h.writers.length [] := by
  constructor
  · intro hp
    have hf : p.flatten = [] := by
      rw [List.eq_nil_iff_forall_not_mem]
      intro c hc
      have := (hp.mem c).1 hc
      omega
    rw [List.eq_replicate_iff]
    refine ⟨hp.len, fun l hl => ?_⟩
    rw [List.eq_nil_iff_forall_not_mem]
    intro c hc
    have : c ∈ p.flatten := List.mem_flatten.2 ⟨l, hl, hc⟩
    rw [hf] at this
    cases this
  · rintro rfl
    have hf : (List.replicate h.writers.length ([] : List Int)).flatten = [] := by
      rw [List.eq_nil_iff_forall_not_mem]
      intro c hc
      obtain ⟨l, hl, hcl⟩ := List.mem_flatten.1 hc
      rw [(List.mem_replicate.1 hl).2] at hcl
      cases hcl
    refine ⟨by simp, by rw [hf]; exact List.nodup_nil, fun c => ⟨fun hc => by { rw [hf] at hc; cases hc }, fun hc => by omega⟩, fun w l hl c hc => ?_⟩
    have : l = [] := by
      obtain ⟨hlt, rfl⟩ := List.getElem?_eq_some_iff.1 hl
      simp
    rw [this] at hc
    cases hc

/-- Taken out again. -/
theorem plan_out {h : DeH} {k : Nat} {p : List (List Int)} (hp : PlanOk h (k + 1) p) : ∃ q w i, PlanOk h k q ∧ w < h.writers.length ∧ canD h w k = true ∧ i ≤ (q[w]?.getD []).length ∧ insertAt q w i (k : Int) = p := by
  obtain ⟨l, hl, hkl⟩ := List.mem_flatten.1 ((hp.mem (k : Int)).2 (by omega))
  obtain ⟨w, hw, rfl⟩ := List.getElem_of_mem hl
  obtain ⟨a, b, hab⟩ := List.append_of_mem hkl
  have hww : w < h.writers.length := by rw [← hp.len]; exact hw
  have hins : insertAt (p.set w (a ++ b)) w a.length (k : Int) = p := by
    apply List.ext_getElem?
    intro v
    rw [insert_get, List.getElem?_set]
    by_cases e : w = v
    · subst e
      rw [if_pos rfl, if_pos rfl, if_pos hw, List.getElem?_eq_getElem hw, hab]
      simp
    · rw [if_neg e, if_neg e]
  have hperm := insert_perm (p.set w (a ++ b)) w a.length (k : Int) (by simpa using hw)
  rw [hins] at hperm
  have hnd := hp.nodup
  rw [hperm.nodup_iff, List.nodup_cons] at hnd
  refine ⟨p.set w (a ++ b), w, a.length, ⟨by simpa using hp.len, hnd.2, fun c => ?_, fun v l hl c hc => ?_⟩, hww, ?_, ?_, hins⟩
  · have h1 := hp.mem c
    rw [hperm.mem_iff, List.mem_cons] at h1
    constructor
    · intro hc
      have h2 := h1.1 (.inr hc)
      have hne : c ≠ (k : Int) := fun e => hnd.1 (e ▸ hc)
      omega
    · intro hc
      rcases h1.2 (by omega) with e | e
      · omega
      · exact e
  · rw [List.getElem?_set] at hl
    by_cases e : w = v
    · subst e
      rw [if_pos rfl, if_pos hw] at hl
      have hl2 := Option.some.inj hl
      subst hl2
      refine hp.can w p[w] (List.getElem?_eq_getElem hw) c ?_
      rw [hab]
      rcases List.mem_append.1 hc with h1 | h1
      · exact List.mem_append.2 (.inl h1)
      · exact List.mem_append.2 (.inr (List.mem_cons_of_mem _ h1))
    · rw [if_neg e] at hl
      exact hp.can v l hl c hc
  · have := hp.can w p[w] (List.getElem?_eq_getElem hw) (k : Int) hkl
    simpa using this
  · rw [List.getElem?_set, if_pos rfl, if_pos hw]
    simp

theorem mem_plans {h : DeH} : ∀ {k : Nat} {p : List (List Int)}, p ∈ dePlansTo h k ↔ PlanOk h k p
  | 0, p => by rw [plan_zero]; simp [dePlansTo]
  | k + 1, p => by
    rw [dePlansTo, List.mem_flatMap]
    constructor
    · rintro ⟨q, hq, hp⟩
      have hq2 := mem_plans.1 hq
      unfold planPut at hp
      obtain ⟨w, hw, hp2⟩ := List.mem_flatMap.1 hp
      split at hp2
      · rename_i hc
        obtain ⟨i, _, rfl⟩ := List.mem_map.1 hp2
        exact plan_step hq2 (by simpa using hw) hc
      · cases hp2
    · intro hp
      obtain ⟨q, w, i, hq, hw, hc, hi, rfl⟩ := plan_out hp
      refine ⟨q, mem_plans.2 hq, ?_⟩
      unfold planPut
      refine List.mem_flatMap.2 ⟨w, by simpa using hw, ?_⟩
      rw [if_pos hc]
      exact List.mem_map.2 ⟨i, by simp; omega, rfl⟩

/-- The plans of the reference. -/
theorem twice_iff : ∀ {l : List Int}, twiceB l = false ↔ l.Nodup
  | [] => by simp [twiceB]
  | x :: l => by
    rw [twiceB, Bool.or_eq_false_iff, twice_iff, List.nodup_cons]
    have : hasB l x = false ↔ x ∉ l := by rw [← Bool.not_eq_true, hasB_iff]
    rw [this]
theorem wrong_iff {h : DeH} : ∀ {p : List (List Int)} {w : Nat}, wrongB h w p = false ↔ ∀ v l, p[v]? = some l → ∀ c ∈ l, canD h (w + v) c.toNat = true
  | [], w => by simp [wrongB]
  | l :: p, w => by
    rw [wrongB, Bool.or_eq_false_iff, wrong_iff]
    constructor
    · rintro ⟨h1, h2⟩ v m hm c hc
      cases v with
      | zero =>
        simp at hm
        subst hm
        rw [List.any_eq_false] at h1
        have := h1 c hc
        simpa using this
      | succ v =>
        have := h2 v m (by simpa using hm) c hc
        rwa [show w + 1 + v = w + (v + 1) by omega] at this
    · intro h1
      refine ⟨?_, fun v m hm c hc => ?_⟩
      · rw [List.any_eq_false]
        intro c hc
        have := h1 0 l (by simp) c hc
        simpa using this
      · have := h1 (v + 1) m (by simpa using hm) c hc
        rwa [show w + (v + 1) = w + 1 + v by omega] at this
/-- So many different numbers below so many: all of them. -/
theorem nodup_all : ∀ (n : Nat) (l : List Int), l.Nodup → (∀ c ∈ l, 0 ≤ c ∧ c < (n : Int)) → n ≤ l.length → ∀ c : Int, 0 ≤ c → c < (n : Int) → c ∈ l
  | 0, l, _, _, _, c, h0, h1 => by omega
  | n + 1, l, hn, hb, hl, c, h0, h1 => by
    by_cases hm : (n : Int) ∈ l
    · by_cases e : c = (n : Int)
      · rw [e]; exact hm
      · have h2 := nodup_all n (l.erase (n : Int)) (hn.erase _) (fun x hx => by
          have hx2 := (List.Nodup.mem_erase_iff hn).1 hx
          have := hb x hx2.2
          have := hx2.1
          omega) (by rw [List.length_erase_of_mem hm]; omega) c h0 (by omega)
        exact List.mem_of_mem_erase h2
    · have hb2 : ∀ c ∈ l, 0 ≤ c ∧ c < (n : Int) := fun x hx => by
        have := hb x hx
        have : x ≠ (n : Int) := fun e => hm (e ▸ hx)
        omega
      exact absurd (nodup_len n l hn hb2) (by omega)
  where
  nodup_len : ∀ (n : Nat) (l : List Int), l.Nodup → (∀ c ∈ l, 0 ≤ c ∧ c < (n : Int)) → l.length ≤ n
  | 0, l, _, hb => by
    cases l with
    | nil => simp
    | cons x l => have := hb x (by simp); omega
  | n + 1, l, hn, hb => by
    by_cases hm : (n : Int) ∈ l
    · have h2 := nodup_len n (l.erase (n : Int)) (hn.erase _) (fun x hx => by
        have hx2 := (List.Nodup.mem_erase_iff hn).1 hx
        have := hb x hx2.2
        have := hx2.1
        omega)
      rw [List.length_erase_of_mem hm] at h2
      omega
    · have := nodup_len n l hn (fun x hx => by
        have := hb x hx
        have : x ≠ (n : Int) := fun e => hm (e ▸ hx)
        omega)
      omega
theorem all_len : ∀ (n : Nat) (l : List Int), (∀ c : Int, 0 ≤ c → c < (n : Int) → c ∈ l) → n ≤ l.length
  | 0, _, _ => Nat.zero_le _
  | n + 1, l, h => by
    have hm := h (n : Int) (by omega) (by omega)
    have ih := all_len n (l.erase (n : Int)) (fun c h0 h1 => (List.mem_erase_of_ne (by omega)).2 (h c h0 (by omega)))
    rw [List.length_erase_of_mem hm] at ih
    have := List.length_pos_of_mem hm
    omega
theorem plan_iff {h : DeH} {p : List (List Int)} : dePlanErr h p = 0 ↔ deErr h = 0 ∧ PlanOk h h.customers.length p := by
  unfold dePlanErr
  by_cases h0 : deErr h = 0
  · rw [if_pos h0]
    by_cases h1 : p.length = h.writers.length
    · rw [if_pos h1]
      by_cases h2 : p.flatten.all (fun c => inB c 0 ((h.customers.length : Int) - 1)) = true
      · rw [if_pos h2]
        rw [List.all_eq_true] at h2
        have h2' : ∀ c ∈ p.flatten, 0 ≤ c ∧ c < (h.customers.length : Int) := fun c hc => by
          have := inB_iff.1 (h2 c hc)
          omega
        constructor
        · intro he
          by_cases h3 : twiceB p.flatten = true
          · rw [if_pos h3] at he; cases he
          rw [if_neg h3] at he
          by_cases h4 : wrongB h 0 p = true
          · rw [if_pos h4] at he; cases he
          rw [if_neg h4] at he
          by_cases h5 : p.flatten.length < h.customers.length
          · rw [if_pos h5] at he; cases he
          have hn := twice_iff.1 (Bool.eq_false_iff.2 h3)
          have hw := wrong_iff.1 (Bool.eq_false_iff.2 h4)
          refine ⟨h0, h1, hn, fun c => ⟨h2' c, fun hc => nodup_all _ _ hn h2' (by omega) c hc.1 hc.2⟩, fun w l hl c hc => ?_⟩
          have := hw w l hl c hc
          rwa [Nat.zero_add] at this
        · rintro ⟨_, hp⟩
          have h3 : twiceB p.flatten = false := twice_iff.2 hp.nodup
          have h4 : wrongB h 0 p = false := wrong_iff.2 (fun w l hl c hc => by rw [Nat.zero_add]; exact hp.can w l hl c hc)
          have h5 : ¬ p.flatten.length < h.customers.length := by
            have := all_len h.customers.length p.flatten (fun c h0 h1 => (hp.mem c).2 ⟨h0, h1⟩)
            omega
          rw [if_neg (by simp [h3]), if_neg (by simp [h4]), if_neg h5]
      · rw [if_neg h2]
        constructor
        · intro he; cases he
        · rintro ⟨_, hp⟩
          refine absurd (List.all_eq_true.2 fun c hc => ?_) h2
          have := (hp.mem c).1 hc
          exact inB_iff.2 (by omega)
    · rw [if_neg h1]
      constructor
      · intro he; cases he
      · rintro ⟨_, hp⟩; exact absurd hp.len h1
  · rw [if_neg h0]
    exact ⟨fun he => absurd he h0, fun hh => absurd hh.1 h0⟩
end Go.Proofs.YtelmponkmmfffaaGreat
namespace Go.Proofs.YtelmponkmmfffaaGreat

/-- How far a plan is: the writer, the customers with a place (as bits), the minutes of the writers. -/
structure DeSt where
  writer : Nat
  done : Nat
  ms : List Int
def goD (h : DeH) (x : DeSt) (c : Nat) : Int := x.ms[x.writer]?.getD 0 + (customerAt h c).hi + h.wax
def nextW (x : DeSt) : DeSt := { x with writer := x.writer + 1 }
def nextC (h : DeH) (x : DeSt) (c : Nat) : DeSt := { x with done := x.done ||| 2 ^ c, ms := x.ms.set x.writer (goD h x c) }
def putB (h : DeH) (wm cm : Nat) (x : DeSt) (c : Nat) : Bool := cm.testBit c && !x.done.testBit c && (wm.testBit x.writer && canD h x.writer c) && decide (goD h x c ≤ (customerAt h c).ship)
def nextD (h : DeH) (wm cm : Nat) (x : DeSt) : List (Int × DeSt) :=
  if x.writer = h.writers.length then [] else (-1, nextW x) :: ((List.range h.customers.length).filter (putB h wm cm x)).map fun (c : Nat) => ((c : Int), nextC h x c)
def beginD (h : DeH) : DeSt := ⟨0, 0, (List.range 3).map fun w => if w < h.writers.length then (writerAt h w).hi else 0⟩
/-- When a plan is over that is at its end. -/
def fvD (h : DeH) (x : DeSt) : Int := (List.range 3).foldl (fun b w => if (beginD h).ms[w]?.getD 0 < x.ms[w]?.getD 0 then max b (x.ms[w]?.getD 0) else b) 0
def finB (h : DeH) (cm : Nat) (x : DeSt) : Bool := decide (x.writer = h.writers.length) && decide (x.done = cm)
def betterD (b n : Int) : Int := if 0 ≤ n ∧ (b < 0 ∨ n < b) then n else b
def baseD (h : DeH) (cm : Nat) (x : DeSt) : Int := if finB h cm x then fvD h x else -1
/-- 'over'. -/
def overF (h : DeH) (wm cm : Nat) : Nat → DeSt → Int
  | 0, x => baseD h cm x
  | f + 1, x => (nextD h wm cm x).foldl (fun b y => betterD b (overF h wm cm f y.2)) (baseD h cm x)
/-- How many moves there are left, at most. -/
def leftD (h : DeH) (x : DeSt) : Nat := (h.writers.length - x.writer) + (List.range h.customers.length).countP fun c => !x.done.testBit c
/-- A way on from a stand. -/
inductive RunD (h : DeH) (wm cm : Nat) : DeSt → List Int → DeSt → Prop
  | stop (x : DeSt) : RunD h wm cm x [] x
  | move {x z : DeSt} {y : Int × DeSt} {s : List Int} (hy : y ∈ nextD h wm cm x) (hs : RunD h wm cm y.2 s z) : RunD h wm cm x (y.1 :: s) z

theorem fv_nonneg (h : DeH) (x : DeSt) : 0 ≤ fvD h x := by
  unfold fvD
  suffices ∀ (L : List Nat) (b : Int), 0 ≤ b → 0 ≤ L.foldl (fun b w => if (beginD h).ms[w]?.getD 0 < x.ms[w]?.getD 0 then max b (x.ms[w]?.getD 0) else b) b from this _ 0 (Int.le_refl _)
  intro L
  induction L with
  | nil => exact fun b hb => hb
  | cons w L ih =>
    intro b hb
    rw [List.foldl_cons]
    refine ih _ ?_
    split <;> omega
theorem better_fold {α : Type} (g : α → Int) : ∀ (L : List α) (b : Int), -1 ≤ b →
    (L.foldl (fun b y => betterD b (g y)) b = b ∨ ∃ y ∈ L, L.foldl (fun b y => betterD b (g y)) b = g y) ∧ -1 ≤ L.foldl (fun b y => betterD b (g y)) b ∧
    (0 ≤ b → 0 ≤ L.foldl (fun b y => betterD b (g y)) b ∧ L.foldl (fun b y => betterD b (g y)) b ≤ b) ∧ (∀ y ∈ L, 0 ≤ g y → 0 ≤ L.foldl (fun b y => betterD b (g y)) b ∧ L.foldl (fun b y => betterD b (g y)) b ≤ g y)
  | [], b, hb => ⟨.inl rfl, hb, fun h => ⟨h, Int.le_refl _⟩, fun y hy => by cases hy⟩
  | x :: L, b, hb => by
    rw [List.foldl_cons]
    have hb2 : -1 ≤ betterD b (g x) := by unfold betterD; split <;> omega
    obtain ⟨h1, h2, h3, h4⟩ := better_fold g L (betterD b (g x)) hb2
    refine ⟨?_, h2, fun h0 => ?_, fun y hy h0 => ?_⟩
    · rcases h1 with e | ⟨y, hy, e⟩
      · rw [e]
        unfold betterD
        split
        · exact .inr ⟨x, by simp, rfl⟩
        · exact .inl rfl
      · exact .inr ⟨y, List.mem_cons_of_mem _ hy, e⟩
    · have : 0 ≤ betterD b (g x) ∧ betterD b (g x) ≤ b := by unfold betterD; split <;> omega
      have := h3 this.1
      omega
    · rcases List.mem_cons.1 hy with rfl | hy2
      · have : 0 ≤ betterD b (g y) ∧ betterD b (g y) ≤ g y := by unfold betterD; split <;> omega
        have := h3 this.1
        omega
      · exact h4 y hy2 h0

theorem next_left {h : DeH} {wm cm : Nat} {x : DeSt} {y : Int × DeSt} (hx : x.writer ≤ h.writers.length) (hy : y ∈ nextD h wm cm x) : leftD h y.2 < leftD h x ∧ y.2.writer ≤ h.writers.length := by
  unfold nextD at hy
  by_cases e : x.writer = h.writers.length
  · rw [if_pos e] at hy; cases hy
  rw [if_neg e] at hy
  rcases List.mem_cons.1 hy with rfl | hy2
  · unfold leftD nextW
    simp only
    omega
  · obtain ⟨c, hc, rfl⟩ := List.mem_map.1 hy2
    obtain ⟨hc1, hc2⟩ := List.mem_filter.1 hc
    have hd : x.done.testBit c = false := by
      unfold putB at hc2
      simp only [Bool.and_eq_true, Bool.not_eq_true'] at hc2
      exact hc2.1.1.2
    refine ⟨?_, by show x.writer ≤ _; exact hx⟩
    unfold leftD nextC
    simp only
    have : (List.range h.customers.length).countP (fun d => !(x.done ||| 2 ^ c).testBit d) < (List.range h.customers.length).countP fun d => !x.done.testBit d := by
      have key : ∀ (L : List Nat), (L.countP (fun d => !(x.done ||| 2 ^ c).testBit d) ≤ L.countP fun d => !x.done.testBit d) ∧ (c ∈ L → L.countP (fun d => !(x.done ||| 2 ^ c).testBit d) < L.countP fun d => !x.done.testBit d) := by
        intro L
        induction L with
        | nil => simp
        | cons d L ih =>
          simp only [List.countP_cons, Nat.testBit_or, Nat.testBit_two_pow]
          simp only [Nat.testBit_or, Nat.testBit_two_pow] at ih
          obtain ⟨i1, i2⟩ := ih
          by_cases ed : c = d
          · subst ed
            have e1 : (if (!(x.done.testBit c || decide (c = c))) = true then 1 else 0) = 0 := by simp
            have e2 : (if (!x.done.testBit c) = true then 1 else 0) = 1 := by simp [hd]
            rw [e1, e2]
            exact ⟨by omega, fun _ => by omega⟩
          · have e : (if (!(x.done.testBit d || decide (c = d))) = true then 1 else 0) = (if (!x.done.testBit d) = true then 1 else 0) := by
              rw [show decide (c = d) = false by simpa using ed, Bool.or_false]
            rw [e]
            refine ⟨by omega, fun hm => ?_⟩
            rcases List.mem_cons.1 hm with e2 | e2
            · exact absurd e2 ed
            · have := i2 e2
              omega
      exact (key _).2 hc1
    omega

/-- What 'over' is: the least end of all ways on; below 0: there is none. -/
theorem over_spec {h : DeH} {wm cm : Nat} : ∀ (f : Nat) (x : DeSt), x.writer ≤ h.writers.length → leftD h x ≤ f →
    (overF h wm cm f x = -1 ∧ ∀ s z, RunD h wm cm x s z → finB h cm z = false) ∨
    (0 ≤ overF h wm cm f x ∧ (∃ s z, RunD h wm cm x s z ∧ finB h cm z = true ∧ fvD h z = overF h wm cm f x) ∧ ∀ s z, RunD h wm cm x s z → finB h cm z = true → overF h wm cm f x ≤ fvD h z)
  | 0, x, hx, hl => by
    have hw : x.writer = h.writers.length := by unfold leftD at hl; omega
    have hn : nextD h wm cm x = [] := by unfold nextD; rw [if_pos hw]
    have hr : ∀ s z, RunD h wm cm x s z → z = x := fun s z hr => by
      cases hr with
      | stop => rfl
      | move hy _ => rw [hn] at hy; cases hy
    have e : overF h wm cm 0 x = baseD h cm x := rfl
    rw [e]
    unfold baseD
    cases hf : finB h cm x with
    | false => exact .inl ⟨by simp, fun s z hz => by rw [hr s z hz]; exact hf⟩
    | true =>
      refine .inr ⟨by simpa using fv_nonneg h x, ⟨[], x, .stop x, hf, by simp⟩, fun s z hz _ => ?_⟩
      rw [hr s z hz]; simp
  | f + 1, x, hx, hl => by
    have ih := fun (y : Int × DeSt) (hy : y ∈ nextD h wm cm x) => over_spec (wm := wm) (cm := cm) f y.2 (next_left hx hy).2 (by have := (next_left hx hy).1; omega)
    have hb : -1 ≤ baseD h cm x := by unfold baseD; have := fv_nonneg h x; split <;> omega
    have e : overF h wm cm (f + 1) x = (nextD h wm cm x).foldl (fun b y => betterD b (overF h wm cm f y.2)) (baseD h cm x) := rfl
    obtain ⟨h1, h2, h3, h4⟩ := better_fold (fun y : Int × DeSt => overF h wm cm f y.2) (nextD h wm cm x) (baseD h cm x) hb
    rw [← e] at h1 h2 h3 h4
    have low : ∀ s z, RunD h wm cm x s z → finB h cm z = true → 0 ≤ overF h wm cm (f + 1) x ∧ overF h wm cm (f + 1) x ≤ fvD h z := fun s z hr hf => by
      cases hr with
      | stop =>
        have hbe : baseD h cm x = fvD h x := by unfold baseD; rw [hf]; rfl
        have := h3 (by rw [hbe]; exact fv_nonneg h x)
        rw [hbe] at this
        exact this
      | move hy hs =>
        rcases ih _ hy with ⟨_, hno⟩ | ⟨h0, _, hall⟩
        · have := hno _ _ hs; rw [hf] at this; cases this
        · have a1 := h4 _ hy h0
          have a2 := hall _ _ hs hf
          omega
    by_cases h0 : 0 ≤ overF h wm cm (f + 1) x
    · refine .inr ⟨h0, ?_, fun s z hr hf => (low s z hr hf).2⟩
      rcases h1 with eb | ⟨y, hy, ey⟩
      · have hf : finB h cm x = true := by
          cases hf : finB h cm x with
          | true => rfl
          | false =>
            have hbe : baseD h cm x = -1 := by unfold baseD; rw [hf]; rfl
            rw [eb, hbe] at h0
            omega
        exact ⟨[], x, .stop x, hf, by rw [eb]; unfold baseD; rw [hf]; rfl⟩
      · rcases ih y hy with ⟨em, _⟩ | ⟨_, ⟨s, z, hr, hf, hv⟩, _⟩
        · rw [ey] at h0; omega
        · exact ⟨y.1 :: s, z, .move hy hr, hf, by rw [ey]; exact hv⟩
    · refine .inl ⟨by omega, fun s z hr => ?_⟩
      cases hf : finB h cm z with
      | false => rfl
      | true => exact absurd (low s z hr hf).1 h0
/-- 'over' at any fuel that is enough. -/
theorem over_fuel {h : DeH} {wm cm : Nat} {f g : Nat} {x : DeSt} (hx : x.writer ≤ h.writers.length) (hf : leftD h x ≤ f) (hg : leftD h x ≤ g) : overF h wm cm f x = overF h wm cm g x := by
  rcases over_spec (wm := wm) (cm := cm) f x hx hf with ⟨e1, n1⟩ | ⟨p1, ⟨s1, z1, r1, f1, v1⟩, l1⟩ <;> rcases over_spec (wm := wm) (cm := cm) g x hx hg with ⟨e2, n2⟩ | ⟨p2, ⟨s2, z2, r2, f2, v2⟩, l2⟩
  · rw [e1, e2]
  · have := n1 _ _ r2; rw [f2] at this; cases this
  · have := n2 _ _ r1; rw [f1] at this; cases this
  · have a := l1 _ _ r2 f2
    have b := l2 _ _ r1 f1
    omega
end Go.Proofs.YtelmponkmmfffaaGreat
namespace Go.Proofs.YtelmponkmmfffaaGreat

theorem next_sorted (h : DeH) (wm cm : Nat) (x : DeSt) : (nextD h wm cm x).Pairwise fun a b => a.1 < b.1 := by
  unfold nextD
  split
  · exact List.Pairwise.nil
  · rw [List.pairwise_cons]
    constructor
    · intro y hy
      obtain ⟨c, _, rfl⟩ := List.mem_map.1 hy
      show (-1 : Int) < (c : Int)
      omega
    · rw [List.pairwise_map]
      refine List.Pairwise.filter _ ?_
      exact (List.pairwise_lt_range (n := h.customers.length)).imp (fun hab => by show ((_ : Nat) : Int) < ((_ : Nat) : Int); omega)
/-- 'find': the moves of the first way that ends at a minute. -/
def findF (h : DeH) (wm cm : Nat) (over : Int) : Nat → DeSt → List Int
  | 0, _ => []
  | f + 1, x => match (nextD h wm cm x).find? (fun y => overF h wm cm f y.2 == over) with
    | some y => y.1 :: findF h wm cm over f y.2
    | none => []
theorem find_spec {h : DeH} {wm cm : Nat} {over : Int} (h0 : 0 ≤ over) : ∀ (f : Nat) (x : DeSt), x.writer ≤ h.writers.length → leftD h x ≤ f → overF h wm cm f x = over →
    ∃ z, RunD h wm cm x (findF h wm cm over f x) z ∧ finB h cm z = true ∧ fvD h z = over ∧ ∀ s' z', RunD h wm cm x s' z' → finB h cm z' = true → fvD h z' = over → s' = findF h wm cm over f x ∨ less (findF h wm cm over f x) s' = true
  | 0, x, hx, hl, ho => by
    have hw : x.writer = h.writers.length := by unfold leftD at hl; omega
    have hn : nextD h wm cm x = [] := by unfold nextD; rw [if_pos hw]
    rcases over_spec (wm := wm) (cm := cm) 0 x hx hl with ⟨e, _⟩ | ⟨_, ⟨s, z, hr, hf, hv⟩, _⟩
    · omega
    · cases hr with
      | stop =>
        refine ⟨x, .stop x, hf, hv.trans ho, fun s' z' hr' _ _ => .inl ?_⟩
        cases hr' with
        | stop => rfl
        | move hy _ => rw [hn] at hy; cases hy
      | move hy _ => rw [hn] at hy; cases hy
  | f + 1, x, hx, hl, ho => by
    have hlt := fun (y : Int × DeSt) (hy : y ∈ nextD h wm cm x) => next_left hx hy
    rcases over_spec (wm := wm) (cm := cm) (f + 1) x hx hl with ⟨e, _⟩ | ⟨_, ⟨s, z, hr, hf, hv⟩, hall⟩
    · omega
    rw [ho] at hv hall
    have least : ∀ y ∈ nextD h wm cm x, ∀ t z', RunD h wm cm y.2 t z' → finB h cm z' = true → fvD h z' = over → overF h wm cm f y.2 = over := fun y hy t z' hr' hf' hv' => by
      rcases over_spec (wm := wm) (cm := cm) f y.2 (hlt y hy).2 (by have := (hlt y hy).1; omega) with ⟨_, hno⟩ | ⟨_, ⟨s2, z2, r2, f2, v2⟩, l2⟩
      · have := hno _ _ hr'; rw [hf'] at this; cases this
      · have a := l2 _ _ hr' hf'
        have b := hall _ _ (.move hy r2) f2
        omega
    cases hn : (nextD h wm cm x).find? (fun y => overF h wm cm f y.2 == over) with
    | none =>
      have hnone := List.find?_eq_none.1 hn
      have e : findF h wm cm over (f + 1) x = [] := by unfold findF; rw [hn]
      rw [e]
      cases hr with
      | stop =>
        refine ⟨x, .stop x, hf, hv, fun s' z' hr' hf' hv' => .inl ?_⟩
        cases hr' with
        | stop => rfl
        | move hy hs => exact absurd (by simpa using least _ hy _ _ hs hf' hv') (hnone _ hy)
      | move hy hs => exact absurd (by simpa using least _ hy _ _ hs hf hv) (hnone _ hy)
    | some y =>
      obtain ⟨hpy, la, bs, hab, has⟩ := List.find?_eq_some_iff_append.1 hn
      have hy : y ∈ nextD h wm cm x := by rw [hab]; simp
      have hoy : overF h wm cm f y.2 = over := by simpa using hpy
      have e : findF h wm cm over (f + 1) x = y.1 :: findF h wm cm over f y.2 := by
        show (match (nextD h wm cm x).find? (fun y => overF h wm cm f y.2 == over) with | some y => y.1 :: findF h wm cm over f y.2 | none => []) = _
        rw [hn]
      obtain ⟨z1, r1, f1, v1, l1⟩ := find_spec h0 f y.2 (hlt y hy).2 (by have := (hlt y hy).1; omega) hoy
      rw [e]
      refine ⟨z1, .move hy r1, f1, v1, fun s' z' hr' hf' hv' => ?_⟩
      cases hr' with
      | stop =>
        have hxw : x.writer = h.writers.length := by
          unfold finB at hf'
          simp only [Bool.and_eq_true, decide_eq_true_eq] at hf'
          exact hf'.1
        unfold nextD at hy
        rw [if_pos hxw] at hy
        cases hy
      | @move _ _ y' t hy' hs' =>
        have hoy' := least _ hy' _ _ hs' hf' hv'
        have hmem := hy'
        rw [hab] at hmem
        have hsort := next_sorted h wm cm x
        rw [hab] at hsort
        rcases List.mem_append.1 hmem with ha | hb
        · have := has _ ha
          simp [hoy'] at this
        · rcases List.mem_cons.1 hb with rfl | hb2
          · rcases l1 _ _ hs' hf' hv' with e2 | e2
            · exact .inl (by rw [e2])
            · exact .inr (by show (if y'.1 = y'.1 then less _ _ else _) = true; rw [if_pos rfl]; exact e2)
          · have hlt2 := (List.pairwise_cons.1 (List.pairwise_append.1 hsort).2.1).1 _ hb2
            refine .inr ?_
            show (if y.1 = y'.1 then less _ _ else decide (y.1 < y'.1)) = true
            rw [if_neg (by omega)]
            exact decide_eq_true hlt2
end Go.Proofs.YtelmponkmmfffaaGreat
namespace Go.Proofs.YtelmponkmmfffaaGreat

/-- The moves of a plan. -/
def seqOf (p : List (List Int)) : List Int := p.flatMap fun l => l ++ [-1]
theorem seqOf_cons (l : List Int) (p : List (List Int)) : seqOf (l :: p) = l ++ (-1 :: seqOf p) := by simp [seqOf]
def rowEnd (h : DeH) : DeSt → List Int → DeSt
  | x, [] => x
  | x, c :: l => rowEnd h (nextC h x c.toNat) l
def rowOk (h : DeH) (wm cm : Nat) : DeSt → List Int → Prop
  | _, [] => True
  | x, c :: l => (0 ≤ c ∧ c < (h.customers.length : Int) ∧ putB h wm cm x c.toNat = true) ∧ rowOk h wm cm (nextC h x c.toNat) l
def planEnd (h : DeH) : DeSt → List (List Int) → DeSt
  | x, [] => x
  | x, l :: p => planEnd h (nextW (rowEnd h x l)) p
def planGood (h : DeH) (wm cm : Nat) : DeSt → List (List Int) → Prop
  | _, [] => True
  | x, l :: p => rowOk h wm cm x l ∧ planGood h wm cm (nextW (rowEnd h x l)) p
theorem rowEnd_writer (h : DeH) : ∀ (l : List Int) (x : DeSt), (rowEnd h x l).writer = x.writer
  | [], _ => rfl
  | c :: l, x => rowEnd_writer h l (nextC h x c.toNat)
theorem mem_next {h : DeH} {wm cm : Nat} {x : DeSt} {y : Int × DeSt} (hx : x.writer ≠ h.writers.length) :
    y ∈ nextD h wm cm x ↔ y = (-1, nextW x) ∨ ∃ c : Nat, c < h.customers.length ∧ putB h wm cm x c = true ∧ y = ((c : Int), nextC h x c) := by
  unfold nextD
  rw [if_neg hx, List.mem_cons, List.mem_map]
  constructor
  · rintro (e | ⟨c, hc, e⟩)
    · exact .inl e
    · obtain ⟨h1, h2⟩ := List.mem_filter.1 hc
      exact .inr ⟨c, by simpa using h1, h2, e.symm⟩
  · rintro (e | ⟨c, h1, h2, e⟩)
    · exact .inl e
    · exact .inr ⟨c, List.mem_filter.2 ⟨by simpa using h1, h2⟩, e.symm⟩
theorem run_row {h : DeH} {wm cm : Nat} {z : DeSt} {s : List Int} : ∀ (l : List Int) (x : DeSt), rowOk h wm cm x l → x.writer ≠ h.writers.length → RunD h wm cm (rowEnd h x l) s z → RunD h wm cm x (l ++ s) z
  | [], _, _, _, hr => hr
  | c :: l, x, ho, hx, hr => by
    obtain ⟨⟨h0, h1, h2⟩, h3⟩ := ho
    have ih := run_row l (nextC h x c.toNat) h3 hx hr
    have hy : ((c.toNat : Int), nextC h x c.toNat) ∈ nextD h wm cm x := (mem_next hx).2 (.inr ⟨c.toNat, by omega, h2, rfl⟩)
    have := RunD.move hy ih
    rw [show ((c.toNat : Int)) = c by omega] at this
    exact this
theorem run_good {h : DeH} {wm cm : Nat} : ∀ (p : List (List Int)) (x : DeSt), planGood h wm cm x p → x.writer + p.length = h.writers.length → RunD h wm cm x (seqOf p) (planEnd h x p)
  | [], x, _, _ => .stop x
  | l :: p, x, hg, hl => by
    obtain ⟨h1, h2⟩ := hg
    have hx : x.writer ≠ h.writers.length := by simp at hl; omega
    have hw := rowEnd_writer h l x
    have ih := run_good p (nextW (rowEnd h x l)) h2 (by show (rowEnd h x l).writer + 1 + _ = _; rw [hw]; simp at hl; omega)
    rw [seqOf_cons]
    refine run_row l x h1 hx ?_
    exact RunD.move (y := (-1, nextW (rowEnd h x l))) ((mem_next (by rw [hw]; exact hx)).2 (.inl rfl)) ih
theorem run_plan {h : DeH} {wm cm : Nat} {x z : DeSt} {s : List Int} (hr : RunD h wm cm x s z) : finB h cm z = true → x.writer ≤ h.writers.length → ∃ p, x.writer + p.length = h.writers.length ∧ s = seqOf p ∧ planGood h wm cm x p ∧ z = planEnd h x p := by
  induction hr with
  | stop x =>
    intro hf _
    unfold finB at hf
    simp only [Bool.and_eq_true, decide_eq_true_eq] at hf
    exact ⟨[], by simpa using hf.1, rfl, trivial, rfl⟩
  | @move x z y s hy hs ih =>
    intro hf hx
    have hne : x.writer ≠ h.writers.length := fun e => by unfold nextD at hy; rw [if_pos e] at hy; cases hy
    rcases (mem_next hne).1 hy with rfl | ⟨c, hc, hp, rfl⟩
    · obtain ⟨p, h1, h2, h3, h4⟩ := ih hf (by show x.writer + 1 ≤ _; omega)
      refine ⟨[] :: p, ?_, ?_, ⟨trivial, h3⟩, h4⟩
      · have h1' : x.writer + 1 + p.length = h.writers.length := h1
        simp; omega
      · rw [seqOf_cons, h2]; rfl
    · obtain ⟨p, h1, h2, h3, h4⟩ := ih hf hx
      have h1' : x.writer + p.length = h.writers.length := h1
      cases p with
      | nil => simp at h1'; omega
      | cons l p =>
        refine ⟨((c : Int) :: l) :: p, by simpa using h1', ?_, ⟨⟨⟨by omega, by omega, by simpa using hp⟩, by simpa using h3.1⟩, by simpa [rowEnd] using h3.2⟩, by simpa [planEnd, rowEnd] using h4⟩
        rw [seqOf_cons] at h2 ⊢
        rw [h2]; rfl

/-- A shorter list first, then by numbers: as the moves. -/
theorem less_seq : ∀ (l m : List Int) (a b : List Int), (∀ c ∈ l, 0 ≤ c) → (∀ c ∈ m, 0 ≤ c) → less (l ++ (-1 :: a)) (m ++ (-1 :: b)) = if l = m then less a b else less l m
  | [], [], a, b, _, _ => by
    show (if (-1 : Int) = -1 then less a b else _) = _
    rw [if_pos rfl, if_pos rfl]
  | [], y :: m, a, b, _, hm => by
    have := hm y (by simp)
    show (if (-1 : Int) = y then _ else decide ((-1 : Int) < y)) = _
    rw [if_neg (by omega), if_neg (by simp), decide_eq_true (by omega)]
    rfl
  | x :: l, [], a, b, hl, _ => by
    have := hl x (by simp)
    show (if x = -1 then _ else decide (x < -1)) = _
    rw [if_neg (by omega), if_neg (by simp), decide_eq_false (by omega)]
    rfl
  | x :: l, y :: m, a, b, hl, hm => by
    have ih := less_seq l m a b (fun c hc => hl c (List.mem_cons_of_mem _ hc)) (fun c hc => hm c (List.mem_cons_of_mem _ hc))
    show (if x = y then less (l ++ _) (m ++ _) else decide (x < y)) = _
    by_cases e : x = y
    · subst e
      rw [if_pos rfl, ih]
      by_cases e2 : l = m
      · rw [if_pos e2, if_pos (by rw [e2])]
      · rw [if_neg e2, if_neg (by simpa using e2)]
        show _ = (if x = x then less l m else _)
        rw [if_pos rfl]
    · rw [if_neg e, if_neg (fun e2 => e (List.cons.inj e2).1)]
      show _ = (if x = y then _ else decide (x < y))
      rw [if_neg e]
theorem before_seq : ∀ (p q : List (List Int)), p.length = q.length → (∀ c ∈ p.flatten, 0 ≤ c) → (∀ c ∈ q.flatten, 0 ≤ c) → beforeD p q = less (seqOf p) (seqOf q)
  | [], [], _, _, _ => rfl
  | [], _ :: _, h, _, _ => by simp at h
  | _ :: _, [], h, _, _ => by simp at h
  | l :: p, m :: q, h, hp, hq => by
    have ih := before_seq p q (by simpa using h) (fun c hc => hp c (by rw [List.flatten_cons]; exact List.mem_append.2 (.inr hc))) (fun c hc => hq c (by rw [List.flatten_cons]; exact List.mem_append.2 (.inr hc)))
    rw [seqOf_cons, seqOf_cons, less_seq l m _ _ (fun c hc => hp c (by rw [List.flatten_cons]; exact List.mem_append.2 (.inl hc))) (fun c hc => hq c (by rw [List.flatten_cons]; exact List.mem_append.2 (.inl hc))), ← ih]
    rfl
theorem seq_inj : ∀ (p q : List (List Int)), p.length = q.length → (∀ c ∈ p.flatten, 0 ≤ c) → (∀ c ∈ q.flatten, 0 ≤ c) → seqOf p = seqOf q → p = q
  | [], [], _, _, _, _ => rfl
  | [], _ :: _, h, _, _, _ => by simp at h
  | _ :: _, [], h, _, _, _ => by simp at h
  | l :: p, m :: q, h, hp, hq, e => by
    have hp1 : ∀ c ∈ l, 0 ≤ c := fun c hc => hp c (by rw [List.flatten_cons]; exact List.mem_append.2 (.inl hc))
    have hq1 : ∀ c ∈ m, 0 ≤ c := fun c hc => hq c (by rw [List.flatten_cons]; exact List.mem_append.2 (.inl hc))
    rw [seqOf_cons, seqOf_cons] at e
    have key : ∀ (l m : List Int), (∀ c ∈ l, 0 ≤ c) → (∀ c ∈ m, 0 ≤ c) → l ++ (-1 :: seqOf p) = m ++ (-1 :: seqOf q) → l = m ∧ seqOf p = seqOf q := by
      intro l
      induction l with
      | nil =>
        intro m _ hm e
        cases m with
        | nil => exact ⟨rfl, (List.cons.inj e).2⟩
        | cons y m => have := (List.cons.inj e).1; have := hm y (by simp); omega
      | cons x l ih =>
        intro m hl hm e
        cases m with
        | nil => have := (List.cons.inj e).1; have := hl x (by simp); omega
        | cons y m =>
          obtain ⟨e1, e2⟩ := List.cons.inj e
          obtain ⟨e3, e4⟩ := ih m (fun c hc => hl c (List.mem_cons_of_mem _ hc)) (fun c hc => hm c (List.mem_cons_of_mem _ hc)) e2
          exact ⟨by rw [e1, e3], e4⟩
    obtain ⟨e1, e2⟩ := key l m hp1 hq1 e
    have := seq_inj p q (by simpa using h) (fun c hc => hp c (by rw [List.flatten_cons]; exact List.mem_append.2 (.inr hc))) (fun c hc => hq c (by rw [List.flatten_cons]; exact List.mem_append.2 (.inr hc))) e2
    rw [e1, this]
end Go.Proofs.YtelmponkmmfffaaGreat
namespace Go.Proofs.YtelmponkmmfffaaGreat

/-- When a writer is done with a list. -/
def timeD (h : DeH) : Int → List Int → Int
  | t, [] => t
  | t, c :: l => timeD h (t + (customerAt h c.toNat).hi + h.wax) l
/-- All of a list are in time. -/
def inTime (h : DeH) : Int → List Int → Prop
  | _, [] => True
  | t, c :: l => t + (customerAt h c.toNat).hi + h.wax ≤ (customerAt h c.toNat).ship ∧ inTime h (t + (customerAt h c.toNat).hi + h.wax) l
def bitsOr (d : Nat) (l : List Int) : Nat := l.foldl (fun d c => d ||| 2 ^ c.toNat) d
theorem bitsOr_bit : ∀ (l : List Int) (d i : Nat), (bitsOr d l).testBit i = (d.testBit i || l.any fun c => decide (c.toNat = i))
  | [], d, i => by simp [bitsOr]
  | c :: l, d, i => by
    show (bitsOr (d ||| 2 ^ c.toNat) l).testBit i = _
    rw [bitsOr_bit l, Nat.testBit_or, Nat.testBit_two_pow, List.any_cons, Bool.or_assoc]
theorem bitsOr_append (d : Nat) (l m : List Int) : bitsOr d (l ++ m) = bitsOr (bitsOr d l) m := by simp [bitsOr]
def minuteAt (x : DeSt) (w : Nat) : Int := x.ms[w]?.getD 0
theorem rowEnd_done (h : DeH) : ∀ (l : List Int) (x : DeSt), (rowEnd h x l).done = bitsOr x.done l
  | [], _ => rfl
  | c :: l, x => rowEnd_done h l (nextC h x c.toNat)
theorem rowEnd_len (h : DeH) : ∀ (l : List Int) (x : DeSt), (rowEnd h x l).ms.length = x.ms.length
  | [], _ => rfl
  | c :: l, x => (rowEnd_len h l (nextC h x c.toNat)).trans (by simp [nextC])
theorem nextC_minute (h : DeH) (x : DeSt) (c w : Nat) (hx : x.writer < x.ms.length) : minuteAt (nextC h x c) w = if w = x.writer then goD h x c else minuteAt x w := by
  unfold minuteAt nextC
  simp only
  rw [List.getElem?_set]
  by_cases e : x.writer = w
  · subst e
    rw [if_pos rfl, if_pos hx, if_pos rfl]; rfl
  · rw [if_neg e, if_neg (fun h => e h.symm)]
theorem rowEnd_minute (h : DeH) : ∀ (l : List Int) (x : DeSt) (w : Nat), x.writer < x.ms.length → minuteAt (rowEnd h x l) w = if w = x.writer then timeD h (minuteAt x x.writer) l else minuteAt x w
  | [], x, w, _ => by
    show minuteAt x w = _
    split
    · rename_i e; rw [e]; rfl
    · rfl
  | c :: l, x, w, hx => by
    have hl : (nextC h x c.toNat).writer < (nextC h x c.toNat).ms.length := by simpa [nextC] using hx
    show minuteAt (rowEnd h (nextC h x c.toNat) l) w = _
    rw [rowEnd_minute h l _ w hl]
    have hw : (nextC h x c.toNat).writer = x.writer := rfl
    rw [hw, nextC_minute h x _ _ hx, nextC_minute h x _ _ hx, if_pos rfl]
    by_cases e : w = x.writer
    · rw [if_pos e, if_pos e]; rfl
    · rw [if_neg e, if_neg e, if_neg e]
theorem rowOk_iff {h : DeH} {wm cm : Nat} : ∀ {l : List Int} {x : DeSt}, x.writer < x.ms.length →
    (rowOk h wm cm x l ↔ (∀ c ∈ l, 0 ≤ c ∧ c < (h.customers.length : Int) ∧ cm.testBit c.toNat = true ∧ x.done.testBit c.toNat = false ∧ wm.testBit x.writer = true ∧ canD h x.writer c.toNat = true) ∧ l.Nodup ∧ inTime h (minuteAt x x.writer) l)
  | [], x, _ => by simp [rowOk, inTime]
  | c :: l, x, hx => by
    have hl : (nextC h x c.toNat).writer < (nextC h x c.toNat).ms.length := by simpa [nextC] using hx
    have ih := rowOk_iff (h := h) (wm := wm) (cm := cm) (l := l) hl
    have hw : (nextC h x c.toNat).writer = x.writer := rfl
    have hd : (nextC h x c.toNat).done = x.done ||| 2 ^ c.toNat := rfl
    have hm : minuteAt (nextC h x c.toNat) x.writer = minuteAt x x.writer + (customerAt h c.toNat).hi + h.wax := by rw [nextC_minute h x _ _ hx, if_pos rfl]; rfl
    have hp : putB h wm cm x c.toNat = true ↔ cm.testBit c.toNat = true ∧ x.done.testBit c.toNat = false ∧ wm.testBit x.writer = true ∧ canD h x.writer c.toNat = true ∧ minuteAt x x.writer + (customerAt h c.toNat).hi + h.wax ≤ (customerAt h c.toNat).ship := by
      unfold putB goD minuteAt
      simp only [Bool.and_eq_true, Bool.not_eq_true', decide_eq_true_eq]
      constructor
      · rintro ⟨⟨⟨a, b⟩, d, e⟩, f⟩; exact ⟨a, b, d, e, f⟩
      · rintro ⟨a, b, d, e, f⟩; exact ⟨⟨⟨a, b⟩, d, e⟩, f⟩
    show ((0 ≤ c ∧ c < (h.customers.length : Int) ∧ putB h wm cm x c.toNat = true) ∧ rowOk h wm cm (nextC h x c.toNat) l) ↔ _
    rw [ih, hp, hw, hm, hd, List.nodup_cons]
    constructor
    · rintro ⟨⟨h0, h1, a, b, d, e, f⟩, g1, g2, g3⟩
      have hne : ∀ y ∈ l, y.toNat ≠ c.toNat := fun y hy e2 => by
        have := (g1 y hy).2.2.2.1
        rw [e2, Nat.testBit_or, Nat.testBit_two_pow] at this
        simp at this
      refine ⟨fun y hy => ?_, ⟨fun hc => hne c hc rfl, g2⟩, f, g3⟩
      rcases List.mem_cons.1 hy with rfl | hy2
      · exact ⟨h0, h1, a, b, d, e⟩
      · have k := g1 y hy2
        have kb := k.2.2.2.1
        rw [Nat.testBit_or, Bool.or_eq_false_iff] at kb
        exact ⟨k.1, k.2.1, k.2.2.1, kb.1, k.2.2.2.2⟩
    · rintro ⟨g1, ⟨g2, g3⟩, f, g4⟩
      have k := g1 c (by simp)
      refine ⟨⟨k.1, k.2.1, k.2.2.1, k.2.2.2.1, k.2.2.2.2.1, k.2.2.2.2.2, f⟩, fun y hy => ?_, g3, g4⟩
      have ky := g1 y (List.mem_cons_of_mem _ hy)
      have hne : y ≠ c := fun e => g2 (e ▸ hy)
      refine ⟨ky.1, ky.2.1, ky.2.2.1, ?_, ky.2.2.2.2⟩
      rw [Nat.testBit_or, Nat.testBit_two_pow, ky.2.2.2.1]
      simp
      omega
theorem planGood_iff {h : DeH} {wm cm : Nat} : ∀ {p : List (List Int)} {x : DeSt}, x.writer + p.length ≤ x.ms.length →
    (planGood h wm cm x p ↔ (∀ c ∈ p.flatten, 0 ≤ c ∧ c < (h.customers.length : Int) ∧ cm.testBit c.toNat = true ∧ x.done.testBit c.toNat = false) ∧ p.flatten.Nodup ∧
      ∀ v l, p[v]? = some l → (∀ c ∈ l, wm.testBit (x.writer + v) = true ∧ canD h (x.writer + v) c.toNat = true) ∧ inTime h (minuteAt x (x.writer + v)) l)
  | [], x, _ => by simp [planGood]
  | l :: p, x, hx => by
    have hx0 : x.writer < x.ms.length := by simp at hx; omega
    have hw := rowEnd_writer h l x
    have ih := planGood_iff (h := h) (wm := wm) (cm := cm) (p := p) (x := nextW (rowEnd h x l)) (by show (rowEnd h x l).writer + 1 + p.length ≤ (rowEnd h x l).ms.length; rw [hw, rowEnd_len]; simp at hx; omega)
    have hwn : (nextW (rowEnd h x l)).writer = x.writer + 1 := by show (rowEnd h x l).writer + 1 = _; rw [hw]
    have hdn : (nextW (rowEnd h x l)).done = bitsOr x.done l := rowEnd_done h l x
    have hmn : ∀ v, minuteAt (nextW (rowEnd h x l)) (x.writer + 1 + v) = minuteAt x (x.writer + 1 + v) := fun v => by
      show minuteAt (rowEnd h x l) _ = _
      rw [rowEnd_minute h l x _ hx0, if_neg (by omega)]
    show (rowOk h wm cm x l ∧ planGood h wm cm (nextW (rowEnd h x l)) p) ↔ _
    rw [rowOk_iff hx0, ih, hwn, hdn, List.flatten_cons, List.nodup_append]
    constructor
    · rintro ⟨⟨a1, a2, a3⟩, b1, b2, b3⟩
      refine ⟨fun c hc => ?_, ⟨a2, b2, fun c hc d hd e => ?_⟩, fun v m hm => ?_⟩
      · rcases List.mem_append.1 hc with h1 | h1
        · have := a1 c h1; exact ⟨this.1, this.2.1, this.2.2.1, this.2.2.2.1⟩
        · have := b1 c h1
          rw [bitsOr_bit, Bool.or_eq_false_iff] at this
          exact ⟨this.1, this.2.1, this.2.2.1, this.2.2.2.1⟩
      · subst e
        have := (b1 c hd).2.2.2
        rw [bitsOr_bit, Bool.or_eq_false_iff, List.any_eq_false] at this
        exact this.2 c hc (by simp)
      · cases v with
        | zero =>
          simp at hm
          subst hm
          exact ⟨fun c hc => (a1 c hc).2.2.2.2, a3⟩
        | succ v =>
          have := b3 v m (by simpa using hm)
          rw [hmn] at this
          rwa [show x.writer + 1 + v = x.writer + (v + 1) by omega] at this
    · rintro ⟨a, ⟨b1, b2, b3⟩, c1⟩
      refine ⟨⟨fun c hc => ?_, b1, ?_⟩, fun c hc => ?_, b2, fun v m hm => ?_⟩
      · have k := a c (List.mem_append.2 (.inl hc))
        have k2 := (c1 0 l (by simp)).1 c hc
        exact ⟨k.1, k.2.1, k.2.2.1, k.2.2.2, k2⟩
      · exact (c1 0 l (by simp)).2
      · have k := a c (List.mem_append.2 (.inr hc))
        refine ⟨k.1, k.2.1, k.2.2.1, ?_⟩
        rw [bitsOr_bit, k.2.2.2, Bool.false_or, List.any_eq_false]
        intro d hd
        have kd := a d (List.mem_append.2 (.inl hd))
        have := b3 d hd c hc
        simp
        omega
      · have := c1 (v + 1) m (by simpa using hm)
        rw [hmn]
        rwa [show x.writer + (v + 1) = x.writer + 1 + v by omega] at this
theorem planEnd_is (h : DeH) : ∀ (p : List (List Int)) (x : DeSt), x.writer + p.length ≤ x.ms.length →
    (planEnd h x p).writer = x.writer + p.length ∧ (planEnd h x p).done = bitsOr x.done p.flatten ∧
    ∀ w, minuteAt (planEnd h x p) w = if x.writer ≤ w ∧ w < x.writer + p.length then timeD h (minuteAt x w) (p[w - x.writer]?.getD []) else minuteAt x w
  | [], x, _ => ⟨rfl, rfl, fun w => by rw [if_neg (fun hh => by have h2 : w < x.writer + 0 := hh.2; omega)]; rfl⟩
  | l :: p, x, hx => by
    have hx0 : x.writer < x.ms.length := by simp at hx; omega
    have hw := rowEnd_writer h l x
    have hwn : (nextW (rowEnd h x l)).writer = x.writer + 1 := by show (rowEnd h x l).writer + 1 = _; rw [hw]
    obtain ⟨i1, i2, i3⟩ := planEnd_is h p (nextW (rowEnd h x l)) (by show (rowEnd h x l).writer + 1 + p.length ≤ (rowEnd h x l).ms.length; rw [hw, rowEnd_len]; simp at hx; omega)
    have hdn : (nextW (rowEnd h x l)).done = bitsOr x.done l := rowEnd_done h l x
    refine ⟨?_, ?_, fun w => ?_⟩
    · show (planEnd h (nextW (rowEnd h x l)) p).writer = _
      rw [i1, hwn]; simp; omega
    · show (planEnd h (nextW (rowEnd h x l)) p).done = _
      rw [i2, hdn, List.flatten_cons, bitsOr_append]
    · show minuteAt (planEnd h (nextW (rowEnd h x l)) p) w = _
      rw [i3 w, hwn]
      have hm : minuteAt (nextW (rowEnd h x l)) w = if w = x.writer then timeD h (minuteAt x x.writer) l else minuteAt x w := rowEnd_minute h l x w hx0
      rw [hm]
      by_cases e : w = x.writer
      · subst e
        rw [if_neg (by omega), if_pos rfl, if_pos (by simp)]
        simp
      · rw [if_neg e]
        by_cases h1 : x.writer + 1 ≤ w ∧ w < x.writer + 1 + p.length
        · rw [if_pos h1, if_pos (by simp; omega), show w - x.writer = (w - (x.writer + 1)) + 1 by omega]
          simp
        · rw [if_neg h1, if_neg (by simp; omega)]
end Go.Proofs.YtelmponkmmfffaaGreat
