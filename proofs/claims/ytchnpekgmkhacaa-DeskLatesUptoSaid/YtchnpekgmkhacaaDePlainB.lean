/- What is proved here: plain Lean functions for layer 9 (desk), as the reference has them. No program. No condition. -/
/- What is proved here: which plans the reference of layer 9 enumerates. No program. No condition. -/
/- What is proved here: the search of layer 9 in plain Lean: the least end of all ways on from a stand, and the first way that has it. No program. No condition. -/
/- What is proved here: the first way on that ends as early as can be, as layer 9's Best finds it. No program. No condition. -/
/- What is proved here: ways on from a stand are plans, list by list; plans are ordered as their moves are. No program. No condition. -/
/- What is proved here: what a plan is that goes through from the beginning: its customers, and its minutes. No program. No condition. -/
/- What is proved here: when the letters of a plan are sealed, whether it surely does, and when it is over, in layer 9. No program. No condition. -/
/- What is proved here: when a plan is over, as the search of layer 9 finds it; plans of some writers for some customers. No program. No condition. -/
/- What is proved here: whether there is a plan that surely does, with some of the writers, or for some of the customers, in layer 9. No program. No condition. -/
/- What is proved here: what Best, Enough and Away of layer 9 are, by the search. No program. No condition. -/
/- What is proved here: what Later of layer 9 is, by the search at each minute. No program. No condition. -/
import Derived.Test.YtchnpekgmkhacaaDePlain
set_option linter.unusedVariables false
set_option linter.unusedSimpArgs false
namespace Go.Proofs.Ytchnpekgmkhacaa

structure DeW where
  name : ByteArray
  kinds : Int
  lo : Int
  hi : Int
structure DeC where
  name : ByteArray
  kind : Int
  lo : Int
  hi : Int
  ship : Int
structure DeH where
  wax : Int
  writers : List DeW
  customers : List DeC

/-- 'Ends' of a span: 7: out of range; 2: turned round. -/
def endsE (lo hi a b : Int) : Int := if inB lo a b && inB hi a b then (if hi < lo then 2 else 0) else 7
def deWErrOf (w : DeW) : Int := if inB w.kinds 0 15 then endsE w.lo w.hi 0 240 else 7
def deCErrOf (c : DeC) : Int := if inB c.kind 0 3 && inB c.ship 0 240 then endsE c.lo c.hi 1 30 else 7
def deWErr (h : DeH) (i : Nat) : Int := match h.writers[i]? with
  | some w => if fresh w.name ((h.writers.take i).map (·.name)) = 0 then deWErrOf w else fresh w.name ((h.writers.take i).map (·.name))
  | none => 0
def deCErr (h : DeH) (i : Nat) : Int := match h.customers[i]? with
  | some c => if fresh c.name ((h.customers.take i).map (·.name)) = 0 then deCErrOf c else fresh c.name ((h.customers.take i).map (·.name))
  | none => 0
def deCheck (h : DeH) : Int × Int × Int :=
  if inB h.wax 0 5 then checkPart 2 h.writers.length 3 (deWErr h) (checkPart 3 h.customers.length 5 (deCErr h) (0, 0, 0)) else (1, 0, 7)
/-- The error of a hall: 0: it is valid. -/
def deErr (h : DeH) : Int := (deCheck h).2.2

def writerAt (h : DeH) (w : Nat) : DeW := h.writers[w]?.getD ⟨ByteArray.empty, 0, 0, 0⟩
def customerAt (h : DeH) (c : Nat) : DeC := h.customers[c]?.getD ⟨ByteArray.empty, 0, 0, 0, 0⟩
/-- 'Can'. -/
def canD (h : DeH) (w c : Nat) : Bool := bitB (writerAt h w).kinds (customerAt h c).kind.toNat

/-- Some number stands twice. -/
def twiceB : List Int → Bool
  | [] => false
  | x :: l => hasB l x || twiceB l
/-- Somebody who cannot write some letter has it. -/
def wrongB (h : DeH) : Nat → List (List Int) → Bool
  | _, [] => false
  | w, l :: p => l.any (fun c => !canD h w c.toNat) || wrongB h (w + 1) p
/-- 'Plan': the error of a hall and a plan. -/
def dePlanErr (h : DeH) (p : List (List Int)) : Int :=
  if deErr h = 0 then
    if p.length = h.writers.length then
      if p.flatten.all (fun c => inB c 0 ((h.customers.length : Int) - 1)) then
        if twiceB p.flatten then 5 else if wrongB h 0 p then 2 else if p.flatten.length < h.customers.length then 8 else 0
      else 4
    else 3
  else deErr h

/-- The letters of one writer, sealed one behind the other. -/
def sealRow (h : DeH) : List Int → Int × Int → List (Int × Int) → List (Int × Int)
  | [], _, out => out
  | c :: l, s, out => sealRow h l (s.1 + (customerAt h c.toNat).lo + h.wax, s.2 + (customerAt h c.toNat).hi + h.wax) (out.set c.toNat (s.1 + (customerAt h c.toNat).lo + h.wax, s.2 + (customerAt h c.toNat).hi + h.wax))
def sealRows (h : DeH) : Nat → List (List Int) → List (Int × Int) → List (Int × Int)
  | _, [], out => out
  | w, l :: p, out => sealRows h (w + 1) p (sealRow h l ((writerAt h w).lo, (writerAt h w).hi) out)
/-- 'Sealed': when letters are sealed, at least and at most. -/
def deSealed (h : DeH) (p : List (List Int)) : List (Int × Int) := sealRows h 0 p (List.replicate h.customers.length (0, 0))
def deEnds (h : DeH) (p : List (List Int)) : List (Int × Int) × Int := if dePlanErr h p = 0 then (deSealed h p, 0) else ([], dePlanErr h p)

/-- 'Does' from a customer on: 2: never; 0: may be; 1: surely. -/
def doesFrom (h : DeH) : Nat → List (Int × Int) → Int → Int
  | _, [], out => out
  | c, s :: l, out => if (customerAt h c).ship < s.1 then 2 else doesFrom h (c + 1) l (if (customerAt h c).ship < s.2 then 0 else out)
def deDoes (h : DeH) (p : List (List Int)) : Int := doesFrom h 0 (deSealed h p) 1
def deFate (h : DeH) (p : List (List Int)) : Int × Int := if dePlanErr h p = 0 then (deDoes h p, 0) else (0, dePlanErr h p)

/-- 'Late' from a customer on: the first of the least ships that may be missed. -/
def lateFrom (h : DeH) : Nat → List (Int × Int) → Option Nat → Option Nat
  | _, [], out => out
  | c, s :: l, out => lateFrom h (c + 1) l (if decide ((customerAt h c).ship < s.2) && (match out with | none => true | some f => decide ((customerAt h c).ship < (customerAt h f).ship)) then some c else out)
def deLate (h : DeH) (p : List (List Int)) : Int × Int :=
  if dePlanErr h p = 0 then (match lateFrom h 0 (deSealed h p) none with | some c => ((c : Int), 0) | none => (0, 9)) else (0, dePlanErr h p)

/-- 'Before': the first list that differs decides. -/
def beforeD : List (List Int) → List (List Int) → Bool
  | x :: a, y :: b => if x = y then beforeD a b else less x y
  | _, _ => false
/-- 'Plans', customer by customer. -/
def insertAt (p : List (List Int)) (w i : Nat) (c : Int) : List (List Int) := p.modify w fun l => l.take i ++ c :: l.drop i
def planPut (h : DeH) (c : Nat) (p : List (List Int)) : List (List (List Int)) :=
  (List.range h.writers.length).flatMap fun w => if canD h w c then (List.range ((p[w]?.getD []).length + 1)).map fun i => insertAt p w i (c : Int) else []
def dePlansTo (h : DeH) : Nat → List (List (List Int))
  | 0 => [List.replicate h.writers.length []]
  | c + 1 => (dePlansTo h c).flatMap (planPut h c)
def dePlans (h : DeH) : List (List (List Int)) := dePlansTo h h.customers.length
/-- 'Over': when a plan is over, at the latest. -/
def deOver (h : DeH) (p : List (List Int)) : Int := (deSealed h p).foldl (fun n s => max n s.2) 0
def someD (h : DeH) : Bool := (dePlans h).any fun p => decide (deDoes h p = 1)

/-- 'Best', plan by plan. -/
def bestStepD (h : DeH) (b : Option (List (List Int) × Int)) (p : List (List Int)) : Option (List (List Int) × Int) :=
  if deDoes h p = 1 then (match b with
    | none => some (p, deOver h p)
    | some (q, n) => if deOver h p < n ∨ (deOver h p = n ∧ beforeD p q = true) then some (p, deOver h p) else some (q, n)) else b
def bestD (h : DeH) : Option (List (List Int) × Int) := (dePlans h).foldl (bestStepD h) none
def deBest (h : DeH) : List (List Int) × Int × Int :=
  if deErr h = 0 then (match bestD h with | some (p, n) => (p, n, 0) | none => ([], 0, 9)) else ([], 0, deErr h)

/-- 'Only' some writers; 'But' some customers. -/
def onlyD (h : DeH) (l : List Int) : DeH := { h with writers := l.map fun i => writerAt h i.toNat }
def butD (h : DeH) (l : List Int) : DeH := { h with customers := (List.range h.customers.length).filterMap fun (i : Nat) => if hasB l (i : Int) then none else h.customers[i]? }
def deEnough (h : DeH) : List Int × Int :=
  if deErr h = 0 then (match searchFrom (fun l => someD (onlyD h l)) h.writers.length 0 (h.writers.length + 1) with | some l => (l, 0) | none => ([], 9)) else ([], deErr h)
def deAway (h : DeH) : List Int × Int :=
  if deErr h = 0 then ((searchFrom (fun l => someD (butD h l)) h.customers.length 0 h.customers.length).getD ((choicesTo h.customers.length h.customers.length).headD []), 0) else ([], deErr h)
/-- 'Shipped', and 'Later'. -/
def shippedD (h : DeH) (c : Nat) (minute : Int) : DeH := { h with customers := h.customers.modify c fun x => { x with ship := minute } }
def laterErr (h : DeH) (c : Int) : Int := if deErr h = 0 then (if inB c 0 ((h.customers.length : Int) - 1) then 0 else 4) else deErr h
def laterStep (h last : DeH) (c : Nat) (b : Option Int) (p : List (List Int)) : Option Int :=
  if deDoes last p = 1 then (match b with
    | none => some (max 0 (((deSealed h p)[c]?.getD (0, 0)).2 - (customerAt h c).ship))
    | some n => if max 0 (((deSealed h p)[c]?.getD (0, 0)).2 - (customerAt h c).ship) < n then some (max 0 (((deSealed h p)[c]?.getD (0, 0)).2 - (customerAt h c).ship)) else some n) else b
def deLater (h : DeH) (c : Int) : Int × Int :=
  if laterErr h c = 0 then (match (dePlans h).foldl (laterStep h (shippedD h c.toNat 240) c.toNat) none with | some n => (n, 0) | none => (0, 9)) else (0, laterErr h c)
end Go.Proofs.Ytchnpekgmkhacaa
namespace Go.Proofs.Ytchnpekgmkhacaa

/-- A plan of the first customers of a hall. -/
structure PlanOk (h : DeH) (k : Nat) (p : List (List Int)) : Prop where
  len : p.length = h.writers.length
  nodup : p.flatten.Nodup
  mem : ∀ c : Int, c ∈ p.flatten ↔ 0 ≤ c ∧ c < (k : Int)
  can : ∀ w l, p[w]? = some l → ∀ c ∈ l, canD h w c.toNat = true

theorem insert_perm : ∀ (p : List (List Int)) (w i : Nat) (c : Int), w < p.length → ((insertAt p w i c).flatten).Perm (c :: p.flatten)
  | [], _, _, _, h => by simp at h
  | l :: p, 0, i, c, _ => by
    show ((l.take i ++ c :: l.drop i) :: p).flatten.Perm _
    rw [List.flatten_cons, List.flatten_cons]
    have h : (l.take i ++ c :: l.drop i).Perm (c :: l) := by
      have := List.perm_middle (a := c) (l₁ := l.take i) (l₂ := l.drop i)
      rwa [List.take_append_drop] at this
    exact h.append_right _
  | l :: p, w + 1, i, c, h => by
    show (l :: insertAt p w i c).flatten.Perm _
    rw [List.flatten_cons, List.flatten_cons]
    have ih := insert_perm p w i c (by simpa using h)
    exact (ih.append_left l).trans List.perm_middle
theorem insert_len (p : List (List Int)) (w i : Nat) (c : Int) : (insertAt p w i c).length = p.length := by simp [insertAt]
theorem insert_get (p : List (List Int)) (w i : Nat) (c : Int) (v : Nat) : (insertAt p w i c)[v]? = if w = v then (p[v]?).map (fun l => l.take i ++ c :: l.drop i) else p[v]? := by
  unfold insertAt
  rw [List.getElem?_modify]
  by_cases e : w = v
  · simp [e]
  · simp [e]

theorem plan_step {h : DeH} {k : Nat} {p : List (List Int)} {w i : Nat} (hp : PlanOk h k p) (hw : w < h.writers.length) (hc : canD h w k = true) : PlanOk h (k + 1) (insertAt p w i (k : Int)) := by
  have hperm := insert_perm p w i (k : Int) (by rw [hp.len]; exact hw)
  refine ⟨by rw [insert_len]; exact hp.len, ?_, fun c => ?_, fun v l hl c hcl => ?_⟩
  · rw [hperm.nodup_iff, List.nodup_cons]
    exact ⟨fun hm => by have := (hp.mem _).1 hm; omega, hp.nodup⟩
  · rw [hperm.mem_iff, List.mem_cons, hp.mem]
    omega
  · rw [insert_get] at hl
    by_cases e : w = v
    · subst e
      rw [if_pos rfl] at hl
      obtain ⟨l0, h0, rfl⟩ := Option.map_eq_some_iff.1 hl
      rcases List.mem_append.1 hcl with h1 | h1
      · exact hp.can w l0 h0 c (List.mem_of_mem_take h1)
      · rcases List.mem_cons.1 h1 with rfl | h2
        · simpa using hc
        · exact hp.can w l0 h0 c (List.mem_of_mem_drop h2)
    · rw [if_neg e] at hl
      exact hp.can v l hl c hcl

theorem plan_zero {h : DeH} {p : List (List Int)} : PlanOk h 0 p ↔ p = List.replicate h.writers.length [] := by
  constructor
  · intro hp
    have hf : p.flatten = [] := by
      rw [List.eq_nil_iff_forall_not_mem]
      intro c hc
      have := (hp.mem c).1 hc
      omega
    rw [List.eq_replicate_iff]
    refine ⟨hp.len, fun l hl => ?_⟩
    rw [List.eq_nil_iff_forall_not_mem]
    intro c hc
    have : c ∈ p.flatten := List.mem_flatten.2 ⟨l, hl, hc⟩
    rw [hf] at this
    cases this
  · rintro rfl
    have hf : (List.replicate h.writers.length ([] : List Int)).flatten = [] := by
      rw [List.eq_nil_iff_forall_not_mem]
      intro c hc
      obtain ⟨l, hl, hcl⟩ := List.mem_flatten.1 hc
      rw [(List.mem_replicate.1 hl).2] at hcl
      cases hcl
    refine ⟨by simp, by rw [hf]; exact List.nodup_nil, fun c => ⟨fun hc => by { rw [hf] at hc; cases hc }, fun hc => by omega⟩, fun w l hl c hc => ?_⟩
    have : l = [] := by
      obtain ⟨hlt, rfl⟩ := List.getElem?_eq_some_iff.1 hl
      simp
    rw [this] at hc
    cases hc

/-- Taken out again. -/
theorem plan_out {h : DeH} {k : Nat} {p : List (List Int)} (hp : PlanOk h (k + 1) p) : ∃ q w i, PlanOk h k q ∧ w < h.writers.length ∧ canD h w k = true ∧ i ≤ (q[w]?.getD []).length ∧ insertAt q w i (k : Int) = p := by
  obtain ⟨l, hl, hkl⟩ := List.mem_flatten.1 ((hp.mem (k : Int)).2 (by omega))
  obtain ⟨w, hw, rfl⟩ := List.getElem_of_mem hl
  obtain ⟨a, b, hab⟩ := List.append_of_mem hkl
  have hww : w < h.writers.length := by rw [← hp.len]; exact hw
  have hins : insertAt (p.set w (a ++ b)) w a.length (k : Int) = p := by
    apply List.ext_getElem?
    intro v
    rw [insert_get, List.getElem?_set]
    by_cases e : w = v
    · subst e
      rw [if_pos rfl, if_pos rfl, if_pos hw, List.getElem?_eq_getElem hw, hab]
      simp
    · rw [if_neg e, if_neg e]
  have hperm := insert_perm (p.set w (a ++ b)) w a.length (k : Int) (by simpa using hw)
  rw [hins] at hperm
  have hnd := hp.nodup
  rw [hperm.nodup_iff, List.nodup_cons] at hnd
  refine ⟨p.set w (a ++ b), w, a.length, ⟨by simpa using hp.len, hnd.2, fun c => ?_, fun v l hl c hc => ?_⟩, hww, ?_, ?_, hins⟩
  · have h1 := hp.mem c
    rw [hperm.mem_iff, List.mem_cons] at h1
    constructor
    · intro hc
      have h2 := h1.1 (.inr hc)
      have hne : c ≠ (k : Int) := fun e => hnd.1 (e ▸ hc)
      omega
    · intro hc
      rcases h1.2 (by omega) with e | e
      · omega
      · exact e
  · rw [List.getElem?_set] at hl
    by_cases e : w = v
    · subst e
      rw [if_pos rfl, if_pos hw] at hl
      have hl2 := Option.some.inj hl
      subst hl2
      refine hp.can w p[w] (List.getElem?_eq_getElem hw) c ?_
      rw [hab]
      rcases List.mem_append.1 hc with h1 | h1
      · exact List.mem_append.2 (.inl h1)
      · exact List.mem_append.2 (.inr (List.mem_cons_of_mem _ h1))
    · rw [if_neg e] at hl
      exact hp.can v l hl c hc
  · have := hp.can w p[w] (List.getElem?_eq_getElem hw) (k : Int) hkl
    simpa using this
  · rw [List.getElem?_set, if_pos rfl, if_pos hw]
    simp

theorem mem_plans {h : DeH} : ∀ {k : Nat} {p : List (List Int)}, p ∈ dePlansTo h k ↔ PlanOk h k p
  | 0, p => by rw [plan_zero]; simp [dePlansTo]
  | k + 1, p => by
    rw [dePlansTo, List.mem_flatMap]
    constructor
    · rintro ⟨q, hq, hp⟩
      have hq2 := mem_plans.1 hq
      unfold planPut at hp
      obtain ⟨w, hw, hp2⟩ := List.mem_flatMap.1 hp
      split at hp2
      · rename_i hc
        obtain ⟨i, _, rfl⟩ := List.mem_map.1 hp2
        exact plan_step hq2 (by simpa using hw) hc
      · cases hp2
    · intro hp
      obtain ⟨q, w, i, hq, hw, hc, hi, rfl⟩ := plan_out hp
      refine ⟨q, mem_plans.2 hq, ?_⟩
      unfold planPut
      refine List.mem_flatMap.2 ⟨w, by simpa using hw, ?_⟩
      rw [if_pos hc]
      exact List.mem_map.2 ⟨i, by simp; omega, rfl⟩

/-- The plans of the reference. -/
theorem twice_iff : ∀ {l : List Int}, twiceB l = false ↔ l.Nodup
  | [] => by simp [twiceB]
  | x :: l => by
    rw [twiceB, Bool.or_eq_false_iff, twice_iff, List.nodup_cons]
    have : hasB l x = false ↔ x ∉ l := by rw [← Bool.not_eq_true, hasB_iff]
    rw [this]
theorem wrong_iff {h : DeH} : ∀ {p : List (List Int)} {w : Nat}, wrongB h w p = false ↔ ∀ v l, p[v]? = some l → ∀ c ∈ l, canD h (w + v) c.toNat = true
  | [], w => by simp [wrongB]
  | l :: p, w => by
    rw [wrongB, Bool.or_eq_false_iff, wrong_iff]
    constructor
    · rintro ⟨h1, h2⟩ v m hm c hc
      cases v with
      | zero =>
        simp at hm
        subst hm
        rw [List.any_eq_false] at h1
        have := h1 c hc
        simpa using this
      | succ v =>
        have := h2 v m (by simpa using hm) c hc
        rwa [show w + 1 + v = w + (v + 1) by omega] at this
    · intro h1
      refine ⟨?_, fun v m hm c hc => ?_⟩
      · rw [List.any_eq_false]
        intro c hc
        have := h1 0 l (by simp) c hc
        simpa using this
      · have := h1 (v + 1) m (by simpa using hm) c hc
        rwa [show w + (v + 1) = w + 1 + v by omega] at this
/-- So many different numbers below so many: all of them. -/
theorem nodup_all : ∀ (n : Nat) (l : List Int), l.Nodup → (∀ c ∈ l, 0 ≤ c ∧ c < (n : Int)) → n ≤ l.length → ∀ c : Int, 0 ≤ c → c < (n : Int) → c ∈ l
  | 0, l, _, _, _, c, h0, h1 => by omega
  | n + 1, l, hn, hb, hl, c, h0, h1 => by
    by_cases hm : (n : Int) ∈ l
    · by_cases e : c = (n : Int)
      · rw [e]; exact hm
      · have h2 := nodup_all n (l.erase (n : Int)) (hn.erase _) (fun x hx => by
          have hx2 := (List.Nodup.mem_erase_iff hn).1 hx
          have := hb x hx2.2
          have := hx2.1
          omega) (by rw [List.length_erase_of_mem hm]; omega) c h0 (by omega)
        exact List.mem_of_mem_erase h2
    · have hb2 : ∀ c ∈ l, 0 ≤ c ∧ c < (n : Int) := fun x hx => by
        have := hb x hx
        have : x ≠ (n : Int) := fun e => hm (e ▸ hx)
        omega
      exact absurd (nodup_len n l hn hb2) (by omega)
  where
  nodup_len : ∀ (n : Nat) (l : List Int), l.Nodup → (∀ c ∈ l, 0 ≤ c ∧ c < (n : Int)) → l.length ≤ n
  | 0, l, _, hb => by
    cases l with
    | nil => simp
    | cons x l => have := hb x (by simp); omega
  | n + 1, l, hn, hb => by
    by_cases hm : (n : Int) ∈ l
    · have h2 := nodup_len n (l.erase (n : Int)) (hn.erase _) (fun x hx => by
        have hx2 := (List.Nodup.mem_erase_iff hn).1 hx
        have := hb x hx2.2
        have := hx2.1
        omega)
      rw [List.length_erase_of_mem hm] at h2
      omega
    · have := nodup_len n l hn (fun x hx => by
        have := hb x hx
        have : x ≠ (n : Int) := fun e => hm (e ▸ hx)
        omega)
      omega
theorem all_len : ∀ (n : Nat) (l : List Int), (∀ c : Int, 0 ≤ c → c < (n : Int) → c ∈ l) → n ≤ l.length
  | 0, _, _ => Nat.zero_le _
  | n + 1, l, h => by
    have hm := h (n : Int) (by omega) (by omega)
    have ih := all_len n (l.erase (n : Int)) (fun c h0 h1 => (List.mem_erase_of_ne (by omega)).2 (h c h0 (by omega)))
    rw [List.length_erase_of_mem hm] at ih
    have := List.length_pos_of_mem hm
    omega
theorem plan_iff {h : DeH} {p : List (List Int)} : dePlanErr h p = 0 ↔ deErr h = 0 ∧ PlanOk h h.customers.length p := by
  unfold dePlanErr
  by_cases h0 : deErr h = 0
  · rw [if_pos h0]
    by_cases h1 : p.length = h.writers.length
    · rw [if_pos h1]
      by_cases h2 : p.flatten.all (fun c => inB c 0 ((h.customers.length : Int) - 1)) = true
      · rw [if_pos h2]
        rw [List.all_eq_true] at h2
        have h2' : ∀ c ∈ p.flatten, 0 ≤ c ∧ c < (h.customers.length : Int) := fun c hc => by
          have := inB_iff.1 (h2 c hc)
          omega
        constructor
        · intro he
          by_cases h3 : twiceB p.flatten = true
          · rw [if_pos h3] at he; cases he
          rw [if_neg h3] at he
          by_cases h4 : wrongB h 0 p = true
          · rw [if_pos h4] at he; cases he
          rw [if_neg h4] at he
          by_cases h5 : p.flatten.length < h.customers.length
          · rw [if_pos h5] at he; cases he
          have hn := twice_iff.1 (Bool.eq_false_iff.2 h3)
          have hw := wrong_iff.1 (Bool.eq_false_iff.2 h4)
          refine ⟨h0, h1, hn, fun c => ⟨h2' c, fun hc => nodup_all _ _ hn h2' (by omega) c hc.1 hc.2⟩, fun w l hl c hc => ?_⟩
          have := hw w l hl c hc
          rwa [Nat.zero_add] at this
        · rintro ⟨_, hp⟩
          have h3 : twiceB p.flatten = false := twice_iff.2 hp.nodup
          have h4 : wrongB h 0 p = false := wrong_iff.2 (fun w l hl c hc => by rw [Nat.zero_add]; exact hp.can w l hl c hc)
          have h5 : ¬ p.flatten.length < h.customers.length := by
            have := all_len h.customers.length p.flatten (fun c h0 h1 => (hp.mem c).2 ⟨h0, h1⟩)
            omega
          rw [if_neg (by simp [h3]), if_neg (by simp [h4]), if_neg h5]
      · rw [if_neg h2]
        constructor
        · intro he; cases he
        · rintro ⟨_, hp⟩
          refine absurd (List.all_eq_true.2 fun c hc => ?_) h2
          have := (hp.mem c).1 hc
          exact inB_iff.2 (by omega)
    · rw [if_neg h1]
      constructor
      · intro he; cases he
      · rintro ⟨_, hp⟩; exact absurd hp.len h1
  · rw [if_neg h0]
    exact ⟨fun he => absurd he h0, fun hh => absurd hh.1 h0⟩
end Go.Proofs.Ytchnpekgmkhacaa
namespace Go.Proofs.Ytchnpekgmkhacaa

/-- How far a plan is: the writer, the customers with a place (as bits), the minutes of the writers. -/
structure DeSt where
  writer : Nat
  done : Nat
  ms : List Int
def goD (h : DeH) (x : DeSt) (c : Nat) : Int := x.ms[x.writer]?.getD 0 + (customerAt h c).hi + h.wax
def nextW (x : DeSt) : DeSt := { x with writer := x.writer + 1 }
def nextC (h : DeH) (x : DeSt) (c : Nat) : DeSt := { x with done := x.done ||| 2 ^ c, ms := x.ms.set x.writer (goD h x c) }
def putB (h : DeH) (wm cm : Nat) (x : DeSt) (c : Nat) : Bool := cm.testBit c && !x.done.testBit c && (wm.testBit x.writer && canD h x.writer c) && decide (goD h x c ≤ (customerAt h c).ship)
def nextD (h : DeH) (wm cm : Nat) (x : DeSt) : List (Int × DeSt) :=
  if x.writer = h.writers.length then [] else (-1, nextW x) :: ((List.range h.customers.length).filter (putB h wm cm x)).map fun (c : Nat) => ((c : Int), nextC h x c)
def beginD (h : DeH) : DeSt := ⟨0, 0, (List.range 3).map fun w => if w < h.writers.length then (writerAt h w).hi else 0⟩
/-- When a plan is over that is at its end. -/
def fvD (h : DeH) (x : DeSt) : Int := (List.range 3).foldl (fun b w => if (beginD h).ms[w]?.getD 0 < x.ms[w]?.getD 0 then max b (x.ms[w]?.getD 0) else b) 0
def finB (h : DeH) (cm : Nat) (x : DeSt) : Bool := decide (x.writer = h.writers.length) && decide (x.done = cm)
def betterD (b n : Int) : Int := if 0 ≤ n ∧ (b < 0 ∨ n < b) then n else b
def baseD (h : DeH) (cm : Nat) (x : DeSt) : Int := if finB h cm x then fvD h x else -1
/-- 'over'. -/
def overF (h : DeH) (wm cm : Nat) : Nat → DeSt → Int
  | 0, x => baseD h cm x
  | f + 1, x => (nextD h wm cm x).foldl (fun b y => betterD b (overF h wm cm f y.2)) (baseD h cm x)
/-- How many moves there are left, at most. -/
def leftD (h : DeH) (x : DeSt) : Nat := (h.writers.length - x.writer) + (List.range h.customers.length).countP fun c => !x.done.testBit c
/-- A way on from a stand. -/
inductive RunD (h : DeH) (wm cm : Nat) : DeSt → List Int → DeSt → Prop
  | stop (x : DeSt) : RunD h wm cm x [] x
  | move {x z : DeSt} {y : Int × DeSt} {s : List Int} (hy : y ∈ nextD h wm cm x) (hs : RunD h wm cm y.2 s z) : RunD h wm cm x (y.1 :: s) z

theorem fv_nonneg (h : DeH) (x : DeSt) : 0 ≤ fvD h x := by
  unfold fvD
  suffices ∀ (L : List Nat) (b : Int), 0 ≤ b → 0 ≤ L.foldl (fun b w => if (beginD h).ms[w]?.getD 0 < x.ms[w]?.getD 0 then max b (x.ms[w]?.getD 0) else b) b from this _ 0 (Int.le_refl _)
  intro L
  induction L with
  | nil => exact fun b hb => hb
  | cons w L ih =>
    intro b hb
    rw [List.foldl_cons]
    refine ih _ ?_
    split <;> omega
theorem better_fold {α : Type} (g : α → Int) : ∀ (L : List α) (b : Int), -1 ≤ b →
    (L.foldl (fun b y => betterD b (g y)) b = b ∨ ∃ y ∈ L, L.foldl (fun b y => betterD b (g y)) b = g y) ∧ -1 ≤ L.foldl (fun b y => betterD b (g y)) b ∧
    (0 ≤ b → 0 ≤ L.foldl (fun b y => betterD b (g y)) b ∧ L.foldl (fun b y => betterD b (g y)) b ≤ b) ∧ (∀ y ∈ L, 0 ≤ g y → 0 ≤ L.foldl (fun b y => betterD b (g y)) b ∧ L.foldl (fun b y => betterD b (g y)) b ≤ g y)
  | [], b, hb => ⟨.inl rfl, hb, fun h => ⟨h, Int.le_refl _⟩, fun y hy => by cases hy⟩
  | x :: L, b, hb => by
    rw [List.foldl_cons]
    have hb2 : -1 ≤ betterD b (g x) := by unfold betterD; split <;> omega
    obtain ⟨h1, h2, h3, h4⟩ := better_fold g L (betterD b (g x)) hb2
    refine ⟨?_, h2, fun h0 => ?_, fun y hy h0 => ?_⟩
    · rcases h1 with e | ⟨y, hy, e⟩
      · rw [e]
        unfold betterD
        split
        · exact .inr ⟨x, by simp, rfl⟩
        · exact .inl rfl
      · exact .inr ⟨y, List.mem_cons_of_mem _ hy, e⟩
    · have : 0 ≤ betterD b (g x) ∧ betterD b (g x) ≤ b := by unfold betterD; split <;> omega
      have := h3 this.1
      omega
    · rcases List.mem_cons.1 hy with rfl | hy2
      · have : 0 ≤ betterD b (g y) ∧ betterD b (g y) ≤ g y := by unfold betterD; split <;> omega
        have := h3 this.1
        omega
      · exact h4 y hy2 h0

theorem next_left {h : DeH} {wm cm : Nat} {x : DeSt} {y : Int × DeSt} (hx : x.writer ≤ h.writers.length) (hy : y ∈ nextD h wm cm x) : leftD h y.2 < leftD h x ∧ y.2.writer ≤ h.writers.length := by
  unfold nextD at hy
  by_cases e : x.writer = h.writers.length
  · rw [if_pos e] at hy; cases hy
  rw [if_neg e] at hy
  rcases List.mem_cons.1 hy with rfl | hy2
  · unfold leftD nextW
    simp only
    omega
  · obtain ⟨c, hc, rfl⟩ := List.mem_map.1 hy2
    obtain ⟨hc1, hc2⟩ := List.mem_filter.1 hc
    have hd : x.done.testBit c = false := by
      unfold putB at hc2
      simp only [Bool.and_eq_true, Bool.not_eq_true'] at hc2
      exact hc2.1.1.2
    refine ⟨?_, by show x.writer ≤ _; exact hx⟩
    unfold leftD nextC
    simp only
    have : (List.range h.customers.length).countP (fun d => !(x.done ||| 2 ^ c).testBit d) < (List.range h.customers.length).countP fun d => !x.done.testBit d := by
      have key : ∀ (L : List Nat), (L.countP (fun d => !(x.done ||| 2 ^ c).testBit d) ≤ L.countP fun d => !x.done.testBit d) ∧ (c ∈ L → L.countP (fun d => !(x.done ||| 2 ^ c).testBit d) < L.countP fun d => !x.done.testBit d) := by
        intro L
        induction L with
        | nil => simp
        | cons d L ih =>
          simp only [List.countP_cons, Nat.testBit_or, Nat.testBit_two_pow]
          simp only [Nat.testBit_or, Nat.testBit_two_pow] at ih
          obtain ⟨i1, i2⟩ := ih
          by_cases ed : c = d
          · subst ed
            have e1 : (if (!(x.done.testBit c || decide (c = c))) = true then 1 else 0) = 0 := by simp
            have e2 : (if (!x.done.testBit c) = true then 1 else 0) = 1 := by simp [hd]
            rw [e1, e2]
            exact ⟨by omega, fun _ => by omega⟩
          · have e : (if (!(x.done.testBit d || decide (c = d))) = true then 1 else 0) = (if (!x.done.testBit d) = true then 1 else 0) := by
              rw [show decide (c = d) = false by simpa using ed, Bool.or_false]
            rw [e]
            refine ⟨by omega, fun hm => ?_⟩
            rcases List.mem_cons.1 hm with e2 | e2
            · exact absurd e2 ed
            · have := i2 e2
              omega
      exact (key _).2 hc1
    omega

/-- What 'over' is: the least end of all ways on; below 0: there is none. -/
theorem over_spec {h : DeH} {wm cm : Nat} : ∀ (f : Nat) (x : DeSt), x.writer ≤ h.writers.length → leftD h x ≤ f →
    (overF h wm cm f x = -1 ∧ ∀ s z, RunD h wm cm x s z → finB h cm z = false) ∨
    (0 ≤ overF h wm cm f x ∧ (∃ s z, RunD h wm cm x s z ∧ finB h cm z = true ∧ fvD h z = overF h wm cm f x) ∧ ∀ s z, RunD h wm cm x s z → finB h cm z = true → overF h wm cm f x ≤ fvD h z)
  | 0, x, hx, hl => by
    have hw : x.writer = h.writers.length := by unfold leftD at hl; omega
    have hn : nextD h wm cm x = [] := by unfold nextD; rw [if_pos hw]
    have hr : ∀ s z, RunD h wm cm x s z → z = x := fun s z hr => by
      cases hr with
      | stop => rfl
      | move hy _ => rw [hn] at hy; cases hy
    have e : overF h wm cm 0 x = baseD h cm x := rfl
    rw [e]
    unfold baseD
    cases hf : finB h cm x with
    | false => exact .inl ⟨by simp, fun s z hz => by rw [hr s z hz]; exact hf⟩
    | true =>
      refine .inr ⟨by simpa using fv_nonneg h x, ⟨[], x, .stop x, hf, by simp⟩, fun s z hz _ => ?_⟩
      rw [hr s z hz]; simp
  | f + 1, x, hx, hl => by
    have ih := fun (y : Int × DeSt) (hy : y ∈ nextD h wm cm x) => over_spec (wm := wm) (cm := cm) f y.2 (next_left hx hy).2 (by have := (next_left hx hy).1; omega)
    have hb : -1 ≤ baseD h cm x := by unfold baseD; have := fv_nonneg h x; split <;> omega
    have e : overF h wm cm (f + 1) x = (nextD h wm cm x).foldl (fun b y => betterD b (overF h wm cm f y.2)) (baseD h cm x) := rfl
    obtain ⟨h1, h2, h3, h4⟩ := better_fold (fun y : Int × DeSt => overF h wm cm f y.2) (nextD h wm cm x) (baseD h cm x) hb
    rw [← e] at h1 h2 h3 h4
    have low : ∀ s z, RunD h wm cm x s z → finB h cm z = true → 0 ≤ overF h wm cm (f + 1) x ∧ overF h wm cm (f + 1) x ≤ fvD h z := fun s z hr hf => by
      cases hr with
      | stop =>
        have hbe : baseD h cm x = fvD h x := by unfold baseD; rw [hf]; rfl
        have := h3 (by rw [hbe]; exact fv_nonneg h x)
        rw [hbe] at this
        exact this
      | move hy hs =>
        rcases ih _ hy with ⟨_, hno⟩ | ⟨h0, _, hall⟩
        · have := hno _ _ hs; rw [hf] at this; cases this
        · have a1 := h4 _ hy h0
          have a2 := hall _ _ hs hf
          omega
    by_cases h0 : 0 ≤ overF h wm cm (f + 1) x
    · refine .inr ⟨h0, ?_, fun s z hr hf => (low s z hr hf).2⟩
      rcases h1 with eb | ⟨y, hy, ey⟩
      · have hf : finB h cm x = true := by
          cases hf : finB h cm x with
          | true => rfl
          | false =>
            have hbe : baseD h cm x = -1 := by unfold baseD; rw [hf]; rfl
            rw [eb, hbe] at h0
            omega
        exact ⟨[], x, .stop x, hf, by rw [eb]; unfold baseD; rw [hf]; rfl⟩
      · rcases ih y hy with ⟨em, _⟩ | ⟨_, ⟨s, z, hr, hf, hv⟩, _⟩
        · rw [ey] at h0; omega
        · exact ⟨y.1 :: s, z, .move hy hr, hf, by rw [ey]; exact hv⟩
    · refine .inl ⟨by omega, fun s z hr => ?_⟩
      cases hf : finB h cm z with
      | false => rfl
      | true => exact absurd (low s z hr hf).1 h0
/-- 'over' at any fuel that is enough. -/
theorem over_fuel {h : DeH} {wm cm : Nat} {f g : Nat} {x : DeSt} (hx : x.writer ≤ h.writers.length) (hf : leftD h x ≤ f) (hg : leftD h x ≤ g) : overF h wm cm f x = overF h wm cm g x := by
  rcases over_spec (wm := wm) (cm := cm) f x hx hf with ⟨e1, n1⟩ | ⟨p1, ⟨s1, z1, r1, f1, v1⟩, l1⟩ <;> rcases over_spec (wm := wm) (cm := cm) g x hx hg with ⟨e2, n2⟩ | ⟨p2, ⟨s2, z2, r2, f2, v2⟩, l2⟩
  · rw [e1, e2]
  · have := n1 _ _ r2; rw [f2] at this; cases this
  · have := n2 _ _ r1; rw [f1] at this; cases this
  · have a := l1 _ _ r2 f2
    have b := l2 _ _ r1 f1
    omega
end Go.Proofs.Ytchnpekgmkhacaa
namespace Go.Proofs.Ytchnpekgmkhacaa

theorem next_sorted (h : DeH) (wm cm : Nat) (x : DeSt) : (nextD h wm cm x).Pairwise fun a b => a.1 < b.1 := by
  unfold nextD
  split
  · exact List.Pairwise.nil
  · rw [List.pairwise_cons]
    constructor
    · intro y hy
      obtain ⟨c, _, rfl⟩ := List.mem_map.1 hy
      show (-1 : Int) < (c : Int)
      omega
    · rw [List.pairwise_map]
      refine List.Pairwise.filter _ ?_
      exact (List.pairwise_lt_range (n := h.customers.length)).imp (fun hab => by show ((_ : Nat) : Int) < ((_ : Nat) : Int); omega)
/-- 'find': the moves of the first way that ends at a minute. -/
def findF (h : DeH) (wm cm : Nat) (over : Int) : Nat → DeSt → List Int
  | 0, _ => []
  | f + 1, x => match (nextD h wm cm x).find? (fun y => overF h wm cm f y.2 == over) with
    | some y => y.1 :: findF h wm cm over f y.2
    | none => []
theorem find_spec {h : DeH} {wm cm : Nat} {over : Int} (h0 : 0 ≤ over) : ∀ (f : Nat) (x : DeSt), x.writer ≤ h.writers.length → leftD h x ≤ f → overF h wm cm f x = over →
    ∃ z, RunD h wm cm x (findF h wm cm over f x) z ∧ finB h cm z = true ∧ fvD h z = over ∧ ∀ s' z', RunD h wm cm x s' z' → finB h cm z' = true → fvD h z' = over → s' = findF h wm cm over f x ∨ less (findF h wm cm over f x) s' = true
  | 0, x, hx, hl, ho => by
    have hw : x.writer = h.writers.length := by unfold leftD at hl; omega
    have hn : nextD h wm cm x = [] := by unfold nextD; rw [if_pos hw]
    rcases over_spec (wm := wm) (cm := cm) 0 x hx hl with ⟨e, _⟩ | ⟨_, ⟨s, z, hr, hf, hv⟩, _⟩
    · omega
    · cases hr with
      | stop =>
        refine ⟨x, .stop x, hf, hv.trans ho, fun s' z' hr' _ _ => .inl ?_⟩
        cases hr' with
        | stop => rfl
        | move hy _ => rw [hn] at hy; cases hy
      | move hy _ => rw [hn] at hy; cases hy
  | f + 1, x, hx, hl, ho => by
    have hlt := fun (y : Int × DeSt) (hy : y ∈ nextD h wm cm x) => next_left hx hy
    rcases over_spec (wm := wm) (cm := cm) (f + 1) x hx hl with ⟨e, _⟩ | ⟨_, ⟨s, z, hr, hf, hv⟩, hall⟩
    · omega
    rw [ho] at hv hall
    have least : ∀ y ∈ nextD h wm cm x, ∀ t z', RunD h wm cm y.2 t z' → finB h cm z' = true → fvD h z' = over → overF h wm cm f y.2 = over := fun y hy t z' hr' hf' hv' => by
      rcases over_spec (wm := wm) (cm := cm) f y.2 (hlt y hy).2 (by have := (hlt y hy).1; omega) with ⟨_, hno⟩ | ⟨_, ⟨s2, z2, r2, f2, v2⟩, l2⟩
      · have := hno _ _ hr'; rw [hf'] at this; cases this
      · have a := l2 _ _ hr' hf'
        have b := hall _ _ (.move hy r2) f2
        omega
    cases hn : (nextD h wm cm x).find? (fun y => overF h wm cm f y.2 == over) with
    | none =>
      have hnone := List.find?_eq_none.1 hn
      have e : findF h wm cm over (f + 1) x = [] := by unfold findF; rw [hn]
      rw [e]
      cases hr with
      | stop =>
        refine ⟨x, .stop x, hf, hv, fun s' z' hr' hf' hv' => .inl ?_⟩
        cases hr' with
        | stop => rfl
        | move hy hs => exact absurd (by simpa using least _ hy _ _ hs hf' hv') (hnone _ hy)
      | move hy hs => exact absurd (by simpa using least _ hy _ _ hs hf hv) (hnone _ hy)
    | some y =>
      obtain ⟨hpy, la, bs, hab, has⟩ := List.find?_eq_some_iff_append.1 hn
      have hy : y ∈ nextD h wm cm x := by rw [hab]; simp
      have hoy : overF h wm cm f y.2 = over := by simpa using hpy
      have e : findF h wm cm over (f + 1) x = y.1 :: findF h wm cm over f y.2 := by
        show (match (nextD h wm cm x).find? (fun y => overF h wm cm f y.2 == over) with | some y => y.1 :: findF h wm cm over f y.2 | none => []) = _
        rw [hn]
      obtain ⟨z1, r1, f1, v1, l1⟩ := find_spec h0 f y.2 (hlt y hy).2 (by have := (hlt y hy).1; omega) hoy
      rw [e]
      refine ⟨z1, .move hy r1, f1, v1, fun s' z' hr' hf' hv' => ?_⟩
      cases hr' with
      | stop =>
        have hxw : x.writer = h.writers.length := by
          unfold finB at hf'
          simp only [Bool.and_eq_true, decide_eq_true_eq] at hf'
          exact hf'.1
        unfold nextD at hy
        rw [if_pos hxw] at hy
        cases hy
      | @move _ _ y' t hy' hs' =>
        have hoy' := least _ hy' _ _ hs' hf' hv'
        have hmem := hy'
        rw [hab] at hmem
        have hsort := next_sorted h wm cm x
        rw [hab] at hsort
        rcases List.mem_append.1 hmem with ha | hb
        · have := has _ ha
          simp [hoy'] at this
        · rcases List.mem_cons.1 hb with rfl | hb2
          · rcases l1 _ _ hs' hf' hv' with e2 | e2
            · exact .inl (by rw [e2])
            · exact .inr (by show (if y'.1 = y'.1 then less _ _ else _) = true; rw [if_pos rfl]; exact e2)
          · have hlt2 := (List.pairwise_cons.1 (List.pairwise_append.1 hsort).2.1).1 _ hb2
            refine .inr ?_
            show (if y.1 = y'.1 then less _ _ else decide (y.1 < y'.1)) = true
            rw [if_neg (by omega)]
            exact decide_eq_true hlt2
end Go.Proofs.Ytchnpekgmkhacaa
namespace Go.Proofs.Ytchnpekgmkhacaa

/-- The moves of a plan. -/
def seqOf (p : List (List Int)) : List Int := p.flatMap fun l => l ++ [-1]
theorem seqOf_cons (l : List Int) (p : List (List Int)) : seqOf (l :: p) = l ++ (-1 :: seqOf p) := by simp [seqOf]
def rowEnd (h : DeH) : DeSt → List Int → DeSt
  | x, [] => x
  | x, c :: l => rowEnd h (nextC h x c.toNat) l
def rowOk (h : DeH) (wm cm : Nat) : DeSt → List Int → Prop
  | _, [] => True
  | x, c :: l => (0 ≤ c ∧ c < (h.customers.length : Int) ∧ putB h wm cm x c.toNat = true) ∧ rowOk h wm cm (nextC h x c.toNat) l
def planEnd (h : DeH) : DeSt → List (List Int) → DeSt
  | x, [] => x
  | x, l :: p => planEnd h (nextW (rowEnd h x l)) p
def planGood (h : DeH) (wm cm : Nat) : DeSt → List (List Int) → Prop
  | _, [] => True
  | x, l :: p => rowOk h wm cm x l ∧ planGood h wm cm (nextW (rowEnd h x l)) p
theorem rowEnd_writer (h : DeH) : ∀ (l : List Int) (x : DeSt), (rowEnd h x l).writer = x.writer
  | [], _ => rfl
  | c :: l, x => rowEnd_writer h l (nextC h x c.toNat)
theorem mem_next {h : DeH} {wm cm : Nat} {x : DeSt} {y : Int × DeSt} (hx : x.writer ≠ h.writers.length) :
    y ∈ nextD h wm cm x ↔ y = (-1, nextW x) ∨ ∃ c : Nat, c < h.customers.length ∧ putB h wm cm x c = true ∧ y = ((c : Int), nextC h x c) := by
  unfold nextD
  rw [if_neg hx, List.mem_cons, List.mem_map]
  constructor
  · rintro (e | ⟨c, hc, e⟩)
    · exact .inl e
    · obtain ⟨h1, h2⟩ := List.mem_filter.1 hc
      exact .inr ⟨c, by simpa using h1, h2, e.symm⟩
  · rintro (e | ⟨c, h1, h2, e⟩)
    · exact .inl e
    · exact .inr ⟨c, List.mem_filter.2 ⟨by simpa using h1, h2⟩, e.symm⟩
theorem run_row {h : DeH} {wm cm : Nat} {z : DeSt} {s : List Int} : ∀ (l : List Int) (x : DeSt), rowOk h wm cm x l → x.writer ≠ h.writers.length → RunD h wm cm (rowEnd h x l) s z → RunD h wm cm x (l ++ s) z
  | [], _, _, _, hr => hr
  | c :: l, x, ho, hx, hr => by
    obtain ⟨⟨h0, h1, h2⟩, h3⟩ := ho
    have ih := run_row l (nextC h x c.toNat) h3 hx hr
    have hy : ((c.toNat : Int), nextC h x c.toNat) ∈ nextD h wm cm x := (mem_next hx).2 (.inr ⟨c.toNat, by omega, h2, rfl⟩)
    have := RunD.move hy ih
    rw [show ((c.toNat : Int)) = c by omega] at this
    exact this
theorem run_good {h : DeH} {wm cm : Nat} : ∀ (p : List (List Int)) (x : DeSt), planGood h wm cm x p → x.writer + p.length = h.writers.length → RunD h wm cm x (seqOf p) (planEnd h x p)
  | [], x, _, _ => .stop x
  | l :: p, x, hg, hl => by
    obtain ⟨h1, h2⟩ := hg
    have hx : x.writer ≠ h.writers.length := by simp at hl; omega
    have hw := rowEnd_writer h l x
    have ih := run_good p (nextW (rowEnd h x l)) h2 (by show (rowEnd h x l).writer + 1 + _ = _; rw [hw]; simp at hl; omega)
    rw [seqOf_cons]
    refine run_row l x h1 hx ?_
    exact RunD.move (y := (-1, nextW (rowEnd h x l))) ((mem_next (by rw [hw]; exact hx)).2 (.inl rfl)) ih
theorem run_plan {h : DeH} {wm cm : Nat} {x z : DeSt} {s : List Int} (hr : RunD h wm cm x s z) : finB h cm z = true → x.writer ≤ h.writers.length → ∃ p, x.writer + p.length = h.writers.length ∧ s = seqOf p ∧ planGood h wm cm x p ∧ z = planEnd h x p := by
  induction hr with
  | stop x =>
    intro hf _
    unfold finB at hf
    simp only [Bool.and_eq_true, decide_eq_true_eq] at hf
    exact ⟨[], by simpa using hf.1, rfl, trivial, rfl⟩
  | @move x z y s hy hs ih =>
    intro hf hx
    have hne : x.writer ≠ h.writers.length := fun e => by unfold nextD at hy; rw [if_pos e] at hy; cases hy
    rcases (mem_next hne).1 hy with rfl | ⟨c, hc, hp, rfl⟩
    · obtain ⟨p, h1, h2, h3, h4⟩ := ih hf (by show x.writer + 1 ≤ _; omega)
      refine ⟨[] :: p, ?_, ?_, ⟨trivial, h3⟩, h4⟩
      · have h1' : x.writer + 1 + p.length = h.writers.length := h1
        simp; omega
      · rw [seqOf_cons, h2]; rfl
    · obtain ⟨p, h1, h2, h3, h4⟩ := ih hf hx
      have h1' : x.writer + p.length = h.writers.length := h1
      cases p with
      | nil => simp at h1'; omega
      | cons l p =>
        refine ⟨((c : Int) :: l) :: p, by simpa using h1', ?_, ⟨⟨⟨by omega, by omega, by simpa using hp⟩, by simpa using h3.1⟩, by simpa [rowEnd] using h3.2⟩, by simpa [planEnd, rowEnd] using h4⟩
        rw [seqOf_cons] at h2 ⊢
        rw [h2]; rfl

/-- A shorter list first, then by numbers: as the moves. -/
theorem less_seq : ∀ (l m : List Int) (a b : List Int), (∀ c ∈ l, 0 ≤ c) → (∀ c ∈ m, 0 ≤ c) → less (l ++ (-1 :: a)) (m ++ (-1 :: b)) = if l = m then less a b else less l m
  | [], [], a, b, _, _ => by
    show (if (-1 : Int) = -1 then less a b else _) = _
    rw [if_pos rfl, if_pos rfl]
  | [], y :: m, a, b, _, hm => by
    have := hm y (by simp)
    show (if (-1 : Int) = y then _ else decide ((-1 : Int) < y)) = _
    rw [if_neg (by omega), if_neg (by simp), decide_eq_true (by omega)]
    rfl
  | x :: l, [], a, b, hl, _ => by
    have := hl x (by simp)
    show (if x = -1 then _ else decide (x < -1)) = _
    rw [if_neg (by omega), if_neg (by simp), decide_eq_false (by omega)]
    rfl
  | x :: l, y :: m, a, b, hl, hm => by
    have ih := less_seq l m a b (fun c hc => hl c (List.mem_cons_of_mem _ hc)) (fun c hc => hm c (List.mem_cons_of_mem _ hc))
    show (if x = y then less (l ++ _) (m ++ _) else decide (x < y)) = _
    by_cases e : x = y
    · subst e
      rw [if_pos rfl, ih]
      by_cases e2 : l = m
      · rw [if_pos e2, if_pos (by rw [e2])]
      · rw [if_neg e2, if_neg (by simpa using e2)]
        show _ = (if x = x then less l m else _)
        rw [if_pos rfl]
    · rw [if_neg e, if_neg (fun e2 => e (List.cons.inj e2).1)]
      show _ = (if x = y then _ else decide (x < y))
      rw [if_neg e]
theorem before_seq : ∀ (p q : List (List Int)), p.length = q.length → (∀ c ∈ p.flatten, 0 ≤ c) → (∀ c ∈ q.flatten, 0 ≤ c) → beforeD p q = less (seqOf p) (seqOf q)
  | [], [], _, _, _ => rfl
  | [], _ :: _, h, _, _ => by simp at h
  | _ :: _, [], h, _, _ => by simp at h
  | l :: p, m :: q, h, hp, hq => by
    have ih := before_seq p q (by simpa using h) (fun c hc => hp c (by rw [List.flatten_cons]; exact List.mem_append.2 (.inr hc))) (fun c hc => hq c (by rw [List.flatten_cons]; exact List.mem_append.2 (.inr hc)))
    rw [seqOf_cons, seqOf_cons, less_seq l m _ _ (fun c hc => hp c (by rw [List.flatten_cons]; exact List.mem_append.2 (.inl hc))) (fun c hc => hq c (by rw [List.flatten_cons]; exact List.mem_append.2 (.inl hc))), ← ih]
    rfl
theorem seq_inj : ∀ (p q : List (List Int)), p.length = q.length → (∀ c ∈ p.flatten, 0 ≤ c) → (∀ c ∈ q.flatten, 0 ≤ c) → seqOf p = seqOf q → p = q
  | [], [], _, _, _, _ => rfl
  | [], _ :: _, h, _, _, _ => by simp at h
  | _ :: _, [], h, _, _, _ => by simp at h
  | l :: p, m :: q, h, hp, hq, e => by
    have hp1 : ∀ c ∈ l, 0 ≤ c := fun c hc => hp c (by rw [List.flatten_cons]; exact List.mem_append.2 (.inl hc))
    have hq1 : ∀ c ∈ m, 0 ≤ c := fun c hc => hq c (by rw [List.flatten_cons]; exact List.mem_append.2 (.inl hc))
    rw [seqOf_cons, seqOf_cons] at e
    have key : ∀ (l m : List Int), (∀ c ∈ l, 0 ≤ c) → (∀ c ∈ m, 0 ≤ c) → l ++ (-1 :: seqOf p) = m ++ (-1 :: seqOf q) → l = m ∧ seqOf p = seqOf q := by
      intro l
      induction l with
      | nil =>
        intro m _ hm e
        cases m with
        | nil => exact ⟨rfl, (List.cons.inj e).2⟩
        | cons y m => have := (List.cons.inj e).1; have := hm y (by simp); omega
      | cons x l ih =>
        intro m hl hm e
        cases m with
        | nil => have := (List.cons.inj e).1; have := hl x (by simp); omega
        | cons y m =>
          obtain ⟨e1, e2⟩ := List.cons.inj e
          obtain ⟨e3, e4⟩ := ih m (fun c hc => hl c (List.mem_cons_of_mem _ hc)) (fun c hc => hm c (List.mem_cons_of_mem _ hc)) e2
          exact ⟨by rw [e1, e3], e4⟩
    obtain ⟨e1, e2⟩ := key l m hp1 hq1 e
    have := seq_inj p q (by simpa using h) (fun c hc => hp c (by rw [List.flatten_cons]; exact List.mem_append.2 (.inr hc))) (fun c hc => hq c (by rw [List.flatten_cons]; exact List.mem_append.2 (.inr hc))) e2
    rw [e1, this]
end Go.Proofs.Ytchnpekgmkhacaa
namespace Go.Proofs.Ytchnpekgmkhacaa

/-- When a writer is done with a list. -/
def timeD (h : DeH) : Int → List Int → Int
  | t, [] => t
  | t, c :: l => timeD h (t + (customerAt h c.toNat).hi + h.wax) l
/-- All of a list are in time. -/
def inTime (h : DeH) : Int → List Int → Prop
  | _, [] => True
  | t, c :: l => t + (customerAt h c.toNat).hi + h.wax ≤ (customerAt h c.toNat).ship ∧ inTime h (t + (customerAt h c.toNat).hi + h.wax) l
def bitsOr (d : Nat) (l : List Int) : Nat := l.foldl (fun d c => d ||| 2 ^ c.toNat) d
theorem bitsOr_bit : ∀ (l : List Int) (d i : Nat), (bitsOr d l).testBit i = (d.testBit i || l.any fun c => decide (c.toNat = i))
  | [], d, i => by simp [bitsOr]
  | c :: l, d, i => by
    show (bitsOr (d ||| 2 ^ c.toNat) l).testBit i = _
    rw [bitsOr_bit l, Nat.testBit_or, Nat.testBit_two_pow, List.any_cons, Bool.or_assoc]
theorem bitsOr_append (d : Nat) (l m : List Int) : bitsOr d (l ++ m) = bitsOr (bitsOr d l) m := by simp [bitsOr]
def minuteAt (x : DeSt) (w : Nat) : Int := x.ms[w]?.getD 0
theorem rowEnd_done (h : DeH) : ∀ (l : List Int) (x : DeSt), (rowEnd h x l).done = bitsOr x.done l
  | [], _ => rfl
  | c :: l, x => rowEnd_done h l (nextC h x c.toNat)
theorem rowEnd_len (h : DeH) : ∀ (l : List Int) (x : DeSt), (rowEnd h x l).ms.length = x.ms.length
  | [], _ => rfl
  | c :: l, x => (rowEnd_len h l (nextC h x c.toNat)).trans (by simp [nextC])
theorem nextC_minute (h : DeH) (x : DeSt) (c w : Nat) (hx : x.writer < x.ms.length) : minuteAt (nextC h x c) w = if w = x.writer then goD h x c else minuteAt x w := by
  unfold minuteAt nextC
  simp only
  rw [List.getElem?_set]
  by_cases e : x.writer = w
  · subst e
    rw [if_pos rfl, if_pos hx, if_pos rfl]; rfl
  · rw [if_neg e, if_neg (fun h => e h.symm)]
theorem rowEnd_minute (h : DeH) : ∀ (l : List Int) (x : DeSt) (w : Nat), x.writer < x.ms.length → minuteAt (rowEnd h x l) w = if w = x.writer then timeD h (minuteAt x x.writer) l else minuteAt x w
  | [], x, w, _ => by
    show minuteAt x w = _
    split
    · rename_i e; rw [e]; rfl
    · rfl
  | c :: l, x, w, hx => by
    have hl : (nextC h x c.toNat).writer < (nextC h x c.toNat).ms.length := by simpa [nextC] using hx
    show minuteAt (rowEnd h (nextC h x c.toNat) l) w = _
    rw [rowEnd_minute h l _ w hl]
    have hw : (nextC h x c.toNat).writer = x.writer := rfl
    rw [hw, nextC_minute h x _ _ hx, nextC_minute h x _ _ hx, if_pos rfl]
    by_cases e : w = x.writer
    · rw [if_pos e, if_pos e]; rfl
    · rw [if_neg e, if_neg e, if_neg e]
theorem rowOk_iff {h : DeH} {wm cm : Nat} : ∀ {l : List Int} {x : DeSt}, x.writer < x.ms.length →
    (rowOk h wm cm x l ↔ (∀ c ∈ l, 0 ≤ c ∧ c < (h.customers.length : Int) ∧ cm.testBit c.toNat = true ∧ x.done.testBit c.toNat = false ∧ wm.testBit x.writer = true ∧ canD h x.writer c.toNat = true) ∧ l.Nodup ∧ inTime h (minuteAt x x.writer) l)
  | [], x, _ => by simp [rowOk, inTime]
  | c :: l, x, hx => by
    have hl : (nextC h x c.toNat).writer < (nextC h x c.toNat).ms.length := by simpa [nextC] using hx
    have ih := rowOk_iff (h := h) (wm := wm) (cm := cm) (l := l) hl
    have hw : (nextC h x c.toNat).writer = x.writer := rfl
    have hd : (nextC h x c.toNat).done = x.done ||| 2 ^ c.toNat := rfl
    have hm : minuteAt (nextC h x c.toNat) x.writer = minuteAt x x.writer + (customerAt h c.toNat).hi + h.wax := by rw [nextC_minute h x _ _ hx, if_pos rfl]; rfl
    have hp : putB h wm cm x c.toNat = true ↔ cm.testBit c.toNat = true ∧ x.done.testBit c.toNat = false ∧ wm.testBit x.writer = true ∧ canD h x.writer c.toNat = true ∧ minuteAt x x.writer + (customerAt h c.toNat).hi + h.wax ≤ (customerAt h c.toNat).ship := by
      unfold putB goD minuteAt
      simp only [Bool.and_eq_true, Bool.not_eq_true', decide_eq_true_eq]
      constructor
      · rintro ⟨⟨⟨a, b⟩, d, e⟩, f⟩; exact ⟨a, b, d, e, f⟩
      · rintro ⟨a, b, d, e, f⟩; exact ⟨⟨⟨a, b⟩, d, e⟩, f⟩
    show ((0 ≤ c ∧ c < (h.customers.length : Int) ∧ putB h wm cm x c.toNat = true) ∧ rowOk h wm cm (nextC h x c.toNat) l) ↔ _
    rw [ih, hp, hw, hm, hd, List.nodup_cons]
    constructor
    · rintro ⟨⟨h0, h1, a, b, d, e, f⟩, g1, g2, g3⟩
      have hne : ∀ y ∈ l, y.toNat ≠ c.toNat := fun y hy e2 => by
        have := (g1 y hy).2.2.2.1
        rw [e2, Nat.testBit_or, Nat.testBit_two_pow] at this
        simp at this
      refine ⟨fun y hy => ?_, ⟨fun hc => hne c hc rfl, g2⟩, f, g3⟩
      rcases List.mem_cons.1 hy with rfl | hy2
      · exact ⟨h0, h1, a, b, d, e⟩
      · have k := g1 y hy2
        have kb := k.2.2.2.1
        rw [Nat.testBit_or, Bool.or_eq_false_iff] at kb
        exact ⟨k.1, k.2.1, k.2.2.1, kb.1, k.2.2.2.2⟩
    · rintro ⟨g1, ⟨g2, g3⟩, f, g4⟩
      have k := g1 c (by simp)
      refine ⟨⟨k.1, k.2.1, k.2.2.1, k.2.2.2.1, k.2.2.2.2.1, k.2.2.2.2.2, f⟩, fun y hy => ?_, g3, g4⟩
      have ky := g1 y (List.mem_cons_of_mem _ hy)
      have hne : y ≠ c := fun e => g2 (e ▸ hy)
      refine ⟨ky.1, ky.2.1, ky.2.2.1, ?_, ky.2.2.2.2⟩
      rw [Nat.testBit_or, Nat.testBit_two_pow, ky.2.2.2.1]
      simp
      omega
theorem planGood_iff {h : DeH} {wm cm : Nat} : ∀ {p : List (List Int)} {x : DeSt}, x.writer + p.length ≤ x.ms.length →
    (planGood h wm cm x p ↔ (∀ c ∈ p.flatten, 0 ≤ c ∧ c < (h.customers.length : Int) ∧ cm.testBit c.toNat = true ∧ x.done.testBit c.toNat = false) ∧ p.flatten.Nodup ∧
      ∀ v l, p[v]? = some l → (∀ c ∈ l, wm.testBit (x.writer + v) = true ∧ canD h (x.writer + v) c.toNat = true) ∧ inTime h (minuteAt x (x.writer + v)) l)
  | [], x, _ => by simp [planGood]
  | l :: p, x, hx => by
    have hx0 : x.writer < x.ms.length := by simp at hx; omega
    have hw := rowEnd_writer h l x
    have ih := planGood_iff (h := h) (wm := wm) (cm := cm) (p := p) (x := nextW (rowEnd h x l)) (by show (rowEnd h x l).writer + 1 + p.length ≤ (rowEnd h x l).ms.length; rw [hw, rowEnd_len]; simp at hx; omega)
    have hwn : (nextW (rowEnd h x l)).writer = x.writer + 1 := by show (rowEnd h x l).writer + 1 = _; rw [hw]
    have hdn : (nextW (rowEnd h x l)).done = bitsOr x.done l := rowEnd_done h l x
    have hmn : ∀ v, minuteAt (nextW (rowEnd h x l)) (x.writer + 1 + v) = minuteAt x (x.writer + 1 + v) := fun v => by
      show minuteAt (rowEnd h x l) _ = _
      rw [rowEnd_minute h l x _ hx0, if_neg (by omega)]
    show (rowOk h wm cm x l ∧ planGood h wm cm (nextW (rowEnd h x l)) p) ↔ _
    rw [rowOk_iff hx0, ih, hwn, hdn, List.flatten_cons, List.nodup_append]
    constructor
    · rintro ⟨⟨a1, a2, a3⟩, b1, b2, b3⟩
      refine ⟨fun c hc => ?_, ⟨a2, b2, fun c hc d hd e => ?_⟩, fun v m hm => ?_⟩
      · rcases List.mem_append.1 hc with h1 | h1
        · have := a1 c h1; exact ⟨this.1, this.2.1, this.2.2.1, this.2.2.2.1⟩
        · have := b1 c h1
          rw [bitsOr_bit, Bool.or_eq_false_iff] at this
          exact ⟨this.1, this.2.1, this.2.2.1, this.2.2.2.1⟩
      · subst e
        have := (b1 c hd).2.2.2
        rw [bitsOr_bit, Bool.or_eq_false_iff, List.any_eq_false] at this
        exact this.2 c hc (by simp)
      · cases v with
        | zero =>
          simp at hm
          subst hm
          exact ⟨fun c hc => (a1 c hc).2.2.2.2, a3⟩
        | succ v =>
          have := b3 v m (by simpa using hm)
          rw [hmn] at this
          rwa [show x.writer + 1 + v = x.writer + (v + 1) by omega] at this
    · rintro ⟨a, ⟨b1, b2, b3⟩, c1⟩
      refine ⟨⟨fun c hc => ?_, b1, ?_⟩, fun c hc => ?_, b2, fun v m hm => ?_⟩
      · have k := a c (List.mem_append.2 (.inl hc))
        have k2 := (c1 0 l (by simp)).1 c hc
        exact ⟨k.1, k.2.1, k.2.2.1, k.2.2.2, k2⟩
      · exact (c1 0 l (by simp)).2
      · have k := a c (List.mem_append.2 (.inr hc))
        refine ⟨k.1, k.2.1, k.2.2.1, ?_⟩
        rw [bitsOr_bit, k.2.2.2, Bool.false_or, List.any_eq_false]
        intro d hd
        have kd := a d (List.mem_append.2 (.inl hd))
        have := b3 d hd c hc
        simp
        omega
      · have := c1 (v + 1) m (by simpa using hm)
        rw [hmn]
        rwa [show x.writer + (v + 1) = x.writer + 1 + v by omega] at this
theorem planEnd_is (h : DeH) : ∀ (p : List (List Int)) (x : DeSt), x.writer + p.length ≤ x.ms.length →
    (planEnd h x p).writer = x.writer + p.length ∧ (planEnd h x p).done = bitsOr x.done p.flatten ∧
    ∀ w, minuteAt (planEnd h x p) w = if x.writer ≤ w ∧ w < x.writer + p.length then timeD h (minuteAt x w) (p[w - x.writer]?.getD []) else minuteAt x w
  | [], x, _ => ⟨rfl, rfl, fun w => by rw [if_neg (fun hh => by have h2 : w < x.writer + 0 := hh.2; omega)]; rfl⟩
  | l :: p, x, hx => by
    have hx0 : x.writer < x.ms.length := by simp at hx; omega
    have hw := rowEnd_writer h l x
    have hwn : (nextW (rowEnd h x l)).writer = x.writer + 1 := by show (rowEnd h x l).writer + 1 = _; rw [hw]
    obtain ⟨i1, i2, i3⟩ := planEnd_is h p (nextW (rowEnd h x l)) (by show (rowEnd h x l).writer + 1 + p.length ≤ (rowEnd h x l).ms.length; rw [hw, rowEnd_len]; simp at hx; omega)
    have hdn : (nextW (rowEnd h x l)).done = bitsOr x.done l := rowEnd_done h l x
    refine ⟨?_, ?_, fun w => ?_⟩
    · show (planEnd h (nextW (rowEnd h x l)) p).writer = _
      rw [i1, hwn]; simp; omega
    · show (planEnd h (nextW (rowEnd h x l)) p).done = _
      rw [i2, hdn, List.flatten_cons, bitsOr_append]
    · show minuteAt (planEnd h (nextW (rowEnd h x l)) p) w = _
      rw [i3 w, hwn]
      have hm : minuteAt (nextW (rowEnd h x l)) w = if w = x.writer then timeD h (minuteAt x x.writer) l else minuteAt x w := rowEnd_minute h l x w hx0
      rw [hm]
      by_cases e : w = x.writer
      · subst e
        rw [if_neg (by omega), if_pos rfl, if_pos (by simp)]
        simp
      · rw [if_neg e]
        by_cases h1 : x.writer + 1 ≤ w ∧ w < x.writer + 1 + p.length
        · rw [if_pos h1, if_pos (by simp; omega), show w - x.writer = (w - (x.writer + 1)) + 1 by omega]
          simp
        · rw [if_neg h1, if_neg (by simp; omega)]
end Go.Proofs.Ytchnpekgmkhacaa
namespace Go.Proofs.Ytchnpekgmkhacaa

structure DeValid (h : DeH) : Prop where
  nw : h.writers.length ≤ 3
  nc : h.customers.length ≤ 5
  wax : 0 ≤ h.wax ∧ h.wax ≤ 5
  w : ∀ i (hi : i < h.writers.length), 0 ≤ h.writers[i].kinds ∧ h.writers[i].kinds ≤ 15 ∧ 0 ≤ h.writers[i].lo ∧ h.writers[i].lo ≤ h.writers[i].hi ∧ h.writers[i].hi ≤ 240
  c : ∀ i (hi : i < h.customers.length), 0 ≤ h.customers[i].kind ∧ h.customers[i].kind ≤ 3 ∧ 1 ≤ h.customers[i].lo ∧ h.customers[i].lo ≤ h.customers[i].hi ∧ h.customers[i].hi ≤ 30 ∧ 0 ≤ h.customers[i].ship ∧ h.customers[i].ship ≤ 240
theorem endsE_zero {lo hi a b : Int} (h : endsE lo hi a b = 0) : a ≤ lo ∧ lo ≤ hi ∧ hi ≤ b := by
  unfold endsE at h
  by_cases h1 : (inB lo a b && inB hi a b) = true
  · rw [if_pos h1] at h
    rw [Bool.and_eq_true, inB_iff, inB_iff] at h1
    by_cases h2 : hi < lo
    · rw [if_pos h2] at h; omega
    · omega
  · rw [if_neg h1] at h; omega
theorem deValid_of {h : DeH} (he : deErr h = 0) : DeValid h := by
  unfold deErr deCheck at he
  by_cases h0 : inB h.wax 0 5 = true
  · rw [if_pos h0] at he
    obtain ⟨w1, w2, he⟩ := checkPart_zero he
    obtain ⟨c1, c2, _⟩ := checkPart_zero he
    refine ⟨w1, c1, inB_iff.1 h0, fun i hi => ?_, fun i hi => ?_⟩
    · have := w2 i hi
      unfold deWErr at this
      rw [List.getElem?_eq_getElem hi] at this
      simp only at this
      have hz : deWErrOf h.writers[i] = 0 := by
        by_cases hf : fresh h.writers[i].name ((h.writers.take i).map (·.name)) = 0
        · rw [if_pos hf] at this; exact this
        · rw [if_neg hf] at this; exact absurd this hf
      unfold deWErrOf at hz
      by_cases hk : inB h.writers[i].kinds 0 15 = true
      · rw [if_pos hk] at hz
        have h1 := inB_iff.1 hk
        have h2 := endsE_zero hz
        omega
      · rw [if_neg hk] at hz; omega
    · have := c2 i hi
      unfold deCErr at this
      rw [List.getElem?_eq_getElem hi] at this
      simp only at this
      have hz : deCErrOf h.customers[i] = 0 := by
        by_cases hf : fresh h.customers[i].name ((h.customers.take i).map (·.name)) = 0
        · rw [if_pos hf] at this; exact this
        · rw [if_neg hf] at this; exact absurd this hf
      unfold deCErrOf at hz
      by_cases hk : (inB h.customers[i].kind 0 3 && inB h.customers[i].ship 0 240) = true
      · rw [if_pos hk] at hz
        rw [Bool.and_eq_true, inB_iff, inB_iff] at hk
        have h2 := endsE_zero hz
        omega
      · rw [if_neg hk] at hz; omega
  · rw [if_neg h0] at he; simp at he
theorem DeValid.cust {h : DeH} (hv : DeValid h) {c : Nat} (hc : c < h.customers.length) : 1 ≤ (customerAt h c).lo ∧ (customerAt h c).lo ≤ (customerAt h c).hi := by
  have e : customerAt h c = h.customers[c] := by simp [customerAt, hc]
  rw [e]
  have := hv.c c hc
  omega
theorem DeValid.writer {h : DeH} (hv : DeValid h) {w : Nat} (hw : w < h.writers.length) : 0 ≤ (writerAt h w).lo ∧ (writerAt h w).lo ≤ (writerAt h w).hi := by
  have e : writerAt h w = h.writers[w] := by simp [writerAt, hw]
  rw [e]
  have := hv.w w hw
  omega

/-- The span of the letter behind a list. -/
def spanD (h : DeH) : Int × Int → List Int → Int × Int
  | s, [] => s
  | s, c :: l => spanD h (s.1 + (customerAt h c.toNat).lo + h.wax, s.2 + (customerAt h c.toNat).hi + h.wax) l
theorem spanD_hi (h : DeH) : ∀ (l : List Int) (s : Int × Int), (spanD h s l).2 = timeD h s.2 l
  | [], _ => rfl
  | c :: l, s => spanD_hi h l _
theorem spanD_append (h : DeH) : ∀ (a b : List Int) (s : Int × Int), spanD h s (a ++ b) = spanD h (spanD h s a) b
  | [], _, _ => rfl
  | c :: a, b, s => spanD_append h a b _
theorem sealRow_len (h : DeH) : ∀ (l : List Int) (s : Int × Int) (out : List (Int × Int)), (sealRow h l s out).length = out.length
  | [], _, _ => rfl
  | c :: l, s, out => (sealRow_len h l _ _).trans (by simp)
theorem sealRow_other (h : DeH) : ∀ (l : List Int) (s : Int × Int) (out : List (Int × Int)) (c : Nat), (∀ d ∈ l, d.toNat ≠ c) → (sealRow h l s out)[c]? = out[c]?
  | [], _, _, _, _ => rfl
  | d :: l, s, out, c, hc => by
    refine (sealRow_other h l _ _ c (fun e he => hc e (List.mem_cons_of_mem _ he))).trans ?_
    rw [List.getElem?_set, if_neg (hc d (by simp))]
theorem sealRow_at (h : DeH) : ∀ (a b : List Int) (c : Int) (s : Int × Int) (out : List (Int × Int)), c.toNat < out.length → (∀ d ∈ b, d.toNat ≠ c.toNat) → (sealRow h (a ++ c :: b) s out)[c.toNat]? = some (spanD h s (a ++ [c]))
  | [], b, c, s, out, hc, hb => by
    show (sealRow h b _ (out.set c.toNat _))[c.toNat]? = _
    rw [sealRow_other h b _ _ _ hb, List.getElem?_set, if_pos rfl, if_pos hc]
    rfl
  | d :: a, b, c, s, out, hc, hb => sealRow_at h a b c _ _ (by simpa using hc) hb
theorem sealRows_len (h : DeH) : ∀ (p : List (List Int)) (w : Nat) (out : List (Int × Int)), (sealRows h w p out).length = out.length
  | [], _, _ => rfl
  | l :: p, w, out => (sealRows_len h p _ _).trans (sealRow_len h l _ _)
theorem sealRows_other (h : DeH) : ∀ (p : List (List Int)) (w : Nat) (out : List (Int × Int)) (c : Nat), (∀ d ∈ p.flatten, d.toNat ≠ c) → (sealRows h w p out)[c]? = out[c]?
  | [], _, _, _, _ => rfl
  | l :: p, w, out, c, hc => by
    rw [List.flatten_cons] at hc
    exact (sealRows_other h p _ _ c (fun d hd => hc d (List.mem_append.2 (.inr hd)))).trans (sealRow_other h l _ _ c (fun d hd => hc d (List.mem_append.2 (.inl hd))))
theorem sealRows_at (h : DeH) : ∀ (p : List (List Int)) (w v : Nat) (a b : List Int) (c : Int) (out : List (Int × Int)), c.toNat < out.length → (∀ d ∈ p.flatten, 0 ≤ d) → p.flatten.Nodup → p[v]? = some (a ++ c :: b) →
    (sealRows h w p out)[c.toNat]? = some (spanD h ((writerAt h (w + v)).lo, (writerAt h (w + v)).hi) (a ++ [c]))
  | [], _, _, _, _, _, _, _, _, _, hm => by simp at hm
  | l :: p, w, v, a, b, c, out, hc, hp, hn, hm => by
    rw [List.flatten_cons] at hp hn
    rw [List.nodup_append] at hn
    obtain ⟨n1, n2, n3⟩ := hn
    cases v with
    | zero =>
      simp at hm
      subst hm
      show (sealRows h (w + 1) p (sealRow h (a ++ c :: b) _ out))[c.toNat]? = _
      rw [sealRows_other h p _ _ _ (fun d hd e => by
        have hc0 := hp c (by simp)
        have hd0 := hp d (List.mem_append.2 (.inr hd))
        exact n3 c (by simp) d hd (by omega))]
      rw [sealRow_at h a b c _ out hc (fun d hd e => by
        have hc0 := hp c (by simp)
        have hd0 := hp d (by simp [hd])
        rw [List.nodup_append] at n1
        have hn2 := (List.nodup_cons.1 n1.2.1).1
        exact hn2 (by have : d = c := by omega
                      rw [← this]; exact hd))]
      rfl
    | succ v =>
      show (sealRows h (w + 1) p (sealRow h l _ out))[c.toNat]? = _
      rw [sealRows_at h p (w + 1) v a b c _ (by rw [sealRow_len]; exact hc) (fun d hd => hp d (List.mem_append.2 (.inr hd))) n2 (by simpa using hm)]
      rw [show w + 1 + v = w + (v + 1) by omega]
/-- When a letter is sealed: behind all that its writer has before it. -/
theorem sealed_at {h : DeH} {p : List (List Int)} (hp : PlanOk h h.customers.length p) {w : Nat} {a b : List Int} {c : Int} (hw : p[w]? = some (a ++ c :: b)) : (deSealed h p)[c.toNat]? = some (spanD h ((writerAt h w).lo, (writerAt h w).hi) (a ++ [c])) := by
  have hb : ∀ d ∈ p.flatten, 0 ≤ d := fun d hd => ((hp.mem d).1 hd).1
  have hmem : c ∈ p.flatten := List.mem_flatten.2 ⟨a ++ c :: b, List.mem_of_getElem? hw, by simp⟩
  have := (hp.mem c).1 hmem
  have h2 := sealRows_at h p 0 w a b c (List.replicate h.customers.length (0, 0)) (by simp; omega) hb hp.nodup hw
  rwa [Nat.zero_add] at h2
theorem sealed_len (h : DeH) (p : List (List Int)) : (deSealed h p).length = h.customers.length := by unfold deSealed; rw [sealRows_len]; simp
/-- Each letter stands in some list. -/
theorem plan_has {h : DeH} {p : List (List Int)} (hp : PlanOk h h.customers.length p) {c : Nat} (hc : c < h.customers.length) : ∃ w a b, w < h.writers.length ∧ p[w]? = some (a ++ (c : Int) :: b) := by
  obtain ⟨l, hl, hcl⟩ := List.mem_flatten.1 ((hp.mem (c : Int)).2 (by omega))
  obtain ⟨w, hw, rfl⟩ := List.getElem_of_mem hl
  obtain ⟨a, b, hab⟩ := List.append_of_mem hcl
  exact ⟨w, a, b, by rw [← hp.len]; exact hw, by rw [List.getElem?_eq_getElem hw, hab]⟩

theorem does_iff (h : DeH) : ∀ (l : List (Int × Int)) (c : Nat) (out : Int), doesFrom h c l out = 1 ↔ out = 1 ∧ ∀ i s, l[i]? = some s → s.1 ≤ (customerAt h (c + i)).ship ∧ s.2 ≤ (customerAt h (c + i)).ship
  | [], c, out => by simp [doesFrom]
  | s :: l, c, out => by
    show (if (customerAt h c).ship < s.1 then (2 : Int) else doesFrom h (c + 1) l (if (customerAt h c).ship < s.2 then 0 else out)) = 1 ↔ _
    by_cases h1 : (customerAt h c).ship < s.1
    · rw [if_pos h1]
      constructor
      · intro e; cases e
      · rintro ⟨_, h2⟩
        have := h2 0 s (by simp)
        rw [Nat.add_zero] at this
        omega
    · rw [if_neg h1, does_iff h l]
      constructor
      · rintro ⟨h2, h3⟩
        by_cases h4 : (customerAt h c).ship < s.2
        · rw [if_pos h4] at h2; cases h2
        · rw [if_neg h4] at h2
          refine ⟨h2, fun i t ht => ?_⟩
          cases i with
          | zero => simp at ht; subst ht; rw [Nat.add_zero]; omega
          | succ i =>
            have := h3 i t (by simpa using ht)
            rwa [show c + 1 + i = c + (i + 1) by omega] at this
      · rintro ⟨h2, h3⟩
        have h4 := h3 0 s (by simp)
        rw [Nat.add_zero] at h4
        rw [if_neg (by omega)]
        refine ⟨h2, fun i t ht => ?_⟩
        have := h3 (i + 1) t (by simpa using ht)
        rwa [show c + (i + 1) = c + 1 + i by omega] at this
theorem inTime_iff {h : DeH} : ∀ {l : List Int} {t : Int}, inTime h t l ↔ ∀ a c b, l = a ++ c :: b → timeD h t (a ++ [c]) ≤ (customerAt h c.toNat).ship
  | [], t => by simp [inTime]
  | d :: l, t => by
    show (_ ∧ inTime h _ l) ↔ _
    rw [inTime_iff]
    constructor
    · rintro ⟨h1, h2⟩ a c b e
      cases a with
      | nil =>
        obtain ⟨e1, e2⟩ := List.cons.inj e
        subst e1
        exact h1
      | cons x a =>
        obtain ⟨e1, e2⟩ := List.cons.inj e
        subst e1
        exact h2 a c b e2
    · intro h1
      refine ⟨h1 [] d l rfl, fun a c b e => h1 (d :: a) c b (by rw [e]; rfl)⟩
theorem span_le {h : DeH} (hv : DeValid h) : ∀ (l : List Int) (s : Int × Int), (∀ c ∈ l, 0 ≤ c ∧ c < (h.customers.length : Int)) → s.1 ≤ s.2 → (spanD h s l).1 ≤ (spanD h s l).2
  | [], _, _, hs => hs
  | c :: l, s, hl, hs => by
    have hc := hl c (by simp)
    have := hv.cust (c := c.toNat) (by omega)
    exact span_le hv l _ (fun d hd => hl d (List.mem_cons_of_mem _ hd)) (by simp only; omega)
/-- A plan surely does just if each list is in time. -/
theorem must_iff {h : DeH} (hv : DeValid h) {p : List (List Int)} (hp : PlanOk h h.customers.length p) : deDoes h p = 1 ↔ ∀ w l, p[w]? = some l → inTime h (writerAt h w).hi l := by
  unfold deDoes
  rw [does_iff]
  simp only [Nat.zero_add]
  have hb : ∀ w l, p[w]? = some l → ∀ d ∈ l, 0 ≤ d ∧ d < (h.customers.length : Int) := fun w l hl d hd => (hp.mem d).1 (List.mem_flatten.2 ⟨l, List.mem_of_getElem? hl, hd⟩)
  constructor
  · rintro ⟨_, h1⟩ w l hl
    rw [inTime_iff]
    intro a c b e
    subst e
    have := h1 c.toNat _ (sealed_at hp hl)
    rw [spanD_hi] at this
    exact this.2
  · intro h1
    refine ⟨trivial, fun c s hs => ?_⟩
    have hc : c < h.customers.length := by
      rw [← sealed_len h p]
      exact (List.getElem?_eq_some_iff.1 hs).1
    obtain ⟨w, a, b, hw, hwp⟩ := plan_has hp hc
    have e := sealed_at hp hwp
    rw [Int.toNat_natCast, hs] at e
    obtain rfl := Option.some.inj e
    have h2 := inTime_iff.1 (h1 w _ hwp) a (c : Int) b rfl
    have hle := span_le hv (a ++ [(c : Int)]) ((writerAt h w).lo, (writerAt h w).hi) (fun d hd => hb w _ hwp d (by
      rcases List.mem_append.1 hd with h3 | h3
      · exact List.mem_append.2 (.inl h3)
      · rw [List.mem_singleton] at h3; rw [h3]; simp)) (hv.writer hw).2
    rw [Int.toNat_natCast] at h2
    rw [spanD_hi] at hle ⊢
    simp only at hle ⊢
    omega
end Go.Proofs.Ytchnpekgmkhacaa
namespace Go.Proofs.Ytchnpekgmkhacaa

theorem maxf_spec {α : Type} (P : α → Prop) [DecidablePred P] (g : α → Int) : ∀ (L : List α) (b : Int),
    b ≤ L.foldl (fun b x => if P x then max b (g x) else b) b ∧ (∀ x ∈ L, P x → g x ≤ L.foldl (fun b x => if P x then max b (g x) else b) b) ∧
    (L.foldl (fun b x => if P x then max b (g x) else b) b = b ∨ ∃ x ∈ L, P x ∧ L.foldl (fun b x => if P x then max b (g x) else b) b = g x)
  | [], b => ⟨Int.le_refl _, (fun x hx => by cases hx), .inl rfl⟩
  | x :: L, b => by
    obtain ⟨h1, h2, h3⟩ := maxf_spec P g L (if P x then max b (g x) else b)
    rw [List.foldl_cons]
    have hb : b ≤ (if P x then max b (g x) else b) := by split <;> omega
    refine ⟨by omega, fun y hy hP => ?_, ?_⟩
    · rcases List.mem_cons.1 hy with rfl | hy2
      · rw [if_pos hP] at h1 ⊢; exact Int.le_trans (Int.le_max_right _ _) h1
      · exact h2 y hy2 hP
    · rcases h3 with e | ⟨y, hy, hP, e⟩
      · by_cases hP : P x
        · rw [if_pos hP] at e ⊢
          by_cases hm : g x ≤ b
          · exact .inl (by rw [e]; omega)
          · exact .inr ⟨x, by simp, hP, by rw [e]; omega⟩
        · rw [if_neg hP] at e ⊢; exact .inl e
      · exact .inr ⟨y, List.mem_cons_of_mem _ hy, hP, e⟩
theorem maxs_eq (L : List (Int × Int)) (b : Int) : L.foldl (fun n s => max n s.2) b = L.foldl (fun n s => if True then max n s.2 else n) b := by simp
theorem over_is (h : DeH) (p : List (List Int)) : 0 ≤ deOver h p ∧ (∀ s ∈ deSealed h p, s.2 ≤ deOver h p) ∧ (deOver h p = 0 ∨ ∃ s ∈ deSealed h p, deOver h p = s.2) := by
  unfold deOver
  rw [maxs_eq]
  obtain ⟨h1, h2, h3⟩ := maxf_spec (fun _ : Int × Int => True) (fun s => s.2) (deSealed h p) 0
  exact ⟨h1, fun s hs => h2 s hs trivial, h3.imp_right fun ⟨s, hs, _, e⟩ => ⟨s, hs, e⟩⟩
theorem begin_minute {h : DeH} (hn : h.writers.length ≤ 3) (w : Nat) : minuteAt (beginD h) w = if w < h.writers.length then (writerAt h w).hi else 0 := by
  unfold minuteAt beginD
  simp only [List.getElem?_map]
  by_cases e : w < 3
  · rw [List.getElem?_range e]; rfl
  · rw [List.getElem?_eq_none (by simpa using e), if_neg (by omega)]; rfl
theorem begin_len (h : DeH) : (beginD h).ms.length = 3 := by simp [beginD]
theorem fv_is (h : DeH) (x : DeSt) : 0 ≤ fvD h x ∧ (∀ w, w < 3 → minuteAt (beginD h) w < minuteAt x w → minuteAt x w ≤ fvD h x) ∧ (fvD h x = 0 ∨ ∃ w, w < 3 ∧ minuteAt (beginD h) w < minuteAt x w ∧ fvD h x = minuteAt x w) := by
  obtain ⟨h1, h2, h3⟩ := maxf_spec (fun w : Nat => minuteAt (beginD h) w < minuteAt x w) (fun w => minuteAt x w) (List.range 3) 0
  exact ⟨h1, fun w hw hl => h2 w (List.mem_range.2 hw) hl, h3.imp_right fun ⟨w, hw, a, b⟩ => ⟨w, List.mem_range.1 hw, a, b⟩⟩
theorem time_ge {h : DeH} (hv : DeValid h) : ∀ (l : List Int) (t : Int), (∀ c ∈ l, 0 ≤ c ∧ c < (h.customers.length : Int)) → t ≤ timeD h t l ∧ (l ≠ [] → t < timeD h t l)
  | [], t, _ => ⟨Int.le_refl _, fun e => absurd rfl e⟩
  | c :: l, t, hc => by
    have h1 := hc c (by simp)
    have h2 := hv.cust (c := c.toNat) (by omega)
    have h3 := hv.wax
    have ih := (time_ge hv l (t + (customerAt h c.toNat).hi + h.wax) (fun d hd => hc d (List.mem_cons_of_mem _ hd))).1
    show t ≤ timeD h _ l ∧ (_ → t < timeD h _ l)
    exact ⟨by omega, fun _ => by omega⟩
theorem time_append (h : DeH) : ∀ (a b : List Int) (t : Int), timeD h t (a ++ b) = timeD h (timeD h t a) b
  | [], _, _ => rfl
  | c :: a, b, t => time_append h a b _
/-- The end of a plan, by its stand, is 'Over'. -/
theorem fv_over {h : DeH} (hv : DeValid h) {p : List (List Int)} (hp : PlanOk h h.customers.length p) : fvD h (planEnd h (beginD h) p) = deOver h p := by
  have hb : ∀ w l, p[w]? = some l → ∀ d ∈ l, 0 ≤ d ∧ d < (h.customers.length : Int) := fun w l hl d hd => (hp.mem d).1 (List.mem_flatten.2 ⟨l, List.mem_of_getElem? hl, hd⟩)
  have hnw := hv.nw
  have hpl := hp.len
  obtain ⟨_, _, hm⟩ := planEnd_is h p (beginD h) (by show 0 + p.length ≤ _; rw [begin_len]; omega)
  have hw0 : (beginD h).writer = 0 := rfl
  simp only [hw0, Nat.zero_add, Nat.zero_le, true_and, Nat.sub_zero] at hm
  obtain ⟨f1, f2, f3⟩ := fv_is h (planEnd h (beginD h) p)
  obtain ⟨o1, o2, o3⟩ := over_is h p
  apply Int.le_antisymm
  · rcases f3 with e | ⟨w, hw, hlt, e⟩
    · omega
    · rw [e]
      rw [hm w] at hlt ⊢
      by_cases hwp : w < p.length
      · rw [if_pos hwp] at hlt ⊢
        have hget : p[w]? = some p[w] := List.getElem?_eq_getElem hwp
        rw [hget] at hlt ⊢
        simp only [Option.getD_some] at hlt ⊢
        obtain ⟨l0, hl0⟩ : ∃ l0, l0 = p[w] := ⟨_, rfl⟩
        rw [← hl0] at hlt hget ⊢
        rw [begin_minute hnw, if_pos (by omega)] at hlt ⊢
        rcases nil_snoc l0 with rfl | ⟨a, c, rfl⟩
        · have : timeD h (writerAt h w).hi [] = (writerAt h w).hi := rfl
          omega
        · have hs := sealed_at hp hget
          have := o2 _ (List.mem_of_getElem? hs)
          rw [spanD_hi] at this
          exact this
      · rw [if_neg hwp] at hlt; omega
  · rcases o3 with e | ⟨s, hs, e⟩
    · omega
    · rw [e]
      obtain ⟨c, hc, hcs⟩ := List.getElem_of_mem hs
      have hcl : c < h.customers.length := by rw [← sealed_len h p]; exact hc
      obtain ⟨w, a, b, hw, hwp⟩ := plan_has hp hcl
      have e2 := sealed_at hp hwp
      rw [Int.toNat_natCast, List.getElem?_eq_getElem hc, hcs] at e2
      obtain rfl := Option.some.inj e2
      rw [spanD_hi]
      simp only
      have hwl : w < p.length := by omega
      have hall := hb w _ hwp
      have hmw := hm w
      rw [if_pos hwl, hwp, begin_minute hnw, if_pos hw] at hmw
      simp only [Option.getD_some] at hmw
      have hge := (time_ge hv (a ++ (c : Int) :: b) (writerAt h w).hi hall).2 (by simp)
      have h2 := f2 w (by omega) (by rw [hmw, begin_minute hnw, if_pos hw]; exact hge)
      rw [hmw] at h2
      have h3 := (time_ge hv b (timeD h (writerAt h w).hi (a ++ [(c : Int)])) (fun d hd => hall d (by simp [hd]))).1
      rw [← time_append, List.append_assoc] at h3
      exact Int.le_trans h3 h2

/-- A plan of some writers for some customers. -/
structure PlanSub (h : DeH) (wm cm : Nat) (p : List (List Int)) : Prop where
  len : p.length = h.writers.length
  nodup : p.flatten.Nodup
  mem : ∀ c : Int, c ∈ p.flatten ↔ 0 ≤ c ∧ c < (h.customers.length : Int) ∧ cm.testBit c.toNat = true
  can : ∀ w l, p[w]? = some l → ∀ c ∈ l, wm.testBit w = true ∧ canD h w c.toNat = true
def allIn (h : DeH) (p : List (List Int)) : Prop := ∀ w l, p[w]? = some l → inTime h (writerAt h w).hi l
theorem good_iff {h : DeH} (hn : h.writers.length ≤ 3) {wm cm : Nat} (hcm : cm < 2 ^ h.customers.length) {p : List (List Int)} (hl : p.length = h.writers.length) :
    (planGood h wm cm (beginD h) p ∧ finB h cm (planEnd h (beginD h) p) = true) ↔ (PlanSub h wm cm p ∧ allIn h p) := by
  have hb : (beginD h).writer + p.length ≤ (beginD h).ms.length := by show 0 + p.length ≤ _; rw [begin_len]; omega
  obtain ⟨e1, e2, _⟩ := planEnd_is h p (beginD h) hb
  have hw0 : (beginD h).writer = 0 := rfl
  have hd0 : (beginD h).done = 0 := rfl
  rw [planGood_iff hb]
  unfold finB
  rw [e1, e2, hw0, hd0, hl]
  simp only [Nat.zero_add, Nat.zero_testBit, and_true, decide_true, Bool.true_and, decide_eq_true_eq]
  have key : (∀ c ∈ p.flatten, (0:Int) ≤ c) → (bitsOr 0 p.flatten = cm ↔ ∀ i : Nat, cm.testBit i = true ↔ (i : Int) ∈ p.flatten) := fun h0 => by
    have hbit : ∀ i, (bitsOr 0 p.flatten).testBit i = true ↔ (i : Int) ∈ p.flatten := fun i => by
      rw [bitsOr_bit, Nat.zero_testBit, Bool.false_or, List.any_eq_true]
      constructor
      · rintro ⟨c, hc, e⟩
        have := h0 c hc
        have e := of_decide_eq_true e
        rw [show (i : Int) = c by omega]; exact hc
      · intro hi; exact ⟨_, hi, by simp⟩
    constructor
    · rintro rfl i; exact hbit i
    · intro hh
      apply Nat.eq_of_testBit_eq
      intro i
      rw [Bool.eq_iff_iff, hbit, hh]
  constructor
  · rintro ⟨⟨a, b, d⟩, f⟩
    have k := (key (fun c hc => (a c hc).1)).1 f
    refine ⟨⟨hl, b, fun c => ⟨a c, fun ⟨c0, c1, c2⟩ => ?_⟩, fun w l hw c hc => (d w l hw).1 c hc⟩, fun w l hw => ?_⟩
    · have := (k c.toNat).1 c2
      rwa [show ((c.toNat : Nat) : Int) = c by omega] at this
    · have := (d w l hw).2
      have hwl : w < p.length := (List.getElem?_eq_some_iff.1 hw).1
      rw [begin_minute hn, if_pos (by omega)] at this
      exact this
  · rintro ⟨hs, ht⟩
    refine ⟨⟨fun c hc => (hs.mem c).1 hc, hs.nodup, fun w l hw => ⟨fun c hc => hs.can w l hw c hc, ?_⟩⟩, (key (fun c hc => ((hs.mem c).1 hc).1)).2 fun i => ?_⟩
    · have hwl : w < p.length := (List.getElem?_eq_some_iff.1 hw).1
      rw [begin_minute hn, if_pos (by omega)]
      exact ht w l hw
    · rw [hs.mem]
      constructor
      · intro hi
        refine ⟨by omega, ?_, by simpa using hi⟩
        have : i < h.customers.length := by
          rcases Nat.lt_or_ge i h.customers.length with e | e
          · exact e
          · have := Nat.testBit_lt_two_pow (Nat.lt_of_lt_of_le hcm (Nat.pow_le_pow_right (by omega) e))
            rw [this] at hi; cases hi
        omega
      · rintro ⟨_, _, hi⟩; simpa using hi
/-- All writers, all customers. -/
theorem full_bit (n i : Nat) : (2 ^ n - 1).testBit i = decide (i < n) := Nat.testBit_two_pow_sub_one n i
theorem sub_full {h : DeH} {p : List (List Int)} : PlanSub h (2 ^ h.writers.length - 1) (2 ^ h.customers.length - 1) p ↔ PlanOk h h.customers.length p := by
  constructor
  · intro hs
    refine ⟨hs.len, hs.nodup, fun c => ?_, fun w l hw c hc => (hs.can w l hw c hc).2⟩
    rw [hs.mem, full_bit, decide_eq_true_eq]
    omega
  · intro hp
    refine ⟨hp.len, hp.nodup, fun c => ?_, fun w l hw c hc => ⟨?_, hp.can w l hw c hc⟩⟩
    · rw [hp.mem, full_bit, decide_eq_true_eq]
      omega
    · have hwl : w < p.length := (List.getElem?_eq_some_iff.1 hw).1
      rw [full_bit, decide_eq_true_eq]
      have := hp.len
      omega
/-- 'over' from the beginning, with enough fuel. -/
def overB (h : DeH) (wm cm : Nat) : Int := overF h wm cm (leftD h (beginD h)) (beginD h)
theorem overB_spec {h : DeH} (hn : h.writers.length ≤ 3) {wm cm : Nat} (hcm : cm < 2 ^ h.customers.length) :
    (overB h wm cm = -1 ∧ ∀ p, PlanSub h wm cm p → ¬ allIn h p) ∨
    (0 ≤ overB h wm cm ∧ (∃ p, PlanSub h wm cm p ∧ allIn h p ∧ fvD h (planEnd h (beginD h) p) = overB h wm cm) ∧ ∀ p, PlanSub h wm cm p → allIn h p → overB h wm cm ≤ fvD h (planEnd h (beginD h) p)) := by
  have hw0 : (beginD h).writer = 0 := rfl
  have run : ∀ p, PlanSub h wm cm p → allIn h p → RunD h wm cm (beginD h) (seqOf p) (planEnd h (beginD h) p) ∧ finB h cm (planEnd h (beginD h) p) = true := fun p hs ht => by
    obtain ⟨g1, g2⟩ := (good_iff hn hcm hs.len).2 ⟨hs, ht⟩
    exact ⟨run_good p _ g1 (by rw [hw0, Nat.zero_add]; exact hs.len), g2⟩
  have plan : ∀ s z, RunD h wm cm (beginD h) s z → finB h cm z = true → ∃ p, PlanSub h wm cm p ∧ allIn h p ∧ z = planEnd h (beginD h) p := fun s z hr hf => by
    obtain ⟨p, h1, _, h3, rfl⟩ := run_plan hr hf (by rw [hw0]; omega)
    rw [hw0, Nat.zero_add] at h1
    obtain ⟨g1, g2⟩ := (good_iff hn hcm h1).1 ⟨h3, hf⟩
    exact ⟨p, g1, g2, rfl⟩
  rcases over_spec (wm := wm) (cm := cm) (leftD h (beginD h)) (beginD h) (by rw [hw0]; omega) (Nat.le_refl _) with ⟨e, hno⟩ | ⟨h0, ⟨s, z, hr, hf, hv⟩, hall⟩
  · refine .inl ⟨e, fun p hs ht => ?_⟩
    obtain ⟨r1, r2⟩ := run p hs ht
    have := hno _ _ r1
    rw [r2] at this; cases this
  · refine .inr ⟨h0, ?_, fun p hs ht => ?_⟩
    · obtain ⟨p, g1, g2, rfl⟩ := plan s z hr hf
      exact ⟨p, g1, g2, hv⟩
    · obtain ⟨r1, r2⟩ := run p hs ht
      exact hall _ _ r1 r2
end Go.Proofs.Ytchnpekgmkhacaa
namespace Go.Proofs.Ytchnpekgmkhacaa

theorem some_iff {h : DeH} (hv : DeValid h) : someD h = true ↔ ∃ p, PlanOk h h.customers.length p ∧ allIn h p := by
  unfold someD dePlans
  rw [List.any_eq_true]
  constructor
  · rintro ⟨p, hp, hd⟩
    have hp2 := mem_plans.1 hp
    exact ⟨p, hp2, (must_iff hv hp2).1 (of_decide_eq_true hd)⟩
  · rintro ⟨p, hp, ht⟩
    exact ⟨p, mem_plans.2 hp, decide_eq_true ((must_iff hv hp).2 ht)⟩
theorem someM_iff {h : DeH} (hn : h.writers.length ≤ 3) {wm cm : Nat} (hcm : cm < 2 ^ h.customers.length) : 0 ≤ overB h wm cm ↔ ∃ p, PlanSub h wm cm p ∧ allIn h p := by
  rcases overB_spec (wm := wm) hn hcm with ⟨e, hno⟩ | ⟨h0, ⟨p, hs, ht, _⟩, _⟩
  · rw [e]
    exact ⟨fun h => absurd h (by decide), fun ⟨p, hs, ht⟩ => absurd ht (hno p hs)⟩
  · exact ⟨fun _ => ⟨p, hs, ht⟩, fun _ => h0⟩
theorem pow_pred (n : Nat) : 2 ^ n - 1 < 2 ^ n := by have := Nat.two_pow_pos n; omega
theorem some_full {h : DeH} (hv : DeValid h) : someD h = decide (0 ≤ overB h (2 ^ h.writers.length - 1) (2 ^ h.customers.length - 1)) := by
  rw [Bool.eq_iff_iff, some_iff hv, decide_eq_true_eq, someM_iff hv.nw (pow_pred _)]
  simp only [sub_full]

theorem flat_filter (t : Nat → Bool) (P : Nat → List Int) : ∀ R : List Nat, (∀ w ∈ R, t w = false → P w = []) → R.flatMap P = (R.filter t).flatMap P
  | [], _ => rfl
  | w :: R, h => by
    have ih := flat_filter t P R fun v hv => h v (List.mem_cons_of_mem _ hv)
    rw [List.flatMap_cons, ih, List.filter_cons]
    cases e : t w with
    | true => simp
    | false => rw [h w (by simp) e]; simp
/-- The writers of a set. -/
def wsOf (s n : Nat) : List Nat := (List.range n).filter fun i => s.testBit i
theorem wsOf_nodup (s n : Nat) : (wsOf s n).Nodup := List.Pairwise.filter _ List.nodup_range
theorem wsOf_mem {s n i : Nat} : i ∈ wsOf s n ↔ i < n ∧ s.testBit i = true := by unfold wsOf; rw [List.mem_filter, List.mem_range]
theorem bits_ws (s n : Nat) : bitsList s n = (wsOf s n).map fun (i : Nat) => (i : Int) := rfl
theorem rows_range {p : List (List Int)} {n : Nat} (h : p.length = n) : p = (List.range n).map fun w => p[w]?.getD [] := by
  apply List.ext_getElem?
  intro w
  rw [List.getElem?_map]
  by_cases e : w < n
  · rw [List.getElem?_range e]
    simp [List.getElem?_eq_getElem (show w < p.length by omega)]
  · rw [List.getElem?_eq_none (by omega), List.getElem?_eq_none (by simp; omega)]; rfl
theorem only_flat {p : List (List Int)} {n s : Nat} (h : p.length = n) (he : ∀ w, w < n → s.testBit w = false → p[w]?.getD [] = []) : p.flatten = ((wsOf s n).map fun w => p[w]?.getD []).flatten := by
  have e := flat_filter (fun i => s.testBit i) (fun w => p[w]?.getD []) (List.range n) (fun w hw hb => he w (List.mem_range.1 hw) hb)
  rw [List.flatMap_def, List.flatMap_def, ← rows_range h] at e
  exact e
theorem only_writers (h : DeH) (s n : Nat) : (onlyD h (bitsList s n)).writers = (wsOf s n).map (writerAt h) := by
  unfold onlyD
  simp only [bits_ws, List.map_map]
  rfl
theorem only_at (h : DeH) (s n i : Nat) (hi : i < (wsOf s n).length) : writerAt (onlyD h (bitsList s n)) i = writerAt h (wsOf s n)[i] := by
  show ((onlyD h (bitsList s n)).writers[i]?).getD _ = _
  rw [only_writers, List.getElem?_map, List.getElem?_eq_getElem hi]; rfl
theorem inTime_same {h g : DeH} (hc : g.customers = h.customers) (hx : g.wax = h.wax) : ∀ (l : List Int) (t : Int), inTime g t l ↔ inTime h t l
  | [], _ => Iff.rfl
  | c :: l, t => by
    have e : ∀ c, customerAt g c = customerAt h c := fun c => by unfold customerAt; rw [hc]
    show (_ ∧ inTime g _ l) ↔ (_ ∧ inTime h _ l)
    rw [inTime_same hc hx l, e, hx]
theorem only_valid {h : DeH} (hv : DeValid h) (s : Nat) : DeValid (onlyD h (bitsList s h.writers.length)) := by
  have hlen : (wsOf s h.writers.length).length ≤ h.writers.length := by unfold wsOf; exact Nat.le_trans (List.length_filter_le _ _) (by simp)
  refine ⟨?_, hv.nc, hv.wax, fun i hi => ?_, hv.c⟩
  · rw [only_writers, List.length_map]; exact Nat.le_trans hlen hv.nw
  · have hi2 : i < (wsOf s h.writers.length).length := by rw [only_writers, List.length_map] at hi; exact hi
    have e : (onlyD h (bitsList s h.writers.length)).writers[i] = writerAt h (wsOf s h.writers.length)[i] := by
      have := only_at h s h.writers.length i hi2
      unfold writerAt at this
      rw [List.getElem?_eq_getElem hi] at this
      exact this
    have hm := wsOf_mem.1 (List.getElem_mem hi2)
    rw [e]
    have := hv.w _ hm.1
    rw [show writerAt h (wsOf s h.writers.length)[i] = h.writers[(wsOf s h.writers.length)[i]]'hm.1 from by unfold writerAt; rw [List.getElem?_eq_getElem hm.1]; rfl]
    exact this
/-- Some of the writers. -/
theorem some_only {h : DeH} (hv : DeValid h) (s : Nat) : someD (onlyD h (bitsList s h.writers.length)) = decide (0 ≤ overB h s (2 ^ h.customers.length - 1)) := by
  rw [Bool.eq_iff_iff, some_iff (only_valid hv s), decide_eq_true_eq, someM_iff hv.nw (pow_pred _)]
  have hwl : (onlyD h (bitsList s h.writers.length)).writers.length = (wsOf s h.writers.length).length := by rw [only_writers, List.length_map]
  have hcl : (onlyD h (bitsList s h.writers.length)).customers = h.customers := rfl
  have hnd := wsOf_nodup s h.writers.length
  generalize hL : wsOf s h.writers.length = L at hwl hnd
  have hin := fun (l : List Int) (t : Int) => inTime_same (h := h) (g := onlyD h (bitsList s h.writers.length)) rfl rfl l t
  have hat : ∀ i (hi : i < L.length), writerAt (onlyD h (bitsList s h.writers.length)) i = writerAt h L[i] := fun i hi => by
    have := only_at h s h.writers.length i (by rw [hL]; exact hi)
    simpa only [hL] using this
  have hLm : ∀ w, w ∈ L ↔ w < h.writers.length ∧ s.testBit w = true := fun w => by rw [← hL]; exact wsOf_mem
  -- what both sides say of a plan and its rows
  have key : ∀ p q : List (List Int), p.length = h.writers.length → (∀ w, w < h.writers.length → s.testBit w = false → p[w]?.getD [] = []) → q = L.map (fun w => p[w]?.getD []) →
      ((PlanOk (onlyD h (bitsList s h.writers.length)) h.customers.length q ∧ allIn (onlyD h (bitsList s h.writers.length)) q) ↔ (PlanSub h s (2 ^ h.customers.length - 1) p ∧ allIn h p)) := by
    intro p q hpl he hq
    have hf : p.flatten = q.flatten := by rw [hq, ← hL]; exact only_flat hpl he
    have hq1 : ∀ i (hi : i < L.length), q[i]? = some (p[L[i]]?.getD []) := fun i hi => by rw [hq, List.getElem?_map, List.getElem?_eq_getElem hi]; rfl
    have hrow : ∀ w l, p[w]? = some l → l ≠ [] → ∃ i, ∃ hi : i < L.length, L[i] = w ∧ q[i]? = some l := fun w l hl hne => by
      have hw : w < h.writers.length := by have := (List.getElem?_eq_some_iff.1 hl).1; omega
      have hb : s.testBit w = true := by
        cases hb : s.testBit w with
        | true => rfl
        | false =>
          have := he w hw hb
          rw [hl] at this
          exact absurd this hne
      obtain ⟨i, hi, e⟩ := List.getElem_of_mem ((hLm w).2 ⟨hw, hb⟩)
      exact ⟨i, hi, e, by rw [hq1 i hi, e, hl]; rfl⟩
    have hback : ∀ i l, q[i]? = some l → ∃ hi : i < L.length, p[L[i]]? = some l := fun i l hl => by
      have hi : i < L.length := by
        have := (List.getElem?_eq_some_iff.1 hl).1
        rw [hq, List.length_map] at this
        exact this
      refine ⟨hi, ?_⟩
      have hw := ((hLm L[i]).1 (List.getElem_mem hi)).1
      rw [hq1 i hi] at hl
      rw [List.getElem?_eq_getElem (by omega)] at hl ⊢
      exact hl
    constructor
    · rintro ⟨hp, ht⟩
      refine ⟨⟨hpl, by rw [hf]; exact hp.nodup, fun c => ?_, fun w l hl c hc => ?_⟩, fun w l hl => ?_⟩
      · rw [hf, hp.mem, full_bit, decide_eq_true_eq]; omega
      · obtain ⟨i, hi, e, hqi⟩ := hrow w l hl (List.ne_nil_of_mem hc)
        have h1 := hp.can i l hqi c hc
        unfold canD at h1 ⊢
        rw [hat i hi, e] at h1
        exact ⟨((hLm w).1 (e ▸ List.getElem_mem hi)).2, h1⟩
      · by_cases hne : l = []
        · subst hne; trivial
        · obtain ⟨i, hi, e, hqi⟩ := hrow w l hl hne
          have h1 := ht i l hqi
          rw [hin, hat i hi, e] at h1
          exact h1
    · rintro ⟨hs, ht⟩
      refine ⟨⟨by rw [hwl, hq, List.length_map], by rw [← hf]; exact hs.nodup, fun c => ?_, fun i l hl c hc => ?_⟩, fun i l hl => ?_⟩
      · rw [← hf, hs.mem, full_bit, decide_eq_true_eq]; omega
      · obtain ⟨hi, hpi⟩ := hback i l hl
        have h1 := (hs.can _ l hpi c hc).2
        unfold canD at h1 ⊢
        rw [hat i hi]
        exact h1
      · obtain ⟨hi, hpi⟩ := hback i l hl
        rw [hin, hat i hi]
        exact ht _ l hpi
  constructor
  · rintro ⟨q, hp, ht⟩
    have hql := hp.len
    rw [hwl] at hql
    have hrow : ∀ w, w < h.writers.length → ((List.range h.writers.length).map fun w => if s.testBit w = true then q[L.idxOf w]?.getD [] else [])[w]?.getD [] = if s.testBit w = true then q[L.idxOf w]?.getD [] else [] := fun w hw => by
      rw [List.getElem?_map, List.getElem?_range hw]; rfl
    refine ⟨(List.range h.writers.length).map fun w => if s.testBit w = true then q[L.idxOf w]?.getD [] else [], (key _ q (by simp) (fun w hw hb => ?_) ?_).1 ⟨hp, ht⟩⟩
    · rw [hrow w hw, if_neg (by simp [hb])]
    · apply List.ext_getElem?
      intro i
      rw [List.getElem?_map]
      by_cases hi : i < L.length
      · have hm := (hLm L[i]).1 (List.getElem_mem hi)
        rw [List.getElem?_eq_getElem hi, Option.map_some, hrow _ hm.1, if_pos hm.2, hnd.idxOf_getElem i hi, List.getElem?_eq_getElem (by omega)]; rfl
      · rw [List.getElem?_eq_none (by omega), List.getElem?_eq_none (by omega)]; rfl
  · rintro ⟨p, hs, ht⟩
    refine ⟨L.map fun w => p[w]?.getD [], (key p _ hs.len (fun w hw hb => ?_) rfl).2 ⟨hs, ht⟩⟩
    have hwp : w < p.length := by have := hs.len; omega
    rw [List.getElem?_eq_getElem hwp, Option.getD_some, List.eq_nil_iff_forall_not_mem]
    intro c hc
    have := (hs.can w _ (List.getElem?_eq_getElem hwp) c hc).1
    rw [hb] at this; cases this

theorem nodup_map_on {f : Int → Int} : ∀ {l : List Int}, l.Nodup → (∀ a ∈ l, ∀ b ∈ l, f a = f b → a = b) → (l.map f).Nodup
  | [], _, _ => List.nodup_nil
  | a :: l, h, hi => by
    obtain ⟨h1, h2⟩ := List.nodup_cons.1 h
    rw [List.map_cons, List.nodup_cons]
    refine ⟨fun hm => ?_, nodup_map_on h2 fun x hx y hy => hi x (List.mem_cons_of_mem _ hx) y (List.mem_cons_of_mem _ hy)⟩
    obtain ⟨b, hb, e⟩ := List.mem_map.1 hm
    have := hi b (List.mem_cons_of_mem _ hb) a (by simp) e
    exact h1 (this ▸ hb)
theorem fm_congr {α β : Type} {f g : α → Option β} : ∀ (l : List α), (∀ x ∈ l, f x = g x) → l.filterMap f = l.filterMap g
  | [], _ => rfl
  | x :: l, h => by
    rw [List.filterMap_cons, List.filterMap_cons, h x (by simp), fm_congr l fun y hy => h y (List.mem_cons_of_mem _ hy)]
theorem nodup_inj {K : List Nat} (h : K.Nodup) {i j : Nat} (hi : i < K.length) (hj : j < K.length) (e : K[i] = K[j]) : i = j := by
  rw [← h.idxOf_getElem i hi, ← h.idxOf_getElem j hj, e]
/-- The customers who stay. -/
def stayOf (s n : Nat) : List Nat := (List.range n).filter fun i => !s.testBit i
theorem stay_mem {s n i : Nat} : i ∈ stayOf s n ↔ i < n ∧ s.testBit i = false := by unfold stayOf; rw [List.mem_filter, List.mem_range, Bool.not_eq_true']
theorem but_customers (h : DeH) (s : Nat) : (butD h (bitsList s h.customers.length)).customers = (stayOf s h.customers.length).map (customerAt h) := by
  unfold butD stayOf
  show (List.range h.customers.length).filterMap _ = _
  rw [← List.filterMap_eq_map, List.filterMap_filter]
  refine fm_congr _ fun i hi => ?_
  have hlt := List.mem_range.1 hi
  rw [hasB_bits _ _ _ hlt]
  cases s.testBit i with
  | true => rfl
  | false =>
    show h.customers[i]? = some (customerAt h i)
    rw [show customerAt h i = h.customers[i] from by unfold customerAt; rw [List.getElem?_eq_getElem hlt]; rfl, List.getElem?_eq_getElem hlt]
theorem but_at (h : DeH) (s i : Nat) (hi : i < (stayOf s h.customers.length).length) : customerAt (butD h (bitsList s h.customers.length)) i = customerAt h (stayOf s h.customers.length)[i] := by
  show ((butD h (bitsList s h.customers.length)).customers[i]?).getD _ = _
  rw [but_customers, List.getElem?_map, List.getElem?_eq_getElem hi]; rfl
theorem but_valid {h : DeH} (hv : DeValid h) (s : Nat) : DeValid (butD h (bitsList s h.customers.length)) := by
  have hlen : (stayOf s h.customers.length).length ≤ h.customers.length := by unfold stayOf; exact Nat.le_trans (List.length_filter_le _ _) (by simp)
  refine ⟨hv.nw, ?_, hv.wax, hv.w, fun i hi => ?_⟩
  · rw [but_customers, List.length_map]; exact Nat.le_trans hlen hv.nc
  · have hi2 : i < (stayOf s h.customers.length).length := by rw [but_customers, List.length_map] at hi; exact hi
    have e : (butD h (bitsList s h.customers.length)).customers[i] = customerAt h (stayOf s h.customers.length)[i] := by
      have := but_at h s i hi2
      unfold customerAt at this
      rw [List.getElem?_eq_getElem hi] at this
      exact this
    have hm := stay_mem.1 (List.getElem_mem hi2)
    rw [e]
    have := hv.c _ hm.1
    rw [show customerAt h (stayOf s h.customers.length)[i] = h.customers[(stayOf s h.customers.length)[i]]'hm.1 from by unfold customerAt; rw [List.getElem?_eq_getElem hm.1]; rfl]
    exact this
/-- Some of the customers. -/
theorem some_but {h : DeH} (hv : DeValid h) (s cm : Nat) (hcm : cm < 2 ^ h.customers.length) (hbit : ∀ i, i < h.customers.length → cm.testBit i = !s.testBit i) :
    someD (butD h (bitsList s h.customers.length)) = decide (0 ≤ overB h (2 ^ h.writers.length - 1) cm) := by
  rw [Bool.eq_iff_iff, some_iff (but_valid hv s), decide_eq_true_eq, someM_iff hv.nw hcm]
  have hwl : (butD h (bitsList s h.customers.length)).writers = h.writers := rfl
  have hcl : (butD h (bitsList s h.customers.length)).customers.length = (stayOf s h.customers.length).length := by rw [but_customers, List.length_map]
  have hnd : (stayOf s h.customers.length).Nodup := List.Pairwise.filter _ List.nodup_range
  have hat0 := but_at h s
  have hKm : ∀ c, c ∈ stayOf s h.customers.length ↔ c < h.customers.length ∧ cm.testBit c = true := fun c => by
    rw [stay_mem]
    constructor
    · rintro ⟨a, b⟩; exact ⟨a, by rw [hbit c a, b]; rfl⟩
    · rintro ⟨a, b⟩; rw [hbit c a] at b; exact ⟨a, by simpa using b⟩
  generalize stayOf s h.customers.length = K at hcl hnd hat0 hKm
  have hwr : ∀ w, writerAt (butD h (bitsList s h.customers.length)) w = writerAt h w := fun w => rfl
  have hwx : (butD h (bitsList s h.customers.length)).wax = h.wax := rfl
  generalize butD h (bitsList s h.customers.length) = g at hwl hcl hat0 hwr hwx
  rw [hcl]
  -- the same plan by both numberings
  have key : ∀ (p q : List (List Int)) (f : Int → Int), p = q.map (List.map f) → (∀ j : Int, 0 ≤ j → j < (K.length : Int) → ∃ hj : j.toNat < K.length, f j = (K[j.toNat] : Int)) → (∀ j ∈ q.flatten, 0 ≤ j ∧ j < (K.length : Int)) →
      ((PlanOk g K.length q ∧ allIn g q) ↔ (PlanSub h (2 ^ h.writers.length - 1) cm p ∧ allIn h p)) := by
    intro p q f hpq hf hq
    have hflat : p.flatten = q.flatten.map f := by rw [hpq, List.map_flatten]
    have hcu : ∀ j ∈ q.flatten, customerAt g j.toNat = customerAt h (f j).toNat := fun j hj => by
      obtain ⟨h0, h1⟩ := hq j hj
      obtain ⟨hj2, e⟩ := hf j h0 h1
      rw [hat0 _ hj2, e, Int.toNat_natCast]
    have hinj : ∀ a ∈ q.flatten, ∀ b ∈ q.flatten, f a = f b → a = b := fun a ha b hb e => by
      obtain ⟨a0, a1⟩ := hq a ha
      obtain ⟨b0, b1⟩ := hq b hb
      obtain ⟨ha2, ea⟩ := hf a a0 a1
      obtain ⟨hb2, eb⟩ := hf b b0 b1
      rw [ea, eb] at e
      have := nodup_inj hnd _ _ (Int.ofNat.inj e)
      omega
    have hrow : ∀ w l, p[w]? = some l ↔ ∃ m : List Int, q[w]? = some m ∧ l = m.map f := fun w l => by
      rw [hpq, List.getElem?_map, Option.map_eq_some_iff]
      constructor
      · rintro ⟨m, a, b⟩; exact ⟨m, a, b.symm⟩
      · rintro ⟨m, a, b⟩; exact ⟨m, a, b.symm⟩
    have hsub : ∀ w m, q[w]? = some m → ∀ c ∈ m, c ∈ q.flatten := fun w m hm c hc => List.mem_flatten.2 ⟨m, List.mem_of_getElem? hm, hc⟩
    have hint : ∀ (m : List Int) (t : Int), (∀ c ∈ m, c ∈ q.flatten) → (inTime g t m ↔ inTime h t (m.map f)) := by
      intro m
      induction m with
      | nil => exact fun t _ => Iff.rfl
      | cons c m ih =>
        intro t hm
        have hc := hcu c (hm c (by simp))
        show (_ ∧ inTime g _ m) ↔ (_ ∧ inTime h _ (m.map f))
        rw [ih _ (fun d hd => hm d (List.mem_cons_of_mem _ hd)), hc, hwx]
    have hmemf : ∀ c : Int, (∃ j : Int, 0 ≤ j ∧ j < (K.length : Int) ∧ f j = c) ↔ (0 ≤ c ∧ c < (h.customers.length : Int) ∧ cm.testBit c.toNat = true) := fun c => by
      constructor
      · rintro ⟨j, h0, h1, rfl⟩
        obtain ⟨hj, e⟩ := hf j h0 h1
        have := (hKm K[j.toNat]).1 (List.getElem_mem hj)
        rw [e, Int.toNat_natCast]
        exact ⟨by omega, by omega, this.2⟩
      · rintro ⟨h0, h1, h2⟩
        obtain ⟨j, hj, e⟩ := List.getElem_of_mem ((hKm c.toNat).2 ⟨by omega, h2⟩)
        obtain ⟨hj2, e2⟩ := hf (j : Int) (by omega) (by omega)
        refine ⟨(j : Int), by omega, by omega, ?_⟩
        rw [e2]
        simp only [Int.toNat_natCast]
        omega
    constructor
    · rintro ⟨hp, ht⟩
      refine ⟨⟨by rw [hpq, List.length_map, hp.len, hwl], by rw [hflat]; exact nodup_map_on hp.nodup hinj, fun c => ?_, fun w l hl c hc => ?_⟩, fun w l hl => ?_⟩
      · rw [← hmemf, hflat, List.mem_map]
        constructor
        · rintro ⟨j, hj, e⟩; exact ⟨j, (hq j hj).1, (hq j hj).2, e⟩
        · rintro ⟨j, h0, h1, e⟩; exact ⟨j, (hp.mem j).2 ⟨h0, h1⟩, e⟩
      · obtain ⟨m, hm, rfl⟩ := (hrow w l).1 hl
        obtain ⟨j, hj, rfl⟩ := List.mem_map.1 hc
        have h1 := hp.can w m hm j hj
        unfold canD at h1 ⊢
        rw [hcu j (hsub w m hm j hj), hwr] at h1
        refine ⟨?_, h1⟩
        rw [full_bit, decide_eq_true_eq]
        have := (List.getElem?_eq_some_iff.1 hm).1
        have := hp.len
        rw [hwl] at this
        omega
      · obtain ⟨m, hm, rfl⟩ := (hrow w l).1 hl
        have h1 := ht w m hm
        rw [hint m _ (hsub w m hm), hwr] at h1
        exact h1
    · rintro ⟨hs, ht⟩
      have hlen : q.length = g.writers.length := by rw [hwl, ← hs.len, hpq, List.length_map]
      refine ⟨⟨hlen, ?_, fun c => ⟨hq c, fun ⟨h0, h1⟩ => ?_⟩, fun w m hm j hj => ?_⟩, fun w m hm => ?_⟩
      · have := hs.nodup
        rw [hflat] at this
        exact (List.pairwise_map.1 this).imp (fun hne e => hne (by rw [e]))
      · have h2 := (hs.mem (f c)).2 ((hmemf _).1 ⟨c, h0, h1, rfl⟩)
        rw [hflat] at h2
        obtain ⟨j, hj, e⟩ := List.mem_map.1 h2
        obtain ⟨j0, j1⟩ := hq j hj
        obtain ⟨hj2, ej⟩ := hf j j0 j1
        obtain ⟨hc2, ec⟩ := hf c h0 h1
        rw [ej, ec] at e
        have := nodup_inj hnd _ _ (Int.ofNat.inj e)
        rw [show c = j by omega]
        exact hj
      · have h1 := (hs.can w (m.map f) ((hrow w _).2 ⟨m, hm, rfl⟩) (f j) (List.mem_map.2 ⟨j, hj, rfl⟩)).2
        unfold canD at h1 ⊢
        rw [hcu j (hsub w m hm j hj), hwr]
        exact h1
      · have h1 := ht w (m.map f) ((hrow w _).2 ⟨m, hm, rfl⟩)
        rw [hint m _ (hsub w m hm), hwr]
        exact h1
  constructor
  · rintro ⟨q, hp, ht⟩
    refine ⟨q.map (List.map fun j => ((K[j.toNat]?.getD 0 : Nat) : Int)), (key _ q _ rfl (fun j h0 h1 => ?_) (fun j hj => (hp.mem j).1 hj)).1 ⟨hp, ht⟩⟩
    have hj : j.toNat < K.length := by omega
    exact ⟨hj, by rw [List.getElem?_eq_getElem hj]; rfl⟩
  · rintro ⟨p, hs, ht⟩
    have hin : ∀ l ∈ p, ∀ c ∈ l, 0 ≤ c ∧ c.toNat ∈ K := fun l hl c hc => by
      have := (hs.mem c).1 (List.mem_flatten.2 ⟨l, hl, hc⟩)
      exact ⟨this.1, (hKm _).2 ⟨by omega, this.2.2⟩⟩
    refine ⟨p.map (List.map fun c => (K.idxOf c.toNat : Int)), (key p _ (fun j => ((K[j.toNat]?.getD 0 : Nat) : Int)) ?_ (fun j h0 h1 => ?_) (fun j hj => ?_)).2 ⟨hs, ht⟩⟩
    · rw [List.map_map]
      symm
      calc p.map _ = p.map id := List.map_congr_left fun l hl => by
            show (l.map fun c => (K.idxOf c.toNat : Int)).map _ = l
            rw [List.map_map]
            calc l.map _ = l.map id := List.map_congr_left fun c hc => by
                  obtain ⟨c0, hcK⟩ := hin l hl c hc
                  have hlt := List.idxOf_lt_length_of_mem hcK
                  show ((K[((K.idxOf c.toNat : Nat) : Int).toNat]?.getD 0 : Nat) : Int) = c
                  rw [Int.toNat_natCast, List.getElem?_eq_getElem hlt, List.getElem_idxOf hlt, Option.getD_some]
                  omega
              _ = l := List.map_id l
        _ = p := List.map_id p
    · have hj : j.toNat < K.length := by omega
      exact ⟨hj, by rw [List.getElem?_eq_getElem hj]; rfl⟩
    · rw [← List.map_flatten] at hj
      obtain ⟨c, hc, rfl⟩ := List.mem_map.1 hj
      obtain ⟨l, hl, hcl⟩ := List.mem_flatten.1 hc
      have := List.idxOf_lt_length_of_mem (hin l hl c hcl).2
      omega
end Go.Proofs.Ytchnpekgmkhacaa
namespace Go.Proofs.Ytchnpekgmkhacaa

theorem fold_inv {α β : Type} (step : β → α → β) (P : List α → β → Prop) (hs : ∀ S b x, P S b → P (S ++ [x]) (step b x)) : ∀ (L S : List α) (b : β), P S b → P (S ++ L) (L.foldl step b)
  | [], S, b, h => by rw [List.append_nil]; exact h
  | x :: L, S, b, h => by
    have := fold_inv step P hs L (S ++ [x]) (step b x) (hs S b x h)
    rwa [List.append_assoc] at this
/-- What the reference's best is among plans. -/
def BestOf (h : DeH) (S : List (List (List Int))) (b : Option (List (List Int) × Int)) : Prop :=
  match b with
  | none => ∀ p ∈ S, deDoes h p ≠ 1
  | some (q, n) => q ∈ S ∧ deDoes h q = 1 ∧ n = deOver h q ∧ ∀ p ∈ S, deDoes h p = 1 → n < deOver h p ∨ (n = deOver h p ∧ beforeD p q = false)
def OkD (h : DeH) (p : List (List Int)) : Prop := p.length = h.writers.length ∧ ∀ c ∈ p.flatten, 0 ≤ c
theorem before_asymm {h : DeH} {p q : List (List Int)} (hp : OkD h p) (hq : OkD h q) (hb : beforeD p q = true) : beforeD q p = false := by
  rw [before_seq p q (by rw [hp.1, hq.1]) hp.2 hq.2] at hb
  rw [before_seq q p (by rw [hp.1, hq.1]) hq.2 hp.2]
  exact less_asymm _ _ hb
theorem before_irrefl {h : DeH} {p : List (List Int)} (hp : OkD h p) : beforeD p p = false := by
  rw [before_seq p p rfl hp.2 hp.2]; exact less_irrefl _
theorem less_chain {a b c : List Int} (h1 : less a b = true) (h2 : less c b = false) : less c a = false := by
  cases e : less c a with
  | false => rfl
  | true => have := less_trans _ _ _ e h1; rw [h2] at this; cases this
theorem before_chain {h : DeH} {p q r : List (List Int)} (hp : OkD h p) (hq : OkD h q) (hr : OkD h r) (h1 : beforeD p q = true) (h2 : beforeD r q = false) : beforeD r p = false := by
  rw [before_seq p q (by rw [hp.1, hq.1]) hp.2 hq.2] at h1
  rw [before_seq r q (by rw [hr.1, hq.1]) hr.2 hq.2] at h2
  rw [before_seq r p (by rw [hr.1, hp.1]) hr.2 hp.2]
  exact less_chain h1 h2
theorem ok_of {h : DeH} {k : Nat} {p : List (List Int)} (hp : PlanOk h k p) : OkD h p := ⟨hp.len, fun c hc => ((hp.mem c).1 hc).1⟩
theorem best_of (h : DeH) : BestOf h (dePlans h) (bestD h) := by
  have hall : ∀ p ∈ dePlans h, OkD h p := fun p hp => ok_of (mem_plans.1 hp)
  have key : ∀ (L S : List (List (List Int))) (b : Option (List (List Int) × Int)), (∀ p ∈ S ++ L, OkD h p) → BestOf h S b → BestOf h (S ++ L) (L.foldl (bestStepD h) b) := by
    intro L
    induction L with
    | nil => intro S b _ hb; rw [List.append_nil]; exact hb
    | cons x L ih =>
      intro S b ho hb
      have hx := ho x (by simp)
      have := ih (S ++ [x]) (bestStepD h b x) (by simpa using ho) (by
        unfold bestStepD
        by_cases hd : deDoes h x = 1
        · rw [if_pos hd]
          cases b with
          | none =>
            refine ⟨by simp, hd, rfl, fun p hp hdp => ?_⟩
            rcases List.mem_append.1 hp with h1 | h1
            · exact absurd hdp (hb p h1)
            · rw [List.mem_singleton] at h1; subst h1; exact .inr ⟨rfl, before_irrefl hx⟩
          | some qn =>
            obtain ⟨q, n⟩ := qn
            obtain ⟨b1, b2, b3, b4⟩ := hb
            have hq := ho q (by simp [b1])
            by_cases hc : deOver h x < n ∨ (deOver h x = n ∧ beforeD x q = true)
            · simp only [if_pos hc]
              refine ⟨by simp, hd, rfl, fun p hp hdp => ?_⟩
              rcases List.mem_append.1 hp with h1 | h1
              · have hp2 := ho p (by simp [h1])
                rcases hc with hc | ⟨hc, hcb⟩ <;> rcases b4 p h1 hdp with h2 | ⟨h2, h3⟩
                · exact .inl (by omega)
                · exact .inl (by omega)
                · exact .inl (by omega)
                · exact .inr ⟨by omega, before_chain hx hq hp2 hcb h3⟩
              · rw [List.mem_singleton] at h1; subst h1; exact .inr ⟨rfl, before_irrefl hx⟩
            · simp only [if_neg hc]
              refine ⟨by simp [b1], b2, b3, fun p hp hdp => ?_⟩
              rcases List.mem_append.1 hp with h1 | h1
              · exact b4 p h1 hdp
              · rw [List.mem_singleton] at h1; subst h1
                rw [not_or, not_and] at hc
                by_cases e : n = deOver h p
                · exact .inr ⟨e, by simpa using hc.2 e.symm⟩
                · exact .inl (by have := hc.1; omega)
        · rw [if_neg hd]
          cases b with
          | none =>
            intro p hp hdp
            rcases List.mem_append.1 hp with h1 | h1
            · exact hb p h1 hdp
            · rw [List.mem_singleton] at h1; subst h1; exact hd hdp
          | some qn =>
            obtain ⟨q, n⟩ := qn
            obtain ⟨b1, b2, b3, b4⟩ := hb
            refine ⟨by simp [b1], b2, b3, fun p hp hdp => ?_⟩
            rcases List.mem_append.1 hp with h1 | h1
            · exact b4 p h1 hdp
            · rw [List.mem_singleton] at h1; subst h1; exact absurd hdp hd)
      rwa [List.append_assoc] at this
  have := key (dePlans h) [] none (by simpa using hall) (fun p hp => by cases hp)
  rw [List.nil_append] at this
  exact this
/-- All writers and customers. -/
@[reducible] def fullW (h : DeH) : Nat := 2 ^ h.writers.length - 1
@[reducible] def fullC (h : DeH) : Nat := 2 ^ h.customers.length - 1
theorem best_none {h : DeH} (hv : DeValid h) (ho : overB h (fullW h) (fullC h) = -1) : bestD h = none := by
  have hb := best_of h
  cases e : bestD h with
  | none => rfl
  | some qn =>
    obtain ⟨q, n⟩ := qn
    rw [e] at hb
    have hp := mem_plans.1 hb.1
    have := (someM_iff (wm := fullW h) hv.nw (pow_pred h.customers.length)).2 ⟨q, sub_full.2 hp, (must_iff hv hp).1 hb.2.1⟩
    have h2 : overB h (fullW h) (2 ^ h.customers.length - 1) = -1 := ho
    omega
theorem best_some {h : DeH} (hv : DeValid h) (ho : 0 ≤ overB h (fullW h) (fullC h)) : ∃ q, PlanOk h h.customers.length q ∧ allIn h q ∧
    seqOf q = findF h (fullW h) (fullC h) (overB h (fullW h) (fullC h)) (leftD h (beginD h)) (beginD h) ∧ bestD h = some (q, overB h (fullW h) (fullC h)) := by
  have hw0 : (beginD h).writer = 0 := rfl
  obtain ⟨z, hr, hf, hv1, hfirst⟩ := find_spec (wm := fullW h) (cm := fullC h) ho (leftD h (beginD h)) (beginD h) (by rw [hw0]; omega) (Nat.le_refl _) rfl
  obtain ⟨q, q1, q2, q3, rfl⟩ := run_plan hr hf (by rw [hw0]; omega)
  rw [hw0, Nat.zero_add] at q1
  obtain ⟨g1, g2⟩ := (good_iff hv.nw (pow_pred h.customers.length) q1).1 ⟨q3, hf⟩
  have hq := sub_full.1 g1
  have hov : deOver h q = overB h (fullW h) (fullC h) := by rw [← fv_over hv hq]; exact hv1
  refine ⟨q, hq, g2, q2.symm, ?_⟩
  have hdq : deDoes h q = 1 := (must_iff hv hq).2 g2
  have hb := best_of h
  cases e : bestD h with
  | none =>
    rw [e] at hb
    exact absurd hdq (hb q (mem_plans.2 hq))
  | some pn =>
    obtain ⟨p, n⟩ := pn
    rw [e] at hb
    obtain ⟨b1, b2, b3, b4⟩ := hb
    have hp := mem_plans.1 b1
    have hin := (must_iff hv hp).1 b2
    have hge : overB h (fullW h) (fullC h) ≤ fvD h (planEnd h (beginD h) p) := by
      rcases overB_spec (wm := fullW h) hv.nw (pow_pred h.customers.length) with ⟨_, hno⟩ | ⟨_, _, hall⟩
      · exact absurd hin (hno p (sub_full.2 hp))
      · exact hall p (sub_full.2 hp) hin
    rw [fv_over hv hp] at hge
    have hle := b4 q (mem_plans.2 hq) hdq
    have heq : deOver h p = overB h (fullW h) (fullC h) := by omega
    have hbf : beforeD q p = false := by
      rcases hle with h1 | ⟨_, h2⟩
      · omega
      · exact h2
    obtain ⟨r1, r2⟩ := (good_iff hv.nw (pow_pred h.customers.length) hp.len).2 ⟨sub_full.2 hp, hin⟩
    have hrun := run_good p _ r1 (by rw [hw0, Nat.zero_add]; exact hp.len)
    rw [before_seq q p (by rw [hq.len, hp.len]) (ok_of hq).2 (ok_of hp).2] at hbf
    have hpq : seqOf p = seqOf q := by
      rcases hfirst _ _ hrun r2 (by rw [fv_over hv hp]; exact heq) with h1 | h1
      · rw [h1, q2]
      · rw [q2, hbf] at h1; cases h1
    rw [seq_inj p q (by rw [hq.len, hp.len]) (ok_of hp).2 (ok_of hq).2 hpq]
    rw [show n = overB h (fullW h) (fullC h) by omega]

/-- The moves put into lists. -/
def placeStep (s : List (List Int) × Nat) (c : Int) : List (List Int) × Nat := if c < 0 then (s.1, s.2 + 1) else (s.1.modify s.2 (· ++ [c]), s.2)
theorem modify_mid (f : List Int → List Int) (a : List Int) (rest : List (List Int)) : ∀ dn : List (List Int), (dn ++ a :: rest).modify dn.length f = dn ++ f a :: rest
  | [] => rfl
  | d :: dn => by
    have := modify_mid f a rest dn
    simp only [List.cons_append, List.length_cons, List.modify_succ_cons, this]
theorem place_row (rest : List (List Int)) : ∀ (l a : List Int) (dn : List (List Int)), (∀ c ∈ l, 0 ≤ c) → l.foldl placeStep (dn ++ a :: rest, dn.length) = (dn ++ (a ++ l) :: rest, dn.length)
  | [], a, dn, _ => by simp
  | c :: l, a, dn, h => by
    rw [List.foldl_cons]
    have : placeStep (dn ++ a :: rest, dn.length) c = (dn ++ (a ++ [c]) :: rest, dn.length) := by
      unfold placeStep
      rw [if_neg (by have := h c (by simp); omega)]
      rw [modify_mid]
    rw [this, place_row rest l (a ++ [c]) dn (fun d hd => h d (List.mem_cons_of_mem _ hd))]
    simp
theorem place_seq : ∀ (q dn : List (List Int)), (∀ c ∈ q.flatten, 0 ≤ c) → (seqOf q).foldl placeStep (dn ++ List.replicate q.length [], dn.length) = (dn ++ q, dn.length + q.length)
  | [], dn, _ => by simp [seqOf]
  | l :: q, dn, h => by
    rw [seqOf_cons, List.foldl_append, List.length_cons, List.replicate_succ, place_row _ l [] dn (fun c hc => h c (by rw [List.flatten_cons]; exact List.mem_append.2 (.inl hc))), List.foldl_cons]
    have e : placeStep (dn ++ ([] ++ l) :: List.replicate q.length [], dn.length) (-1) = ((dn ++ [l]) ++ List.replicate q.length [], (dn ++ [l]).length) := by
      unfold placeStep
      rw [if_pos (by decide)]
      simp
    rw [e, place_seq q (dn ++ [l]) (fun c hc => h c (by rw [List.flatten_cons]; exact List.mem_append.2 (.inr hc)))]
    simp
    omega

/-- Enough. -/
theorem enough_found {h : DeH} (he : deErr h = 0) {best : List Int} {found : Bool} (hf : Found h.writers.length (fun s => decide (0 ≤ overB h s (fullC h))) (2 ^ h.writers.length) best found) : deEnough h = if found then (best, 0) else ([], 9) := by
  have hv := deValid_of he
  have e : (fun s => decide (0 ≤ overB h s (fullC h))) = fun s => (fun l => someD (onlyD h l)) (bitsList s h.writers.length) := funext fun s => (some_only hv s).symm
  rw [e] at hf
  unfold deEnough
  rw [if_pos he, found_search (so := fun l => someD (onlyD h l)) hf]
  cases found <;> rfl
theorem stay_full {l : List Int} {n : Nat} (h : incr n l) (hl : l.length = n) : stayOf (setOf l) n = [] := by
  rw [List.eq_nil_iff_forall_not_mem]
  intro i hi
  obtain ⟨h1, h2⟩ := stay_mem.1 hi
  have := incr_fullE h hl i h1
  rw [setOf_bit l i (fun x hx => (h.2 x hx).1)] at h2
  exact (of_decide_eq_false h2) this
theorem away_all {h : DeH} (hv : DeValid h) (l : List Int) (h1 : incr h.customers.length l) (h2 : l.length = h.customers.length) : someD (butD h l) = true := by
  have hb := but_valid hv (setOf l)
  have hc := but_customers h (setOf l)
  rw [setOf_bits h1] at hb hc
  rw [stay_full h1 h2] at hc
  rw [some_iff hb]
  have h0 : (butD h l).customers.length = 0 := by rw [hc]; rfl
  refine ⟨List.replicate (butD h l).writers.length [], by rw [h0]; exact plan_zero.2 rfl, fun w l hl => ?_⟩
  have : l = [] := by
    obtain ⟨hlt, rfl⟩ := List.getElem?_eq_some_iff.1 hl
    simp
  rw [this]; trivial
theorem away_first {h : DeH} (he : deErr h = 0) : FirstOf (fun l => incr h.customers.length l ∧ someD (butD h l) = true) (deAway h).1 ∧ (deAway h).2 = 0 := by
  have hv := deValid_of he
  unfold deAway
  rw [if_pos he]
  exact ⟨first_or_all (fun l => someD (butD h l)) h.customers.length hv.nc (fun l h1 h2 => away_all hv l h1 h2), rfl⟩
def awayM (n s : Nat) : Nat := (2 ^ n - 1) &&& ((2 ^ n - 1) ^^^ s)
theorem awayM_lt (n s : Nat) : awayM n s < 2 ^ n := Nat.lt_of_le_of_lt Nat.and_le_left (pow_pred n)
theorem awayM_bit (n s i : Nat) (h : i < n) : (awayM n s).testBit i = !s.testBit i := by
  unfold awayM
  rw [Nat.testBit_and, Nat.testBit_xor, full_bit, decide_eq_true h]
  simp
theorem away_found {h : DeH} (he : deErr h = 0) {best : List Int} {found : Bool} (hf : Found h.customers.length (fun s => decide (0 ≤ overB h (fullW h) (awayM h.customers.length s))) (2 ^ h.customers.length) best found) : deAway h = (best, 0) := by
  have hv := deValid_of he
  obtain ⟨a1, a2⟩ := away_first he
  have e : (fun s => decide (0 ≤ overB h (fullW h) (awayM h.customers.length s))) = fun s => (fun l => someD (butD h l)) (bitsList s h.customers.length) := funext fun s => (some_but hv s _ (awayM_lt _ _) (fun i hi => awayM_bit _ _ i hi)).symm
  rw [e] at hf
  exact Prod.ext (found_first (so := fun l => someD (butD h l)) a1 hf).2.symm a2
end Go.Proofs.Ytchnpekgmkhacaa
namespace Go.Proofs.Ytchnpekgmkhacaa

section
variable (h : DeH) (c : Nat) (m : Int)
theorem ship_len : (shippedD h c m).customers.length = h.customers.length := by simp [shippedD]
theorem ship_at (i : Nat) : customerAt (shippedD h c m) i = if i = c ∧ i < h.customers.length then { customerAt h i with ship := m } else customerAt h i := by
  unfold customerAt shippedD
  simp only [List.getElem?_modify]
  by_cases hi : i < h.customers.length
  · rw [List.getElem?_eq_getElem hi]
    by_cases e : c = i
    · subst e; simp [hi]
    · rw [if_neg (fun hh => e hh.1.symm)]; simp [e]
  · rw [if_neg (fun hh => hi hh.2), List.getElem?_eq_none (by omega)]; rfl
theorem ship_writers : (shippedD h c m).writers = h.writers := rfl
theorem ship_hi (i : Nat) : (customerAt (shippedD h c m) i).hi = (customerAt h i).hi := by rw [ship_at]; split <;> rfl
theorem ship_lo (i : Nat) : (customerAt (shippedD h c m) i).lo = (customerAt h i).lo := by rw [ship_at]; split <;> rfl
theorem ship_kind (i : Nat) : (customerAt (shippedD h c m) i).kind = (customerAt h i).kind := by rw [ship_at]; split <;> rfl
theorem ship_can (w i : Nat) : canD (shippedD h c m) w i = canD h w i := by unfold canD; rw [ship_kind]; rfl
theorem ship_sealRow : ∀ (l : List Int) (s : Int × Int) (out : List (Int × Int)), sealRow (shippedD h c m) l s out = sealRow h l s out
  | [], _, _ => rfl
  | d :: l, s, out => by
    show sealRow (shippedD h c m) l _ _ = sealRow h l _ _
    rw [ship_lo, ship_hi, ship_sealRow l]; rfl
theorem ship_sealRows : ∀ (p : List (List Int)) (w : Nat) (out : List (Int × Int)), sealRows (shippedD h c m) w p out = sealRows h w p out
  | [], _, _ => rfl
  | l :: p, w, out => by
    show sealRows (shippedD h c m) (w + 1) p (sealRow (shippedD h c m) l _ out) = sealRows h (w + 1) p (sealRow h l _ out)
    rw [ship_sealRow, ship_sealRows p]; rfl
theorem ship_sealed (p : List (List Int)) : deSealed (shippedD h c m) p = deSealed h p := by unfold deSealed; rw [ship_sealRows, ship_len]
variable {h c m}
theorem ship_ok {k : Nat} {p : List (List Int)} : PlanOk (shippedD h c m) k p ↔ PlanOk h k p := by
  constructor
  · rintro ⟨a, b, d, e⟩; exact ⟨a, b, d, fun w l hl x hx => by have := e w l hl x hx; rwa [ship_can] at this⟩
  · rintro ⟨a, b, d, e⟩; exact ⟨a, b, d, fun w l hl x hx => by have := e w l hl x hx; rwa [ship_can]⟩
theorem ship_valid (hv : DeValid h) (h0 : 0 ≤ m) (h1 : m ≤ 240) : DeValid (shippedD h c m) := by
  refine ⟨hv.nw, by rw [ship_len]; exact hv.nc, hv.wax, hv.w, fun i hi => ?_⟩
  have hi2 : i < h.customers.length := by rw [ship_len] at hi; exact hi
  have e : (shippedD h c m).customers[i] = customerAt (shippedD h c m) i := by unfold customerAt; rw [List.getElem?_eq_getElem hi]; rfl
  have e2 : h.customers[i] = customerAt h i := by unfold customerAt; rw [List.getElem?_eq_getElem hi2]; rfl
  have := hv.c i hi2
  rw [e2] at this
  rw [e, ship_at]
  split
  · simp only; omega
  · exact this
end
theorem sealed_le {h : DeH} (hv : DeValid h) {p : List (List Int)} (hp : PlanOk h h.customers.length p) {i : Nat} {s : Int × Int} (hs : (deSealed h p)[i]? = some s) : s.1 ≤ s.2 := by
  have hc : i < h.customers.length := by rw [← sealed_len h p]; exact (List.getElem?_eq_some_iff.1 hs).1
  obtain ⟨w, a, b, hw, hwp⟩ := plan_has hp hc
  have e := sealed_at hp hwp
  rw [Int.toNat_natCast, hs] at e
  obtain rfl := Option.some.inj e
  exact span_le hv _ _ (fun d hd => (hp.mem d).1 (List.mem_flatten.2 ⟨_, List.mem_of_getElem? hwp, by
    rcases List.mem_append.1 hd with h3 | h3
    · exact List.mem_append.2 (.inl h3)
    · rw [List.mem_singleton] at h3; rw [h3]; simp⟩)) (hv.writer hw).2
/-- A plan surely does just if the latest of each letter is in time. -/
theorem does_hi {h : DeH} (hv : DeValid h) {p : List (List Int)} (hp : PlanOk h h.customers.length p) : deDoes h p = 1 ↔ ∀ i s, (deSealed h p)[i]? = some s → s.2 ≤ (customerAt h i).ship := by
  unfold deDoes
  rw [does_iff]
  simp only [Nat.zero_add]
  constructor
  · rintro ⟨_, h1⟩ i s hs; exact (h1 i s hs).2
  · intro h1
    refine ⟨trivial, fun i s hs => ⟨?_, h1 i s hs⟩⟩
    have := sealed_le hv hp hs
    have := h1 i s hs
    omega
/-- The latest at which the letter of a customer is sealed. -/
def sealHi (h : DeH) (p : List (List Int)) (c : Nat) : Int := ((deSealed h p)[c]?.getD (0, 0)).2
theorem ship_does {h : DeH} (hv : DeValid h) {c : Nat} (hc : c < h.customers.length) {m : Int} (h0 : 0 ≤ m) (h1 : m ≤ 240) {p : List (List Int)} (hp : PlanOk h h.customers.length p) :
    deDoes (shippedD h c m) p = 1 ↔ (∀ i s, i ≠ c → (deSealed h p)[i]? = some s → s.2 ≤ (customerAt h i).ship) ∧ sealHi h p c ≤ m := by
  rw [does_hi (ship_valid hv h0 h1) (by rw [ship_len]; exact ship_ok.2 hp)]
  simp only [ship_sealed, ship_at]
  have hcs : c < (deSealed h p).length := by rw [sealed_len]; exact hc
  have hsh : sealHi h p c = ((deSealed h p)[c]).2 := by unfold sealHi; rw [List.getElem?_eq_getElem hcs]; rfl
  constructor
  · intro hall
    refine ⟨fun i s hi hs => ?_, ?_⟩
    · have := hall i s hs
      rwa [if_neg (fun hh => hi hh.1)] at this
    · have := hall c _ (List.getElem?_eq_getElem hcs)
      rw [if_pos ⟨rfl, hc⟩] at this
      rw [hsh]; exact this
  · rintro ⟨h2, h3⟩ i s hs
    by_cases e : i = c
    · subst e
      rw [if_pos ⟨rfl, hc⟩]
      rw [List.getElem?_eq_getElem hcs] at hs
      obtain rfl := Option.some.inj hs
      rw [hsh] at h3; exact h3
    · rw [if_neg (fun hh => e hh.1)]
      exact h2 i s e hs
/-- With the ship at a minute there is a plan that surely does. -/
def doesAt (h : DeH) (c : Nat) (m : Int) : Bool := decide (0 ≤ overB (shippedD h c m) (fullW h) (fullC h))
theorem doesAt_some {h : DeH} (hv : DeValid h) {c : Nat} {m : Int} (h0 : 0 ≤ m) (h1 : m ≤ 240) : doesAt h c m = someD (shippedD h c m) := by
  rw [some_full (ship_valid hv h0 h1)]
  unfold doesAt
  rw [ship_len, ship_writers]
theorem doesAt_iff {h : DeH} (hv : DeValid h) {c : Nat} (hc : c < h.customers.length) {m : Int} (h0 : 0 ≤ m) (h1 : m ≤ 240) : doesAt h c m = true ↔ ∃ p ∈ dePlans h, deDoes (shippedD h c 240) p = 1 ∧ sealHi h p c ≤ m := by
  rw [doesAt_some hv h0 h1]
  unfold someD
  rw [List.any_eq_true]
  constructor
  · rintro ⟨p, hp, hd⟩
    have hd := of_decide_eq_true hd
    have hp2 : PlanOk h h.customers.length p := by
      have := mem_plans.1 hp
      rw [ship_len] at this
      exact ship_ok.1 this
    obtain ⟨a, b⟩ := (ship_does hv hc h0 h1 hp2).1 hd
    exact ⟨p, mem_plans.2 hp2, (ship_does hv hc (by decide) (by decide) hp2).2 ⟨a, by omega⟩, b⟩
  · rintro ⟨p, hp, hd, hm⟩
    have hp2 : PlanOk h h.customers.length p := mem_plans.1 hp
    obtain ⟨a, b⟩ := (ship_does hv hc (by decide) (by decide) hp2).1 hd
    exact ⟨p, mem_plans.2 (by rw [ship_len]; exact ship_ok.2 hp2), decide_eq_true ((ship_does hv hc h0 h1 hp2).2 ⟨a, hm⟩)⟩
theorem doesAt_mono {h : DeH} (hv : DeValid h) {c : Nat} (hc : c < h.customers.length) {m n : Int} (h0 : 0 ≤ m) (hmn : m ≤ n) (h1 : n ≤ 240) (hd : doesAt h c m = true) : doesAt h c n = true := by
  obtain ⟨p, hp, a, b⟩ := (doesAt_iff hv hc h0 (by omega)).1 hd
  exact (doesAt_iff hv hc (by omega) h1).2 ⟨p, hp, a, by omega⟩
/-- What the reference's least is among plans. -/
def LeastOf (h : DeH) (c : Nat) (S : List (List (List Int))) (b : Option Int) : Prop :=
  match b with
  | none => ∀ p ∈ S, deDoes (shippedD h c 240) p ≠ 1
  | some n => (∃ p ∈ S, deDoes (shippedD h c 240) p = 1 ∧ n = max 0 (sealHi h p c - (customerAt h c).ship)) ∧ ∀ p ∈ S, deDoes (shippedD h c 240) p = 1 → n ≤ max 0 (sealHi h p c - (customerAt h c).ship)
theorem laterStep_eq (h : DeH) (c : Nat) (b : Option Int) (p : List (List Int)) : laterStep h (shippedD h c 240) c b p = if deDoes (shippedD h c 240) p = 1 then (match b with
    | none => some (max 0 (sealHi h p c - (customerAt h c).ship))
    | some n => if max 0 (sealHi h p c - (customerAt h c).ship) < n then some (max 0 (sealHi h p c - (customerAt h c).ship)) else some n) else b := rfl
theorem least_of (h : DeH) (c : Nat) : LeastOf h c (dePlans h) ((dePlans h).foldl (laterStep h (shippedD h c 240) c) none) := by
  have := fold_inv (laterStep h (shippedD h c 240) c) (LeastOf h c) (fun S b x hb => by
    rw [laterStep_eq]
    by_cases hd : deDoes (shippedD h c 240) x = 1
    · rw [if_pos hd]
      cases b with
      | none =>
        refine ⟨⟨x, by simp, hd, rfl⟩, fun p hp hdp => ?_⟩
        rcases List.mem_append.1 hp with h1 | h1
        · exact absurd hdp (hb p h1)
        · rw [List.mem_singleton] at h1; subst h1; exact Int.le_refl _
      | some n =>
        obtain ⟨⟨q, q1, q2, q3⟩, hall⟩ := hb
        by_cases hc : max 0 (sealHi h x c - (customerAt h c).ship) < n
        · simp only [if_pos hc]
          refine ⟨⟨x, by simp, hd, rfl⟩, fun p hp hdp => ?_⟩
          rcases List.mem_append.1 hp with h1 | h1
          · exact Int.le_trans (Int.le_of_lt hc) (hall p h1 hdp)
          · rw [List.mem_singleton] at h1; subst h1; exact Int.le_refl _
        · simp only [if_neg hc]
          refine ⟨⟨q, by simp [q1], q2, q3⟩, fun p hp hdp => ?_⟩
          rcases List.mem_append.1 hp with h1 | h1
          · exact hall p h1 hdp
          · rw [List.mem_singleton] at h1; subst h1; exact Int.not_lt.1 hc
    · rw [if_neg hd]
      cases b with
      | none =>
        intro p hp hdp
        rcases List.mem_append.1 hp with h1 | h1
        · exact hb p h1 hdp
        · rw [List.mem_singleton] at h1; subst h1; exact hd hdp
      | some n =>
        obtain ⟨⟨q, q1, q2, q3⟩, hall⟩ := hb
        refine ⟨⟨q, by simp [q1], q2, q3⟩, fun p hp hdp => ?_⟩
        rcases List.mem_append.1 hp with h1 | h1
        · exact hall p h1 hdp
        · rw [List.mem_singleton] at h1; subst h1; exact absurd hdp hd) (dePlans h) [] none (fun p hp => by cases hp)
  rw [List.nil_append] at this
  exact this
theorem laterErr_ok {h : DeH} {c : Nat} (he : deErr h = 0) (hc : c < h.customers.length) : laterErr h (c : Int) = 0 := by
  unfold laterErr
  rw [if_pos he, if_pos (inB_iff.2 (by omega))]
theorem later_never {h : DeH} {c : Nat} (he : deErr h = 0) (hc : c < h.customers.length) (hd : doesAt h c 240 = false) : deLater h (c : Int) = (0, 9) := by
  have hv := deValid_of he
  have hl := least_of h c
  unfold deLater
  rw [if_pos (laterErr_ok he hc), Int.toNat_natCast]
  cases e : (dePlans h).foldl (laterStep h (shippedD h c 240) c) none with
  | none => rfl
  | some n =>
    rw [e] at hl
    obtain ⟨⟨q, q1, q2, _⟩, _⟩ := hl
    obtain ⟨_, hm⟩ := (ship_does hv hc (by decide) (by decide) (mem_plans.1 q1)).1 q2
    have := (doesAt_iff hv hc (m := 240) (by decide) (by decide)).2 ⟨q, q1, q2, hm⟩
    rw [hd] at this; cases this
theorem later_is {h : DeH} {c : Nat} (he : deErr h = 0) (hc : c < h.customers.length) {m : Int} (h0 : (customerAt h c).ship ≤ m) (h1 : m ≤ 240) (hd : doesAt h c m = true) (hno : (customerAt h c).ship < m → doesAt h c (m - 1) = false) : deLater h (c : Int) = (m - (customerAt h c).ship, 0) := by
  have hv := deValid_of he
  have hl := least_of h c
  have hs0 : 0 ≤ (customerAt h c).ship := by
    have := hv.c c hc
    rw [show customerAt h c = h.customers[c] from by unfold customerAt; rw [List.getElem?_eq_getElem hc]; rfl]
    omega
  obtain ⟨p, hp, hdp, hm⟩ := (doesAt_iff hv hc (by omega) h1).1 hd
  unfold deLater
  rw [if_pos (laterErr_ok he hc), Int.toNat_natCast]
  cases e : (dePlans h).foldl (laterStep h (shippedD h c 240) c) none with
  | none => rw [e] at hl; exact absurd hdp (hl p hp)
  | some n =>
    rw [e] at hl
    obtain ⟨⟨q, q1, q2, q3⟩, hall⟩ := hl
    have hle := hall p hp hdp
    have hge : m - (customerAt h c).ship ≤ n := by
      by_cases hlt : (customerAt h c).ship < m
      · have hf := hno hlt
        have : ¬ sealHi h q c ≤ m - 1 := fun hh => by
          have := (doesAt_iff hv hc (m := m - 1) (by omega) (by omega)).2 ⟨q, q1, q2, hh⟩
          rw [hf] at this; cases this
        omega
      · omega
    rw [show n = m - (customerAt h c).ship by omega]
theorem later_err {h : DeH} {c : Int} (he : laterErr h c ≠ 0) : deLater h c = (0, laterErr h c) := by unfold deLater; rw [if_neg he]
end Go.Proofs.Ytchnpekgmkhacaa
