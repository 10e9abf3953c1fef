/- What is proved here: plain facts on any plan, and on any truth, of layer 9. No program. No condition. -/
/- What is proved here: plain facts: if a plan surely does, so does the one in which each writer's customers stand in the order of their ships. No program. No condition. -/
/- What is proved here: plain facts of layer 9: when a hall has no error, how late ships would have to sail, who is sent away, and who is enough. No program. No condition. -/
/- What is proved here: plain facts of layer 9: an easier hall, and a narrower one. No program. No condition. -/
/- What is proved here: the plain functions' answers at the halls of the examples of layer 9, by computation. No condition. -/
import Derived.Test.YtchnpekgmkhacaaDePlainB
set_option linter.unusedVariables false
set_option linter.unusedSimpArgs false
namespace Go.Proofs.Ytchnpekgmkhacaa

/-- The n-th number of a list, by turns. -/
def turnD (l : List Int) (n : Nat) : Int := if l.length = 0 then 0 else l[n % l.length]?.getD 0
theorem turnD_bd {l : List Int} (h : ∀ x ∈ l, 0 ≤ x ∧ x ≤ 255) (n : Nat) : 0 ≤ turnD l n ∧ turnD l n ≤ 255 := by
  unfold turnD
  by_cases h0 : l.length = 0
  · rw [if_pos h0]; omega
  · rw [if_neg h0]
    have hlt : n % l.length < l.length := Nat.mod_lt _ (by omega)
    rw [List.getElem?_eq_getElem hlt]
    exact h _ (List.getElem_mem hlt)
/-- The writers who can write a letter. -/
def canL (h : DeH) (c : Nat) : List Int := ((List.range h.writers.length).filter fun w => canD h w c).map fun (w : Nat) => (w : Int)
def anyW (h : DeH) (x : List Int) (c : Nat) : Nat := ((canL h c)[(turnD x (2 * c)).toNat % (canL h c).length]?.getD 0).toNat
def anyI (h : DeH) (x : List Int) (c : Nat) (p : List (List Int)) : Nat := (turnD x (2 * c + 1)).toNat % ((p[anyW h x c]?.getD []).length + 1)
/-- 'Any', customer by customer. -/
def anyTo (h : DeH) (x : List Int) : Nat → Option (List (List Int))
  | 0 => some (List.replicate h.writers.length [])
  | c + 1 => match anyTo h x c with
    | none => none
    | some p => if (canL h c).length = 0 then none else some (insertAt p (anyW h x c) (anyI h x c p) (c : Int))
def anyD (h : DeH) (x : List Int) : Option (List (List Int)) := anyTo h x h.customers.length
theorem mem_canL {h : DeH} {c : Nat} {w : Int} : w ∈ canL h c ↔ ∃ v : Nat, v < h.writers.length ∧ canD h v c = true ∧ w = (v : Int) := by
  unfold canL
  rw [List.mem_map]
  constructor
  · rintro ⟨v, hv, rfl⟩
    obtain ⟨h1, h2⟩ := List.mem_filter.1 hv
    exact ⟨v, List.mem_range.1 h1, h2, rfl⟩
  · rintro ⟨v, h1, h2, rfl⟩
    exact ⟨v, List.mem_filter.2 ⟨List.mem_range.2 h1, h2⟩, rfl⟩
theorem anyW_ok {h : DeH} {x : List Int} {c : Nat} (h0 : (canL h c).length ≠ 0) : anyW h x c < h.writers.length ∧ canD h (anyW h x c) c = true := by
  have hlt : (turnD x (2 * c)).toNat % (canL h c).length < (canL h c).length := Nat.mod_lt _ (by omega)
  obtain ⟨v, h1, h2, h3⟩ := mem_canL.1 (List.getElem_mem hlt)
  have e : anyW h x c = v := by
    unfold anyW
    rw [List.getElem?_eq_getElem hlt, Option.getD_some, h3, Int.toNat_natCast]
  rw [e]
  exact ⟨h1, h2⟩
theorem any_ok {h : DeH} {x : List Int} : ∀ {k : Nat} {p : List (List Int)}, anyTo h x k = some p → PlanOk h k p
  | 0, p, e => by
    have : List.replicate h.writers.length [] = p := Option.some.inj e
    exact plan_zero.2 this.symm
  | k + 1, p, e => by
    rw [anyTo] at e
    cases ek : anyTo h x k with
    | none => rw [ek] at e; cases e
    | some q =>
      rw [ek] at e
      simp only at e
      by_cases h0 : (canL h k).length = 0
      · rw [if_pos h0] at e; cases e
      · rw [if_neg h0] at e
        have := Option.some.inj e
        subst this
        obtain ⟨h1, h2⟩ := anyW_ok (x := x) h0
        exact plan_step (any_ok ek) h1 h2
theorem anyTo_none {h : DeH} {x : List Int} : ∀ {k : Nat}, anyTo h x k = none → ∃ c, c < k ∧ canL h c = []
  | 0, e => by cases e
  | k + 1, e => by
    rw [anyTo] at e
    cases ek : anyTo h x k with
    | none =>
      obtain ⟨c, h1, h2⟩ := anyTo_none ek
      exact ⟨c, by omega, h2⟩
    | some q =>
      rw [ek] at e
      simp only at e
      by_cases h0 : (canL h k).length = 0
      · exact ⟨k, by omega, List.length_eq_zero_iff.1 h0⟩
      · rw [if_neg h0] at e; cases e
theorem any_no {h : DeH} {x : List Int} (e : anyD h x = none) {p : List (List Int)} : ¬ PlanOk h h.customers.length p := fun hp => by
  obtain ⟨c, h1, h2⟩ := anyTo_none e
  obtain ⟨w, a, b, h3, h4⟩ := plan_has hp h1
  have h5 := hp.can w _ h4 (c : Int) (by simp)
  rw [Int.toNat_natCast] at h5
  have : (w : Int) ∈ canL h c := mem_canL.2 ⟨w, h3, h5, rfl⟩
  rw [h2] at this
  cases this

/-- A number of a span, by a number. -/
def someN (lo hi n : Int) : Int := lo + n % (hi - lo + 1)
theorem someN_bd {lo hi : Int} (n : Int) (h : lo ≤ hi) : lo ≤ someN lo hi n ∧ someN lo hi n ≤ hi := by
  unfold someN
  have h1 := Int.emod_nonneg n (show hi - lo + 1 ≠ 0 by omega)
  have h2 := Int.emod_lt_of_pos n (show 0 < hi - lo + 1 by omega)
  omega
def talkT (h : DeH) (x : List Int) (c : Nat) : Int := someN (customerAt h c).lo (customerAt h c).hi (turnD x (3 + c))
def freeT (h : DeH) (x : List Int) (w : Nat) : Int := someN (writerAt h w).lo (writerAt h w).hi (turnD x w)
def trulyRow (h : DeH) (x : List Int) : List Int → Int → List Int → List Int
  | [], _, out => out
  | c :: l, n, out => trulyRow h x l (n + talkT h x c.toNat + h.wax) (out.set c.toNat (n + talkT h x c.toNat + h.wax))
def trulyRows (h : DeH) (x : List Int) : Nat → List (List Int) → List Int → List Int
  | _, [], out => out
  | w, l :: p, out => trulyRows h x (w + 1) p (trulyRow h x l (freeT h x w) out)
/-- 'Truly'. -/
def trulyD (h : DeH) (x : List Int) (p : List (List Int)) : List Int := trulyRows h x 0 p (List.replicate h.customers.length 0)
theorem trulyRow_len (h : DeH) (x : List Int) : ∀ (l : List Int) (n : Int) (out : List Int), (trulyRow h x l n out).length = out.length
  | [], _, _ => rfl
  | c :: l, n, out => by rw [trulyRow, trulyRow_len h x l, List.length_set]
theorem trulyRows_len (h : DeH) (x : List Int) : ∀ (p : List (List Int)) (w : Nat) (out : List Int), (trulyRows h x w p out).length = out.length
  | [], _, _ => rfl
  | l :: p, w, out => by rw [trulyRows, trulyRows_len h x p, trulyRow_len]
theorem truly_len (h : DeH) (x : List Int) (p : List (List Int)) : (trulyD h x p).length = h.customers.length := by unfold trulyD; rw [trulyRows_len]; simp
/-- Each number is in its span. -/
def InS (a : List Int) (s : List (Int × Int)) : Prop := a.length = s.length ∧ ∀ (i : Nat) (n : Int) (t : Int × Int), a[i]? = some n → s[i]? = some t → t.1 ≤ n ∧ n ≤ t.2
theorem inS_set {a : List Int} {s : List (Int × Int)} (h : InS a s) (i : Nat) {n : Int} {t : Int × Int} (h1 : t.1 ≤ n) (h2 : n ≤ t.2) : InS (a.set i n) (s.set i t) := by
  refine ⟨by rw [List.length_set, List.length_set]; exact h.1, fun j m u e1 e2 => ?_⟩
  rw [List.getElem?_set] at e1 e2
  by_cases e : i = j
  · rw [if_pos e] at e1 e2
    subst e
    by_cases hl : i < a.length
    · rw [if_pos hl] at e1
      rw [if_pos (by have := h.1; omega)] at e2
      cases e1; cases e2
      exact ⟨h1, h2⟩
    · rw [if_neg hl] at e1; cases e1
  · rw [if_neg e] at e1 e2
    exact h.2 j m u e1 e2
theorem trulyRow_in {h : DeH} (hv : DeValid h) (x : List Int) : ∀ (l : List Int) (n : Int) (s : Int × Int) (a : List Int) (o : List (Int × Int)), (∀ c ∈ l, c.toNat < h.customers.length) → s.1 ≤ n → n ≤ s.2 → InS a o → InS (trulyRow h x l n a) (sealRow h l s o)
  | [], _, _, _, _, _, _, _, k => k
  | c :: l, n, s, a, o, hl, h1, h2, k => by
    rw [trulyRow, sealRow]
    have hb := someN_bd (turnD x (3 + c.toNat)) (hv.cust (hl c (by simp))).2
    have e : talkT h x c.toNat = someN (customerAt h c.toNat).lo (customerAt h c.toNat).hi (turnD x (3 + c.toNat)) := rfl
    rw [← e] at hb
    exact trulyRow_in hv x l _ _ _ _ (fun d hd => hl d (List.mem_cons_of_mem _ hd)) (by show _ + _ + _ ≤ _; omega) (by show _ ≤ _ + _ + _; omega) (inS_set k _ (by show _ + _ + _ ≤ _; omega) (by show _ ≤ _ + _ + _; omega))
theorem trulyRows_in {h : DeH} (hv : DeValid h) (x : List Int) : ∀ (p : List (List Int)) (w : Nat) (a : List Int) (o : List (Int × Int)), w + p.length ≤ h.writers.length → (∀ l ∈ p, ∀ c ∈ l, c.toNat < h.customers.length) → InS a o → InS (trulyRows h x w p a) (sealRows h w p o)
  | [], _, _, _, _, _, k => k
  | l :: p, w, a, o, hw, hl, k => by
    rw [trulyRows, sealRows]
    rw [List.length_cons] at hw
    have hb := someN_bd (turnD x w) (hv.writer (w := w) (by omega)).2
    exact trulyRows_in hv x p _ _ _ (by omega) (fun m hm => hl m (List.mem_cons_of_mem _ hm)) (trulyRow_in hv x l _ _ _ _ (hl l (by simp)) hb.1 hb.2 k)
theorem plan_idx {h : DeH} {k : Nat} {p : List (List Int)} (hp : PlanOk h k p) : ∀ l ∈ p, ∀ c ∈ l, 0 ≤ c ∧ c < (k : Int) := fun l hl c hc => (hp.mem c).1 (List.mem_flatten.2 ⟨l, hl, hc⟩)
theorem truly_in {h : DeH} (hv : DeValid h) (x : List Int) {p : List (List Int)} (hp : PlanOk h h.customers.length p) : InS (trulyD h x p) (deSealed h p) := by
  refine trulyRows_in hv x p 0 _ _ (by rw [hp.len]; omega) (fun l hl c hc => by have := plan_idx hp l hl c hc; omega) ⟨by simp, fun i n t e1 e2 => ?_⟩
  rw [List.getElem?_replicate] at e1 e2
  split at e1
  · rename_i hi
    rw [if_pos hi] at e2
    cases e1; cases e2
    simp
  · cases e1

/-- What 'Best' says of a valid hall. -/
theorem best_cases {h : DeH} (he : deErr h = 0) : (deBest h = ([], 0, 9) ∧ ∀ p, PlanOk h h.customers.length p → deDoes h p ≠ 1) ∨
    ∃ q, deBest h = (q, deOver h q, 0) ∧ PlanOk h h.customers.length q ∧ deDoes h q = 1 ∧ ∀ p, PlanOk h h.customers.length p → deDoes h p = 1 → deOver h q < deOver h p ∨ (deOver h q = deOver h p ∧ beforeD p q = false) := by
  have hb := best_of h
  unfold deBest
  rw [if_pos he]
  cases e : bestD h with
  | none =>
    rw [e] at hb
    exact .inl ⟨rfl, fun p hp => hb p (mem_plans.2 hp)⟩
  | some qn =>
    obtain ⟨q, n⟩ := qn
    rw [e] at hb
    obtain ⟨b1, b2, rfl, b4⟩ := hb
    exact .inr ⟨q, rfl, mem_plans.1 b1, b2, fun p hp => b4 p (mem_plans.2 hp)⟩
theorem best_err {h : DeH} (he : deErr h ≠ 0) : deBest h = ([], 0, deErr h) := by unfold deBest; rw [if_neg he]
theorem plan_good {h : DeH} {p : List (List Int)} (he : deErr h = 0) (hp : PlanOk h h.customers.length p) : dePlanErr h p = 0 := plan_iff.2 ⟨he, hp⟩
theorem fate_good {h : DeH} {p : List (List Int)} (he : deErr h = 0) (hp : PlanOk h h.customers.length p) : deFate h p = (deDoes h p, 0) := by unfold deFate; rw [if_pos (plan_good he hp)]
theorem ends_good {h : DeH} {p : List (List Int)} (he : deErr h = 0) (hp : PlanOk h h.customers.length p) : deEnds h p = (deSealed h p, 0) := by unfold deEnds; rw [if_pos (plan_good he hp)]
/-- In any truth letters of a plan that surely does are in time, and no later than it is over. -/
theorem true_in_time {h : DeH} (he : deErr h = 0) (x : List Int) {p : List (List Int)} (hp : PlanOk h h.customers.length p) (hd : deDoes h p = 1) : ∀ i n, (trulyD h x p)[i]? = some n → n ≤ (customerAt h i).ship ∧ n ≤ deOver h p := fun i n e => by
  have hv := deValid_of he
  have hi := truly_in hv x hp
  have hlt : i < (deSealed h p).length := by have := (List.getElem?_eq_some_iff.1 e).1; rw [hi.1] at this; exact this
  have es := List.getElem?_eq_getElem hlt
  have h1 := hi.2 i n _ e es
  have h2 := (does_hi hv hp).1 hd i _ es
  have h3 := (over_is h p).2.1 _ (List.getElem_mem hlt)
  omega
theorem does_vals (h : DeH) : ∀ (L : List (Int × Int)) (c : Nat) (out : Int), out = 0 ∨ out = 1 → doesFrom h c L out = 0 ∨ doesFrom h c L out = 1 ∨ doesFrom h c L out = 2
  | [], _, out, ho => by rw [doesFrom]; omega
  | s :: L, c, out, ho => by
    rw [doesFrom]
    split
    · omega
    · exact does_vals h L _ _ (by split <;> omega)
theorem does_never (h : DeH) : ∀ (L : List (Int × Int)) (c : Nat) (out : Int), out = 0 ∨ out = 1 → (doesFrom h c L out = 2 ↔ ∃ i s, L[i]? = some s ∧ (customerAt h (c + i)).ship < s.1)
  | [], _, out, ho => by
    rw [doesFrom]
    constructor
    · omega
    · rintro ⟨i, s, e, _⟩; cases e
  | s :: L, c, out, ho => by
    rw [doesFrom]
    by_cases hs : (customerAt h c).ship < s.1
    · rw [if_pos hs]
      exact ⟨fun _ => ⟨0, s, rfl, hs⟩, fun _ => rfl⟩
    · rw [if_neg hs, does_never h L _ _ (by split <;> omega)]
      constructor
      · rintro ⟨i, t, e, ht⟩
        exact ⟨i + 1, t, by simpa using e, by rw [show c + (i + 1) = c + 1 + i by omega]; exact ht⟩
      · rintro ⟨i, t, e, ht⟩
        cases i with
        | zero => cases e; exact absurd ht hs
        | succ i => exact ⟨i, t, by simpa using e, by rw [show c + 1 + i = c + (i + 1) by omega]; exact ht⟩
theorem deDoes_vals (h : DeH) (p : List (List Int)) : deDoes h p = 0 ∨ deDoes h p = 1 ∨ deDoes h p = 2 := does_vals h _ 0 1 (.inr rfl)
theorem deDoes_never (h : DeH) (p : List (List Int)) : deDoes h p = 2 ↔ ∃ i s, (deSealed h p)[i]? = some s ∧ (customerAt h i).ship < s.1 := by
  have := does_never h (deSealed h p) 0 1 (.inr rfl)
  simp only [Nat.zero_add] at this
  exact this

/-- The first letter that may be late, of those looked at. -/
def LateInv (h : DeH) (S : List (Int × Int)) (out : Option Nat) : Prop := match out with
  | none => ∀ i s, S[i]? = some s → s.2 ≤ (customerAt h i).ship
  | some f => (∃ s, S[f]? = some s ∧ (customerAt h f).ship < s.2) ∧ ∀ i s, S[i]? = some s → (customerAt h i).ship < s.2 → (customerAt h f).ship < (customerAt h i).ship ∨ ((customerAt h f).ship = (customerAt h i).ship ∧ f ≤ i)
theorem snoc_get {α : Type} {S : List α} {x y : α} {i : Nat} (e : (S ++ [x])[i]? = some y) : (i < S.length ∧ S[i]? = some y) ∨ (i = S.length ∧ y = x) := by
  rcases Nat.lt_trichotomy i S.length with h | h | h
  · rw [List.getElem?_append_left h] at e; exact .inl ⟨h, e⟩
  · subst h; rw [List.getElem?_append_right (Nat.le_refl _), Nat.sub_self] at e; cases e; exact .inr ⟨rfl, rfl⟩
  · rw [List.getElem?_eq_none (by simp; omega)] at e; cases e
def lateB (h : DeH) (c : Nat) : Option Nat → Bool
  | none => true
  | some f => decide ((customerAt h c).ship < (customerAt h f).ship)
def lateStep (h : DeH) (c : Nat) (s : Int × Int) (out : Option Nat) : Option Nat := if decide ((customerAt h c).ship < s.2) && lateB h c out then some c else out
theorem lateFrom_cons (h : DeH) (c : Nat) (s : Int × Int) (L : List (Int × Int)) (out : Option Nat) : lateFrom h c (s :: L) out = lateFrom h (c + 1) L (lateStep h c s out) := by cases out <;> rfl
theorem late_inv (h : DeH) : ∀ (L S : List (Int × Int)) (out : Option Nat), LateInv h S out → LateInv h (S ++ L) (lateFrom h S.length L out)
  | [], S, out, k => by rw [List.append_nil]; exact k
  | s :: L, S, out, k => by
    rw [lateFrom_cons]
    have e : S ++ s :: L = (S ++ [s]) ++ L := by simp
    have el : S.length + 1 = (S ++ [s]).length := by simp
    rw [e, el]
    refine late_inv h L (S ++ [s]) _ ?_
    unfold lateStep
    by_cases hs : (customerAt h S.length).ship < s.2
    · cases out with
      | none =>
        have hc : (decide ((customerAt h S.length).ship < s.2) && lateB h S.length none) = true := by simpa [lateB] using hs
        rw [if_pos hc]
        refine ⟨⟨s, by simp, hs⟩, fun i t ei hi => ?_⟩
        rcases snoc_get ei with ⟨h1, h2⟩ | ⟨h1, h2⟩
        · have := k i t h2; omega
        · subst h1; omega
      | some f =>
        obtain ⟨⟨t0, ht0, hf⟩, hall⟩ := k
        have hfl := (List.getElem?_eq_some_iff.1 ht0).1
        by_cases hb : (customerAt h S.length).ship < (customerAt h f).ship
        · have hc : (decide ((customerAt h S.length).ship < s.2) && lateB h S.length (some f)) = true := by simp [lateB, hs, hb]
          rw [if_pos hc]
          refine ⟨⟨s, by simp, hs⟩, fun i t ei hi => ?_⟩
          rcases snoc_get ei with ⟨h1, h2⟩ | ⟨h1, h2⟩
          · have := hall i t h2 hi; omega
          · subst h1; omega
        · have hc : ¬ (decide ((customerAt h S.length).ship < s.2) && lateB h S.length (some f)) = true := by simp [lateB, hb]
          rw [if_neg hc]
          refine ⟨⟨t0, by rw [List.getElem?_append_left hfl]; exact ht0, hf⟩, fun i t ei hi => ?_⟩
          rcases snoc_get ei with ⟨h1, h2⟩ | ⟨h1, h2⟩
          · exact hall i t h2 hi
          · subst h1; omega
    · have hc : ¬ (decide ((customerAt h S.length).ship < s.2) && lateB h S.length out) = true := by simp [hs]
      rw [if_neg hc]
      cases out with
      | none =>
        intro i t ei
        rcases snoc_get ei with ⟨h1, h2⟩ | ⟨h1, h2⟩
        · exact k i t h2
        · subst h1; subst h2; omega
      | some f =>
        obtain ⟨⟨t0, ht0, hf⟩, hall⟩ := k
        have hfl := (List.getElem?_eq_some_iff.1 ht0).1
        refine ⟨⟨t0, by rw [List.getElem?_append_left hfl]; exact ht0, hf⟩, fun i t ei hi => ?_⟩
        rcases snoc_get ei with ⟨h1, h2⟩ | ⟨h1, h2⟩
        · exact hall i t h2 hi
        · subst h1; subst h2; omega
theorem late_spec (h : DeH) (p : List (List Int)) : LateInv h (deSealed h p) (lateFrom h 0 (deSealed h p) none) := by
  have := late_inv h (deSealed h p) [] none (fun i s e => by cases e)
  simpa using this
end Go.Proofs.Ytchnpekgmkhacaa
namespace Go.Proofs.Ytchnpekgmkhacaa

def sumF (f : Int → Int) : List Int → Int
  | [] => 0
  | c :: l => f c + sumF f l
theorem sumF_append (f : Int → Int) : ∀ a b : List Int, sumF f (a ++ b) = sumF f a + sumF f b
  | [], b => by simp [sumF]
  | c :: a, b => by
    show f c + sumF f (a ++ b) = f c + sumF f a + sumF f b
    rw [sumF_append f a b]; omega
theorem sumF_perm (f : Int → Int) {a b : List Int} (h : a.Perm b) : sumF f a = sumF f b := by
  induction h with
  | nil => rfl
  | cons x _ ih => show f x + _ = f x + _; omega
  | swap x y l => show f y + (f x + _) = f x + (f y + _); omega
  | trans _ _ h1 h2 => omega
theorem sumF_nonneg (f : Int → Int) : ∀ l : List Int, (∀ c ∈ l, 0 ≤ f c) → 0 ≤ sumF f l
  | [], _ => Int.le_refl _
  | c :: l, h => by
    have h1 := h c (by simp)
    have h2 := sumF_nonneg f l fun x hx => h x (List.mem_cons_of_mem _ hx)
    show 0 ≤ f c + sumF f l
    omega
theorem sumF_filter (f : Int → Int) (P : Int → Bool) : ∀ l : List Int, (∀ c ∈ l, 0 ≤ f c) → sumF f (l.filter P) ≤ sumF f l
  | [], _ => Int.le_refl _
  | c :: l, h => by
    have h1 := h c (by simp)
    have h2 := sumF_filter f P l fun x hx => h x (List.mem_cons_of_mem _ hx)
    rw [List.filter_cons]
    split
    · show f c + _ ≤ f c + _; omega
    · show _ ≤ f c + _; omega
/-- All of a list are done by their ends. -/
def okT (f d : Int → Int) (t : Int) (l : List Int) : Prop := ∀ a c b, l = a ++ c :: b → t + sumF f (a ++ [c]) ≤ d c
theorem last_split (P : Int → Bool) : ∀ l : List Int, (∀ x ∈ l, P x = false) ∨ ∃ a e b, l = a ++ e :: b ∧ P e = true ∧ ∀ x ∈ b, P x = false
  | [] => .inl fun x hx => by cases hx
  | x :: l => by
    rcases last_split P l with h | ⟨a, e, b, rfl, h1, h2⟩
    · cases hx : P x with
      | true => exact .inr ⟨[], x, l, rfl, hx, h⟩
      | false =>
        refine .inl fun y hy => ?_
        rcases List.mem_cons.1 hy with rfl | hy
        · exact hx
        · exact h y hy
    · exact .inr ⟨x :: a, e, b, rfl, h1, h2⟩
theorem filter_none {P : Int → Bool} {l : List Int} (h : ∀ x ∈ l, P x = false) : l.filter P = [] := by
  rw [List.filter_eq_nil_iff]
  intro x hx
  rw [h x hx]; simp
theorem edf {f d : Int → Int} {t : Int} {l m : List Int} (hf : ∀ c ∈ l, 0 ≤ f c) (h : okT f d t l) (hp : l.Perm m) (hs : m.Pairwise fun a b => d a ≤ d b) : okT f d t m := by
  rintro a c b rfl
  have hfm : ∀ x ∈ a ++ c :: b, 0 ≤ f x := fun x hx => hf x (hp.mem_iff.2 hx)
  have hac : ∀ x ∈ a ++ [c], decide (d x ≤ d c) = true := fun x hx => by
    rcases List.mem_append.1 hx with h1 | h1
    · exact decide_eq_true ((List.pairwise_append.1 hs).2.2 x h1 c (by simp))
    · rw [List.mem_singleton] at h1; subst h1; simp
  have e1 : (a ++ c :: b).filter (fun x => decide (d x ≤ d c)) = (a ++ [c]) ++ b.filter fun x => decide (d x ≤ d c) := by
    rw [show a ++ c :: b = (a ++ [c]) ++ b by simp, List.filter_append, List.filter_eq_self.2 hac]
  have h1 : sumF f (a ++ [c]) ≤ sumF f (l.filter fun x => decide (d x ≤ d c)) := by
    rw [sumF_perm f (hp.filter _), e1, sumF_append f (a ++ [c])]
    have := sumF_nonneg f (b.filter fun x => decide (d x ≤ d c)) fun x hx => hfm x (by have := (List.mem_filter.1 hx).1; simp [this])
    omega
  have hcl : c ∈ l := hp.mem_iff.2 (by simp)
  rcases last_split (fun x => decide (d x ≤ d c)) l with hn | ⟨a', e, b', rfl, he, hb⟩
  · have := hn c hcl
    simp at this
  · have h2 := h a' e b' rfl
    have h3 : (a' ++ e :: b').filter (fun x => decide (d x ≤ d c)) = (a' ++ [e]).filter fun x => decide (d x ≤ d c) := by
      rw [show a' ++ e :: b' = (a' ++ [e]) ++ b' by simp, List.filter_append, filter_none hb, List.append_nil]
    rw [h3] at h1
    have h4 := sumF_filter f (fun x => decide (d x ≤ d c)) (a' ++ [e]) fun x hx => hf x (by
      rcases List.mem_append.1 hx with g | g
      · simp [g]
      · rw [List.mem_singleton] at g; simp [g])
    have h5 := of_decide_eq_true he
    omega
def gHi (h : DeH) (c : Int) : Int := (customerAt h c.toNat).hi + h.wax
def gLo (h : DeH) (c : Int) : Int := (customerAt h c.toNat).lo + h.wax
def shipD (h : DeH) (c : Int) : Int := (customerAt h c.toNat).ship
theorem timeD_sum (h : DeH) : ∀ (l : List Int) (t : Int), timeD h t l = t + sumF (gHi h) l
  | [], t => by simp [timeD, sumF]
  | c :: l, t => by
    rw [timeD, timeD_sum h l]
    show _ = t + (gHi h c + _)
    unfold gHi; omega
theorem spanD_lo (h : DeH) : ∀ (l : List Int) (s : Int × Int), (spanD h s l).1 = s.1 + sumF (gLo h) l
  | [], s => by simp [spanD, sumF]
  | c :: l, s => by
    rw [spanD, spanD_lo h l]
    show s.1 + _ + _ + _ = s.1 + (gLo h c + _)
    unfold gLo; omega
theorem inTime_ok {h : DeH} {l : List Int} {t : Int} : inTime h t l ↔ okT (gHi h) (shipD h) t l := by
  rw [inTime_iff]
  unfold okT
  simp only [timeD_sum]
  rfl
theorem never_ok {h : DeH} {p : List (List Int)} (hp : PlanOk h h.customers.length p) : deDoes h p ≠ 2 ↔ ∀ w l, p[w]? = some l → okT (gLo h) (shipD h) (writerAt h w).lo l := by
  rw [Ne, deDoes_never]
  constructor
  · rintro hn w l hw a c b rfl
    have hs := sealed_at hp hw
    have e := spanD_lo h (a ++ [c]) ((writerAt h w).lo, (writerAt h w).hi)
    rw [← show (spanD h ((writerAt h w).lo, (writerAt h w).hi) (a ++ [c])).1 = (writerAt h w).lo + sumF (gLo h) (a ++ [c]) from e]
    have : ¬ (customerAt h c.toNat).ship < (spanD h ((writerAt h w).lo, (writerAt h w).hi) (a ++ [c])).1 := fun hh => hn ⟨_, _, hs, hh⟩
    show _ ≤ (customerAt h c.toNat).ship
    omega
  · rintro hall ⟨i, s, hs, hlt⟩
    have hi : i < h.customers.length := by have := (List.getElem?_eq_some_iff.1 hs).1; rwa [sealed_len] at this
    obtain ⟨w, a, b, hw, hpw⟩ := plan_has hp hi
    have e := sealed_at hp hpw
    rw [Int.toNat_natCast, hs] at e
    have e2 := Option.some.inj e
    have h1 := hall w _ hpw a (i : Int) b rfl
    have h2 := spanD_lo h (a ++ [(i : Int)]) ((writerAt h w).lo, (writerAt h w).hi)
    rw [← e2] at h2
    have h3 : shipD h (i : Int) = (customerAt h i).ship := by unfold shipD; rw [Int.toNat_natCast]
    rw [h3] at h1
    simp only at h2
    omega

/-- Where a customer is put in a list, by the ships. -/
def posTo (h : DeH) (l : List Int) (c : Int) : Nat → Nat
  | 0 => 0
  | k + 1 => if shipD h c < shipD h (l[k]?.getD 0) then posTo h l c k else k + 1
def putC (h : DeH) (l : List Int) (c : Int) : List Int := l.take (posTo h l c l.length) ++ c :: l.drop (posTo h l c l.length)
def byTo (h : DeH) (l : List Int) (k : Nat) : List Int := (l.take k).foldl (putC h) []
def byRow (h : DeH) (l : List Int) : List Int := l.foldl (putC h) []
def byPlan (h : DeH) (p : List (List Int)) : List (List Int) := p.map (byRow h)
theorem posTo_spec (h : DeH) (l : List Int) (c : Int) : ∀ n, n ≤ l.length → posTo h l c n ≤ n ∧ (∀ j (hj : j < l.length), posTo h l c n ≤ j → j < n → shipD h c < shipD h l[j]) ∧ (posTo h l c n = 0 ∨ ∃ j, ∃ hj : j < l.length, posTo h l c n = j + 1 ∧ shipD h l[j] ≤ shipD h c)
  | 0, _ => ⟨Nat.le_refl _, fun j _ _ h2 => absurd h2 (Nat.not_lt_zero _), .inl rfl⟩
  | n + 1, hn => by
    have hlt : n < l.length := by omega
    have e : l[n]?.getD 0 = l[n] := by rw [List.getElem?_eq_getElem hlt]; rfl
    obtain ⟨h1, h2, h3⟩ := posTo_spec h l c n (by omega)
    rw [posTo, e]
    by_cases hs : shipD h c < shipD h l[n]
    · rw [if_pos hs]
      refine ⟨by omega, fun j hj a b => ?_, h3⟩
      by_cases hjn : j = n
      · subst hjn; exact hs
      · exact h2 j hj a (by omega)
    · rw [if_neg hs]
      exact ⟨Nat.le_refl _, fun j hj a b => absurd a (by omega), .inr ⟨n, hlt, rfl, by omega⟩⟩
def sortedD (h : DeH) (l : List Int) : Prop := l.Pairwise fun a b => shipD h a ≤ shipD h b
theorem putC_perm (h : DeH) (l : List Int) (c : Int) : (putC h l c).Perm (c :: l) := by
  unfold putC
  refine List.perm_middle.trans ?_
  rw [List.take_append_drop]
theorem putC_sorted {h : DeH} {l : List Int} (hs : sortedD h l) (c : Int) : sortedD h (putC h l c) := by
  obtain ⟨h1, h2, h3⟩ := posTo_spec h l c l.length (Nat.le_refl _)
  unfold putC
  generalize posTo h l c l.length = k at h1 h2 h3
  have hlow : ∀ x ∈ l.take k, shipD h x ≤ shipD h c := fun x hx => by
    obtain ⟨i, hi, rfl⟩ := List.getElem_of_mem hx
    rw [List.length_take] at hi
    rw [List.getElem_take]
    rcases h3 with h0 | ⟨j, hj, e, hle⟩
    · omega
    · by_cases hij : i = j
      · subst hij; exact hle
      · have := List.pairwise_iff_getElem.1 hs i j (by omega) hj (by omega)
        omega
  have hhigh : ∀ x ∈ l.drop k, shipD h c ≤ shipD h x := fun x hx => by
    obtain ⟨i, hi, rfl⟩ := List.getElem_of_mem hx
    rw [List.length_drop] at hi
    rw [List.getElem_drop]
    have := h2 (k + i) (by omega) (by omega) (by omega)
    omega
  have hsplit : (l.take k ++ l.drop k).Pairwise fun a b => shipD h a ≤ shipD h b := by rw [List.take_append_drop]; exact hs
  obtain ⟨s1, s2, s3⟩ := List.pairwise_append.1 hsplit
  refine List.pairwise_append.2 ⟨s1, List.pairwise_cons.2 ⟨hhigh, s2⟩, fun a ha b hb => ?_⟩
  rcases List.mem_cons.1 hb with rfl | hb
  · exact hlow a ha
  · exact s3 a ha b hb
theorem fold_put (h : DeH) : ∀ (l a : List Int), sortedD h a → sortedD h (l.foldl (putC h) a) ∧ (l.foldl (putC h) a).Perm (l ++ a)
  | [], a, hs => ⟨hs, List.Perm.refl _⟩
  | c :: l, a, hs => by
    rw [List.foldl_cons]
    obtain ⟨h1, h2⟩ := fold_put h l (putC h a c) (putC_sorted hs c)
    refine ⟨h1, h2.trans ?_⟩
    refine ((putC_perm h a c).append_left l).trans ?_
    exact List.perm_middle
theorem byRow_spec (h : DeH) (l : List Int) : sortedD h (byRow h l) ∧ (byRow h l).Perm l := by
  have := fold_put h l [] List.Pairwise.nil
  rw [List.append_nil] at this
  exact this
theorem byTo_succ (h : DeH) (l : List Int) (k : Nat) (hk : k < l.length) : byTo h l (k + 1) = putC h (byTo h l k) l[k] := by
  unfold byTo
  rw [List.take_succ_eq_append_getElem hk, List.foldl_append]
  rfl
theorem byTo_all (h : DeH) (l : List Int) : byTo h l l.length = byRow h l := by unfold byTo byRow; rw [List.take_length]
theorem byTo_len (h : DeH) (l : List Int) (k : Nat) : (byTo h l k).length = min k l.length := by
  have := (fold_put h (l.take k) [] List.Pairwise.nil).2.length_eq
  rw [List.append_nil, List.length_take] at this
  exact this
theorem byPlan_flat (h : DeH) : ∀ p : List (List Int), ((byPlan h p).flatten).Perm p.flatten
  | [] => List.Perm.refl _
  | l :: p => by
    show (byRow h l ++ (byPlan h p).flatten).Perm (l ++ p.flatten)
    exact (byRow_spec h l).2.append (byPlan_flat h p)
theorem byPlan_ok {h : DeH} {k : Nat} {p : List (List Int)} (hp : PlanOk h k p) : PlanOk h k (byPlan h p) := by
  have hf := byPlan_flat h p
  refine ⟨by unfold byPlan; rw [List.length_map]; exact hp.len, hf.nodup_iff.2 hp.nodup, fun c => hf.mem_iff.trans (hp.mem c), fun w l hw c hc => ?_⟩
  unfold byPlan at hw
  rw [List.getElem?_map] at hw
  obtain ⟨m, hm, rfl⟩ := Option.map_eq_some_iff.1 hw
  exact hp.can w m hm c ((byRow_spec h m).2.mem_iff.1 hc)
theorem ships_plain {h : DeH} (hv : DeValid h) {p : List (List Int)} (hp : PlanOk h h.customers.length p) : (deDoes h p = 1 → deDoes h (byPlan h p) = 1) ∧ (deDoes h (byPlan h p) = 2 → deDoes h p = 2) := by
  have hb := byPlan_ok hp
  have hx := hv.wax
  have hrow : ∀ w l, (byPlan h p)[w]? = some l → ∃ m : List Int, p[w]? = some m ∧ sortedD h l ∧ m.Perm l ∧ ∀ c ∈ m, 0 ≤ gHi h c ∧ 0 ≤ gLo h c := fun w l hw => by
    unfold byPlan at hw
    rw [List.getElem?_map] at hw
    obtain ⟨m, hm, rfl⟩ := Option.map_eq_some_iff.1 hw
    refine ⟨m, hm, (byRow_spec h m).1, (byRow_spec h m).2.symm, fun c hc => ?_⟩
    have := plan_idx hp m (List.mem_of_getElem? hm) c hc
    have := hv.cust (c := c.toNat) (by omega)
    unfold gHi gLo
    omega
  refine ⟨fun hd => ?_, fun hd => ?_⟩
  · refine (must_iff hv hb).2 fun w l hw => ?_
    obtain ⟨m, hm, h1, h2, h3⟩ := hrow w l hw
    exact inTime_ok.2 (edf (fun c hc => (h3 c hc).1) (inTime_ok.1 ((must_iff hv hp).1 hd w m hm)) h2 h1)
  · by_cases hn : deDoes h p = 2
    · exact hn
    · exfalso
      refine (never_ok hb).2 (fun w l hw => ?_) hd
      obtain ⟨m, hm, h1, h2, h3⟩ := hrow w l hw
      exact edf (fun c hc => (h3 c hc).2) ((never_ok hp).1 hn w m hm) h2 h1
end Go.Proofs.Ytchnpekgmkhacaa
namespace Go.Proofs.Ytchnpekgmkhacaa

/-- Names in order: each well formed, none twice. -/
def namesOk (l : List ByteArray) : Prop := ∀ i (hi : i < l.length), fresh l[i] (l.take i) = 0
theorem deErr_iff {h : DeH} : deErr h = 0 ↔ DeValid h ∧ namesOk (h.writers.map (·.name)) ∧ namesOk (h.customers.map (·.name)) := by
  constructor
  · intro he
    refine ⟨deValid_of he, ?_⟩
    unfold deErr deCheck at he
    by_cases h0 : inB h.wax 0 5 = true
    · rw [if_pos h0] at he
      obtain ⟨w1, w2, he⟩ := checkPart_zero he
      obtain ⟨c1, c2, _⟩ := checkPart_zero he
      constructor
      · intro i hi
        have hi2 : i < h.writers.length := by simpa using hi
        have := w2 i hi2
        unfold deWErr at this
        rw [List.getElem?_eq_getElem hi2] at this
        simp only at this
        rw [List.getElem_map, ← List.map_take]
        by_cases hf : fresh h.writers[i].name ((h.writers.take i).map (·.name)) = 0
        · exact hf
        · rw [if_neg hf] at this; exact absurd this hf
      · intro i hi
        have hi2 : i < h.customers.length := by simpa using hi
        have := c2 i hi2
        unfold deCErr at this
        rw [List.getElem?_eq_getElem hi2] at this
        simp only at this
        rw [List.getElem_map, ← List.map_take]
        by_cases hf : fresh h.customers[i].name ((h.customers.take i).map (·.name)) = 0
        · exact hf
        · rw [if_neg hf] at this; exact absurd this hf
    · rw [if_neg h0] at he; simp at he
  · rintro ⟨hv, hw, hc⟩
    have e1 : ∀ i, i < h.writers.length → deWErr h i = 0 := fun i hi => by
      have := hw i (by simpa using hi)
      rw [List.getElem_map, ← List.map_take] at this
      unfold deWErr
      rw [List.getElem?_eq_getElem hi]
      simp only
      rw [if_pos this]
      have k := hv.w i hi
      unfold deWErrOf endsE
      rw [if_pos (inB_iff.2 ⟨k.1, k.2.1⟩), if_pos (by rw [Bool.and_eq_true, inB_iff, inB_iff]; omega), if_neg (by omega)]
    have e2 : ∀ i, i < h.customers.length → deCErr h i = 0 := fun i hi => by
      have := hc i (by simpa using hi)
      rw [List.getElem_map, ← List.map_take] at this
      unfold deCErr
      rw [List.getElem?_eq_getElem hi]
      simp only
      rw [if_pos this]
      have k := hv.c i hi
      unfold deCErrOf endsE
      rw [if_pos (by rw [Bool.and_eq_true, inB_iff, inB_iff]; omega), if_pos (by rw [Bool.and_eq_true, inB_iff, inB_iff]; omega), if_neg (by omega)]
    unfold deErr deCheck
    rw [if_pos (inB_iff.2 hv.wax), checkPart_ok hv.nw e1, checkPart_ok hv.nc e2]
theorem map_modify_same {α β : Type} (f : α → β) (g : α → α) (h : ∀ x, f (g x) = f x) (l : List α) (i : Nat) : (l.modify i g).map f = l.map f := by
  apply List.ext_getElem?
  intro j
  rw [List.getElem?_map, List.getElem?_map, List.getElem?_modify]
  cases l[j]? with
  | none => rfl
  | some x =>
    by_cases e : i = j
    · simp [e, h]
    · simp [e]
theorem ship_err {h : DeH} (he : deErr h = 0) (c : Nat) {m : Int} (h0 : 0 ≤ m) (h1 : m ≤ 240) : deErr (shippedD h c m) = 0 := by
  obtain ⟨hv, a, b⟩ := deErr_iff.1 he
  refine deErr_iff.2 ⟨ship_valid hv h0 h1, a, ?_⟩
  have : (shippedD h c m).customers.map (·.name) = h.customers.map (·.name) := map_modify_same (fun x : DeC => x.name) (fun x => { x with ship := m }) (fun _ => rfl) h.customers c
  rw [this]
  exact b

/-- 'Best' has a plan just if there is one that surely does. -/
theorem best_some_iff {h : DeH} (he : deErr h = 0) : (someD h = true ∧ ∃ q, deBest h = (q, deOver h q, 0) ∧ PlanOk h h.customers.length q ∧ deDoes h q = 1) ∨ (someD h = false ∧ deBest h = ([], 0, 9)) := by
  rcases best_cases he with ⟨e, hno⟩ | ⟨q, e, hq, hd, _⟩
  · refine .inr ⟨?_, e⟩
    unfold someD
    rw [List.any_eq_false]
    intro p hp
    rw [decide_eq_true_eq]
    exact hno p (mem_plans.1 hp)
  · refine .inl ⟨?_, q, e, hq, hd⟩
    unfold someD
    rw [List.any_eq_true]
    exact ⟨q, mem_plans.2 hq, decide_eq_true hd⟩

theorem least_nat (P : Nat → Prop) [DecidablePred P] : ∀ n, P n → ∃ m, m ≤ n ∧ P m ∧ (0 < m → ¬ P (m - 1))
  | 0, h => ⟨0, Nat.le_refl _, h, fun h => absurd h (Nat.lt_irrefl _)⟩
  | n + 1, h => by
    by_cases hp : P n
    · obtain ⟨m, h1, h2, h3⟩ := least_nat P n hp
      exact ⟨m, by omega, h2, h3⟩
    · exact ⟨n + 1, Nat.le_refl _, h, fun _ => hp⟩
theorem later_cases {h : DeH} (he : deErr h = 0) {c : Nat} (hc : c < h.customers.length) :
    (deLater h (c : Int) = (0, 9) ∧ someD (shippedD h c 240) = false) ∨
    ∃ n : Int, deLater h (c : Int) = (n, 0) ∧ 0 ≤ n ∧ n ≤ 240 - (customerAt h c).ship ∧ someD (shippedD h c ((customerAt h c).ship + n)) = true ∧ (n ≠ 0 → someD (shippedD h c ((customerAt h c).ship + n - 1)) = false) := by
  have hv := deValid_of he
  have hs : 0 ≤ (customerAt h c).ship ∧ (customerAt h c).ship ≤ 240 := by
    have := hv.c c hc
    rw [show customerAt h c = h.customers[c] from by unfold customerAt; rw [List.getElem?_eq_getElem hc]; rfl]
    omega
  cases hd : doesAt h c 240 with
  | false => exact .inl ⟨later_never he hc hd, by rw [← doesAt_some hv (by decide) (by decide)]; exact hd⟩
  | true =>
    obtain ⟨m, h1, h2, h3⟩ := least_nat (fun k => doesAt h c ((customerAt h c).ship + (k : Int)) = true) (240 - (customerAt h c).ship).toNat (by
      show doesAt h c _ = true
      rw [show (customerAt h c).ship + (((240 - (customerAt h c).ship).toNat : Nat) : Int) = 240 by omega]; exact hd)
    refine .inr ⟨(m : Int), ?_, by omega, by omega, ?_, fun hn => ?_⟩
    · have := later_is he hc (m := (customerAt h c).ship + (m : Int)) (by omega) (by omega) h2 (fun hlt => by
        have := h3 (by omega)
        rw [show (customerAt h c).ship + (m : Int) - 1 = (customerAt h c).ship + ((m - 1 : Nat) : Int) by omega]
        simpa using this)
      rw [this]
      exact Prod.ext (by show _ - _ = _; omega) rfl
    · rw [← doesAt_some hv (by omega) (by omega)]; exact h2
    · have := h3 (by omega)
      rw [← doesAt_some hv (by omega) (by omega), show (customerAt h c).ship + (m : Int) - 1 = (customerAt h c).ship + ((m - 1 : Nat) : Int) by omega]
      simpa using this

/-- All writers, no customer sent away: the hall as it is. -/
theorem only_all (h : DeH) : onlyD h ((List.range h.writers.length).map fun (i : Nat) => (i : Int)) = h := by
  unfold onlyD
  rw [List.map_map]
  have : (List.range h.writers.length).map ((fun i : Int => writerAt h i.toNat) ∘ fun (i : Nat) => (i : Int)) = h.writers := by
    apply List.ext_getElem?
    intro i
    rw [List.getElem?_map]
    by_cases hi : i < h.writers.length
    · rw [List.getElem?_range hi, List.getElem?_eq_getElem hi]
      show some (writerAt h (i : Int).toNat) = _
      rw [Int.toNat_natCast]
      unfold writerAt
      rw [List.getElem?_eq_getElem hi]; rfl
    · rw [List.getElem?_eq_none (by simp; omega), List.getElem?_eq_none (by omega)]; rfl
  rw [this]
theorem but_none (h : DeH) : butD h [] = h := by
  unfold butD
  have : (List.range h.customers.length).filterMap (fun (i : Nat) => if hasB [] (i : Int) then none else h.customers[i]?) = h.customers := by
    have e := but_customers h 0
    have hb : bitsList 0 h.customers.length = [] := by unfold bitsList; rw [List.filter_eq_nil_iff.2 (by simp)]; rfl
    rw [hb] at e
    have e2 : (stayOf 0 h.customers.length).map (customerAt h) = h.customers := by
      have : stayOf 0 h.customers.length = List.range h.customers.length := by unfold stayOf; exact List.filter_eq_self.2 (by simp)
      rw [this]
      apply List.ext_getElem?
      intro i
      rw [List.getElem?_map]
      by_cases hi : i < h.customers.length
      · rw [List.getElem?_range hi, List.getElem?_eq_getElem hi]
        show some (customerAt h i) = _
        unfold customerAt
        rw [List.getElem?_eq_getElem hi]; rfl
      · rw [List.getElem?_eq_none (by simp; omega), List.getElem?_eq_none (by omega)]; rfl
    exact e.trans e2
  rw [this]
theorem incr_range (n : Nat) : incr n ((List.range n).map fun (i : Nat) => (i : Int)) := by
  refine ⟨?_, fun x hx => ?_⟩
  · rw [List.pairwise_map]
    exact List.Pairwise.imp (fun h => by omega) List.pairwise_lt_range
  · obtain ⟨i, hi, rfl⟩ := List.mem_map.1 hx
    have := List.mem_range.1 hi
    omega
/-- With more writers there still is a plan. -/
theorem some_of_only {h : DeH} (hv : DeValid h) {l : List Int} (hl : incr h.writers.length l) (hs : someD (onlyD h l) = true) : someD h = true := by
  rw [← setOf_bits hl, some_only hv, decide_eq_true_eq, someM_iff hv.nw (pow_pred _)] at hs
  obtain ⟨p, hp, ht⟩ := hs
  rw [some_full hv, decide_eq_true_eq, someM_iff hv.nw (pow_pred _)]
  refine ⟨p, ⟨hp.len, hp.nodup, hp.mem, fun w m hw c hc => ⟨?_, (hp.can w m hw c hc).2⟩⟩, ht⟩
  have := (List.getElem?_eq_some_iff.1 hw).1
  rw [full_bit, decide_eq_true_eq]
  have := hp.len
  omega
/-- Who is sent away. -/
theorem away_plain {h : DeH} (he : deErr h = 0) : ∃ k, deAway h = (k, 0) ∧ incr h.customers.length k ∧ someD (butD h k) = true ∧ ∀ y, incr h.customers.length y → (someD (butD h y) && fewer y k) = false := by
  obtain ⟨⟨⟨h1, h2⟩, h3⟩, h4⟩ := away_first he
  refine ⟨(deAway h).1, Prod.ext rfl h4, h1, h2, fun y hy => ?_⟩
  cases hs : someD (butD h y) with
  | false => rfl
  | true =>
    rcases h3 y ⟨hy, hs⟩ with rfl | hf
    · exact fewer_irrefl _
    · exact fewer_asymm hf
/-- Who is enough. -/
theorem enough_plain {h : DeH} (he : deErr h = 0) : (deEnough h = ([], 9) ∧ (∀ y, incr h.writers.length y → someD (onlyD h y) = false) ∧ 0 < (deAway h).1.length) ∨
    ∃ l, deEnough h = (l, 0) ∧ incr h.writers.length l ∧ someD (onlyD h l) = true ∧ (deAway h).1 = [] ∧ ∀ y, incr h.writers.length y → (someD (onlyD h y) && fewer y l) = false := by
  have hv := deValid_of he
  obtain ⟨s1, s2⟩ := first_all (fun l => someD (onlyD h l)) h.writers.length
  obtain ⟨k, a1, a2, a3, a4⟩ := away_plain he
  unfold deEnough
  rw [if_pos he]
  cases hs : searchFrom (fun l => someD (onlyD h l)) (h.writers.length : Int) 0 (h.writers.length + 1) with
  | none =>
    refine .inl ⟨rfl, s2 hs, ?_⟩
    rw [a1]
    rcases Nat.eq_zero_or_pos k.length with h0 | h0
    · have := List.length_eq_zero_iff.1 h0
      subst this
      have e := s2 hs _ (incr_range _)
      simp only [only_all] at e
      rw [but_none] at a3
      rw [e] at a3; cases a3
    · exact h0
  | some l =>
    obtain ⟨⟨f1, f2⟩, f3⟩ := s1 l hs
    refine .inr ⟨l, rfl, f1, f2, ?_, fun y hy => ?_⟩
    · have := a4 [] (incr_nil _)
      rw [but_none, some_of_only hv f1 f2, Bool.true_and] at this
      rw [a1]
      unfold fewer at this
      by_cases h0 : k.length = 0
      · exact List.length_eq_zero_iff.1 h0
      · rw [if_neg (by simp; omega)] at this
        simp at this
        omega
    · cases hs2 : someD (onlyD h y) with
      | false => rfl
      | true =>
        rcases f3 y ⟨hy, hs2⟩ with rfl | hf
        · exact fewer_irrefl _
        · exact fewer_asymm hf
theorem enough_bad {h : DeH} (he : deErr h ≠ 0) : deEnough h = ([], deErr h) := by unfold deEnough; rw [if_neg he]
theorem away_bad {h : DeH} (he : deErr h ≠ 0) : deAway h = ([], deErr h) := by unfold deAway; rw [if_neg he]
theorem ends_bad {h : DeH} (he : deErr h ≠ 0) (p : List (List Int)) : dePlanErr h p = deErr h := by unfold dePlanErr; rw [if_neg he]
end Go.Proofs.Ytchnpekgmkhacaa
namespace Go.Proofs.Ytchnpekgmkhacaa

/-- A hall that is easier. -/
structure Easy (h g : DeH) : Prop where
  nc : g.customers.length = h.customers.length
  nw : h.writers.length ≤ g.writers.length
  wax : g.wax ≤ h.wax
  c : ∀ c, c < h.customers.length → (customerAt g c).hi ≤ (customerAt h c).hi ∧ (customerAt g c).ship = (customerAt h c).ship
  w : ∀ w, w < h.writers.length → (writerAt g w).hi ≤ (writerAt h w).hi
  can : ∀ w c, w < h.writers.length → c < h.customers.length → canD h w c = true → canD g w c = true
def easyPlan (g : DeH) (p : List (List Int)) : List (List Int) := p ++ List.replicate (g.writers.length - p.length) []
theorem flat_rep : ∀ n : Nat, (List.replicate n ([] : List Int)).flatten = []
  | 0 => rfl
  | n + 1 => by rw [List.replicate_succ, List.flatten_cons, flat_rep n]; rfl
theorem easy_flat (g : DeH) (p : List (List Int)) : (easyPlan g p).flatten = p.flatten := by
  unfold easyPlan
  rw [List.flatten_append, flat_rep, List.append_nil]
theorem easy_row {g : DeH} {p : List (List Int)} {w : Nat} {l : List Int} (h : (easyPlan g p)[w]? = some l) : p[w]? = some l ∨ l = [] := by
  unfold easyPlan at h
  by_cases hw : w < p.length
  · rw [List.getElem?_append_left hw] at h; exact .inl h
  · rw [List.getElem?_append_right (by omega), List.getElem?_replicate] at h
    split at h
    · exact .inr (Option.some.inj h).symm
    · cases h
theorem easy_ok {h g : DeH} (E : Easy h g) {p : List (List Int)} (hp : PlanOk h h.customers.length p) : PlanOk g g.customers.length (easyPlan g p) := by
  refine ⟨?_, by rw [easy_flat]; exact hp.nodup, fun c => by rw [easy_flat, E.nc]; exact hp.mem c, fun w l hw c hc => ?_⟩
  · unfold easyPlan
    rw [List.length_append, List.length_replicate]
    have := hp.len; have := E.nw; omega
  · rcases easy_row hw with h1 | h1
    · have hwl := (List.getElem?_eq_some_iff.1 h1).1
      have hb := plan_idx hp l (List.mem_of_getElem? h1) c hc
      exact E.can w c.toNat (by have := hp.len; omega) (by omega) (hp.can w l h1 c hc)
    · subst h1; cases hc
theorem time_mono {h g : DeH} (E : Easy h g) : ∀ (l : List Int) (s t : Int), (∀ c ∈ l, 0 ≤ c ∧ c < (h.customers.length : Int)) → s ≤ t → timeD g s l ≤ timeD h t l
  | [], _, _, _, hs => hs
  | c :: l, s, t, hl, hs => by
    rw [timeD, timeD]
    have h1 := hl c (by simp)
    have h2 := (E.c c.toNat (by omega)).1
    have h3 := E.wax
    exact time_mono E l _ _ (fun d hd => hl d (List.mem_cons_of_mem _ hd)) (by omega)
theorem inTime_mono {h g : DeH} (E : Easy h g) : ∀ (l : List Int) (s t : Int), (∀ c ∈ l, 0 ≤ c ∧ c < (h.customers.length : Int)) → s ≤ t → inTime h t l → inTime g s l
  | [], _, _, _, _, _ => trivial
  | c :: l, s, t, hl, hs, hi => by
    obtain ⟨i1, i2⟩ := hi
    have h1 := hl c (by simp)
    have h2 := E.c c.toNat (by omega)
    have h3 := E.wax
    exact ⟨by omega, inTime_mono E l _ _ (fun d hd => hl d (List.mem_cons_of_mem _ hd)) (by omega) i2⟩
theorem easy_in {h g : DeH} (E : Easy h g) {p : List (List Int)} (hp : PlanOk h h.customers.length p) (ht : allIn h p) : allIn g (easyPlan g p) := fun w l hw => by
  rcases easy_row hw with h1 | h1
  · have hwl := (List.getElem?_eq_some_iff.1 h1).1
    exact inTime_mono E l _ _ (plan_idx hp l (List.mem_of_getElem? h1)) (E.w w (by have := hp.len; omega)) (ht w l h1)
  · subst h1; trivial
theorem easy_over {h g : DeH} (E : Easy h g) {p : List (List Int)} (hp : PlanOk h h.customers.length p) : deOver g (easyPlan g p) ≤ deOver h p := by
  obtain ⟨h0, h1, _⟩ := over_is h p
  rcases (over_is g (easyPlan g p)).2.2 with e | ⟨s, hs, e⟩
  · rw [e]; exact h0
  · rw [e]
    obtain ⟨i, hi, rfl⟩ := List.getElem_of_mem hs
    have hi2 : i < h.customers.length := by rw [sealed_len, E.nc] at hi; exact hi
    obtain ⟨w, a, b, hw, hpw⟩ := plan_has hp hi2
    have hwp : w < p.length := (List.getElem?_eq_some_iff.1 hpw).1
    have hqw : (easyPlan g p)[w]? = some (a ++ (i : Int) :: b) := by unfold easyPlan; rw [List.getElem?_append_left hwp]; exact hpw
    have e1 := sealed_at (easy_ok E hp) hqw
    have e2 := sealed_at hp hpw
    rw [Int.toNat_natCast] at e1 e2
    rw [List.getElem?_eq_getElem hi] at e1
    have e3 := Option.some.inj e1
    rw [e3]
    have h2 := h1 _ (List.mem_of_getElem? e2)
    rw [spanD_hi] at h2 ⊢
    refine Int.le_trans (time_mono E _ _ _ (fun d hd => plan_idx hp _ (List.mem_of_getElem? hpw) d ?_) (E.w w hw)) h2
    rcases List.mem_append.1 hd with h9 | h9
    · exact List.mem_append.2 (.inl h9)
    · rw [List.mem_singleton.1 h9]; simp
theorem easy_some {h g : DeH} (E : Easy h g) (hv : DeValid h) (gv : DeValid g) (hs : someD h = true) : someD g = true := by
  obtain ⟨p, hp, ht⟩ := (some_iff hv).1 hs
  exact (some_iff gv).2 ⟨_, easy_ok E hp, easy_in E hp ht⟩
theorem easy_best {h g : DeH} (E : Easy h g) (he : deErr h = 0) (ge : deErr g = 0) {p : List (List Int)} {n : Int} (hb : deBest h = (p, n, 0)) : ∃ q m, deBest g = (q, m, 0) ∧ m ≤ n := by
  have hv := deValid_of he
  have gv := deValid_of ge
  rcases best_cases he with ⟨e, _⟩ | ⟨q, e, hq, hd, _⟩
  · rw [hb] at e; cases e
  · rw [hb] at e
    obtain ⟨rfl, e2⟩ := Prod.mk.inj e
    obtain rfl := (Prod.mk.inj e2).1
    have gd := (must_iff gv (easy_ok E hq)).2 (easy_in E hq ((must_iff hv hq).1 hd))
    rcases best_cases ge with ⟨_, hno⟩ | ⟨r, e, hr, hrd, hall⟩
    · exact absurd gd (hno _ (easy_ok E hq))
    · refine ⟨r, deOver g r, e, ?_⟩
      have h1 := easy_over E hq
      rcases hall _ (easy_ok E hq) gd with h2 | h2 <;> omega
theorem easy_only {h g : DeH} (E : Easy h g) {l : List Int} (hl : incr h.writers.length l) : Easy (onlyD h l) (onlyD g l) := by
  have hat : ∀ (k : DeH) (i : Nat) (hi : i < l.length), writerAt (onlyD k l) i = writerAt k l[i].toNat := fun k i hi => by
    show ((onlyD k l).writers[i]?).getD _ = _
    unfold onlyD
    simp only
    rw [List.getElem?_map, List.getElem?_eq_getElem hi]; rfl
  have hb : ∀ i (hi : i < l.length), l[i].toNat < h.writers.length := fun i hi => by have := hl.2 _ (List.getElem_mem hi); omega
  have hn : (onlyD h l).writers.length = l.length := by unfold onlyD; simp
  refine ⟨E.nc, by unfold onlyD; simp, E.wax, E.c, fun w hw => ?_, fun w c hw hc k => ?_⟩
  · rw [hn] at hw
    rw [hat h w hw, hat g w hw]
    exact E.w _ (hb w hw)
  · rw [hn] at hw
    unfold canD at k ⊢
    rw [hat h w hw] at k
    rw [hat g w hw]
    exact E.can _ c (hb w hw) hc k
theorem easy_but {h g : DeH} (E : Easy h g) (s : Nat) : Easy (butD h (bitsList s h.customers.length)) (butD g (bitsList s h.customers.length)) := by
  have hc := but_customers h s
  have gc := but_customers g s
  have ha := but_at h s
  have ga := but_at g s
  rw [E.nc] at gc ga
  have hm : ∀ i (hi : i < (stayOf s h.customers.length).length), (stayOf s h.customers.length)[i] < h.customers.length := fun i hi => (stay_mem.1 (List.getElem_mem hi)).1
  have hn : (butD h (bitsList s h.customers.length)).customers.length = (stayOf s h.customers.length).length := by rw [hc, List.length_map]
  have gn : (butD g (bitsList s h.customers.length)).customers.length = (stayOf s h.customers.length).length := by rw [gc, List.length_map]
  refine ⟨by rw [hn, gn], E.nw, E.wax, fun c k => ?_, E.w, fun w c hw k cn => ?_⟩
  · rw [hn] at k
    rw [ha c k, ga c k]
    exact E.c _ (hm c k)
  · rw [hn] at k
    have e : ∀ (x : DeH), (∀ c (k : c < (stayOf s h.customers.length).length), customerAt (butD x (bitsList s h.customers.length)) c = customerAt x (stayOf s h.customers.length)[c]) → canD (butD x (bitsList s h.customers.length)) w c = canD x w (stayOf s h.customers.length)[c] := fun x hx => by
      unfold canD
      rw [hx c k]; rfl
    rw [e h ha] at cn
    rw [e g ga]
    exact E.can w _ hw (hm c k) cn
theorem fewer_len {a b : List Int} (h : a = b ∨ fewer a b = true) : a.length ≤ b.length := by
  rcases h with rfl | h
  · exact Nat.le_refl _
  · unfold fewer at h
    split at h
    · omega
    · have := of_decide_eq_true h; omega
theorem easy_away {h g : DeH} (E : Easy h g) (he : deErr h = 0) (ge : deErr g = 0) : (deAway g).1.length ≤ (deAway h).1.length := by
  obtain ⟨⟨⟨h1, h2⟩, _⟩, _⟩ := away_first he
  obtain ⟨⟨_, g3⟩, _⟩ := away_first ge
  have hs := h2
  rw [← setOf_bits h1] at hs
  have := easy_some (easy_but E (setOf (deAway h).1)) (but_valid (deValid_of he) _) (by rw [← E.nc]; exact but_valid (deValid_of ge) _) hs
  rw [setOf_bits h1] at this
  have := g3 _ ⟨by rw [E.nc]; exact h1, this⟩
  exact fewer_len (this.imp Eq.symm id)
theorem easy_enough {h g : DeH} (E : Easy h g) (he : deErr h = 0) (ge : deErr g = 0) {l : List Int} (hl : deEnough h = (l, 0)) : ∃ m, deEnough g = (m, 0) ∧ m.length ≤ l.length := by
  rcases enough_plain he with ⟨e, _⟩ | ⟨l', e, h1, h2, _, _⟩
  · rw [hl] at e; cases e
  · rw [hl] at e
    obtain rfl := (Prod.mk.inj e).1
    have hg : incr g.writers.length l := ⟨h1.1, fun x hx => by have := h1.2 x hx; have := E.nw; omega⟩
    have gs : someD (onlyD g l) = true := easy_some (easy_only E h1) (by rw [← setOf_bits h1]; exact only_valid (deValid_of he) _) (by rw [← setOf_bits hg]; exact only_valid (deValid_of ge) _) h2
    rcases enough_plain ge with ⟨_, hno, _⟩ | ⟨m, e, g1, g2, _, hall⟩
    · rw [hno l hg] at gs; cases gs
    · refine ⟨m, e, ?_⟩
      have := hall l hg
      rw [gs, Bool.true_and] at this
      unfold fewer at this
      split at this
      · omega
      · simp at this; omega

/-- One writer more. -/
def moreD (h : DeH) (x : DeW) : DeH := { h with writers := h.writers ++ [x] }
theorem more_at (h : DeH) (x : DeW) {w : Nat} (hw : w < h.writers.length) : writerAt (moreD h x) w = writerAt h w := by
  unfold writerAt moreD
  simp only
  rw [List.getElem?_append_left hw]
theorem more_easy (h : DeH) (x : DeW) : Easy h (moreD h x) :=
  ⟨rfl, by unfold moreD; simp, Int.le_refl _, fun c _ => ⟨Int.le_refl _, rfl⟩, fun w hw => by rw [more_at h x hw]; exact Int.le_refl _, fun w c hw _ k => by unfold canD at k ⊢; rw [more_at h x hw]; exact k⟩

theorem at_modify_w (l : List DeW) (i : Nat) (f : DeW → DeW) (j : Nat) (d : DeW) (hd : f d = d ∨ j < l.length) : ((l.modify i f)[j]?).getD d = if i = j then f (l[j]?.getD d) else l[j]?.getD d := by
  rw [List.getElem?_modify]
  by_cases e : i = j
  · rw [if_pos e]
    by_cases hj : j < l.length
    · rw [List.getElem?_eq_getElem hj]; simp [e]
    · rw [List.getElem?_eq_none (by omega)]
      rcases hd with hd | hd
      · simp [hd]
      · omega
  · rw [if_neg e]; simp [e]
theorem at_modify_c (l : List DeC) (i : Nat) (f : DeC → DeC) (j : Nat) (d : DeC) (hj : j < l.length) : ((l.modify i f)[j]?).getD d = if i = j then f (l[j]?.getD d) else l[j]?.getD d := by
  rw [List.getElem?_modify, List.getElem?_eq_getElem hj]
  by_cases e : i = j
  · rw [if_pos e]; simp [e]
  · rw [if_neg e]; simp [e]
/-- A lesser Seal, a lesser Hi, more Kinds. -/
def lessD (h : DeH) (wax : Int) (i : Nat) (hi : Int) (k : Nat) (kinds : Int) : DeH :=
  { wax := wax, writers := h.writers.modify k fun x => { x with kinds := kinds }, customers := h.customers.modify i fun x => { x with hi := hi } }
theorem less_easy {h : DeH} {wax : Int} {i : Nat} {hi : Int} {k : Nat} {kinds : Int} (hw : wax ≤ h.wax) (hh : hi ≤ (customerAt h i).hi) (hk : ∀ c, bitB (writerAt h k).kinds c = true → bitB kinds c = true) : Easy h (lessD h wax i hi k kinds) := by
  have hc : ∀ c, c < h.customers.length → customerAt (lessD h wax i hi k kinds) c = if i = c then { customerAt h c with hi := hi } else customerAt h c := fun c hc => at_modify_c _ _ _ _ _ hc
  have hww : ∀ w, w < h.writers.length → writerAt (lessD h wax i hi k kinds) w = if k = w then { writerAt h w with kinds := kinds } else writerAt h w := fun w hw => at_modify_w _ _ _ _ _ (.inr hw)
  refine ⟨by unfold lessD; simp, by unfold lessD; simp, hw, fun c k => ?_, fun w k => ?_, fun w c kw kc cn => ?_⟩
  · rw [hc c k]
    by_cases e : i = c
    · subst e; rw [if_pos rfl]; exact ⟨hh, rfl⟩
    · rw [if_neg e]; exact ⟨Int.le_refl _, rfl⟩
  · rw [hww w k]
    split <;> exact Int.le_refl _
  · unfold canD at cn ⊢
    have e1 : (customerAt (lessD h wax i hi k kinds) c).kind = (customerAt h c).kind := by rw [hc c kc]; split <;> rfl
    rw [e1, hww w kw]
    by_cases e : k = w
    · subst e; rw [if_pos rfl]; exact hk _ cn
    · rw [if_neg e]; exact cn
/-- One kind more. -/
theorem kinds_more : ∀ (n k c : Nat), n < 16 → k < 4 → n.testBit k = false → n.testBit c = true → (n + 2 ^ k).testBit c = true := by
  intro n k c hn hk h1 h2
  have hc : c < 4 := by
    rcases Nat.lt_or_ge c 4 with h | h
    · exact h
    · rw [Nat.testBit_lt_two_pow (Nat.lt_of_lt_of_le hn (show 2 ^ 4 ≤ 2 ^ c from Nat.pow_le_pow_right (by decide) h))] at h2; cases h2
  revert h1 h2
  have : ∀ n : Fin 16, ∀ k c : Fin 4, n.1.testBit k.1 = false → n.1.testBit c.1 = true → (n.1 + 2 ^ k.1).testBit c.1 = true := by decide +kernel
  exact this ⟨n, hn⟩ ⟨k, hk⟩ ⟨c, hc⟩

/-- A hall that is narrower. -/
structure Narr (h g : DeH) : Prop where
  nc : g.customers.length = h.customers.length
  nw : g.writers.length = h.writers.length
  wax : g.wax = h.wax
  c : ∀ c, c < h.customers.length → (customerAt h c).lo ≤ (customerAt g c).lo ∧ (customerAt g c).hi ≤ (customerAt h c).hi
  w : ∀ w, w < h.writers.length → (writerAt h w).lo ≤ (writerAt g w).lo ∧ (writerAt g w).hi ≤ (writerAt h w).hi
  can : ∀ w c, w < h.writers.length → c < h.customers.length → canD g w c = canD h w c
theorem narr_ok {h g : DeH} (E : Narr h g) {p : List (List Int)} (hp : PlanOk h h.customers.length p) : PlanOk g g.customers.length p := by
  refine ⟨by rw [E.nw]; exact hp.len, hp.nodup, fun c => by rw [E.nc]; exact hp.mem c, fun w l hw c hc => ?_⟩
  have hwl := (List.getElem?_eq_some_iff.1 hw).1
  have hb := plan_idx hp l (List.mem_of_getElem? hw) c hc
  rw [E.can w c.toNat (by have := hp.len; omega) (by omega)]
  exact hp.can w l hw c hc
theorem span_narr {h g : DeH} (E : Narr h g) : ∀ (l : List Int) (s t : Int × Int), (∀ c ∈ l, 0 ≤ c ∧ c < (h.customers.length : Int)) → s.1 ≤ t.1 → t.2 ≤ s.2 → (spanD h s l).1 ≤ (spanD g t l).1 ∧ (spanD g t l).2 ≤ (spanD h s l).2
  | [], _, _, _, h1, h2 => ⟨h1, h2⟩
  | c :: l, s, t, hl, h1, h2 => by
    rw [spanD, spanD]
    have k1 := hl c (by simp)
    have k2 := E.c c.toNat (by omega)
    have k3 := E.wax
    exact span_narr E l _ _ (fun d hd => hl d (List.mem_cons_of_mem _ hd)) (by show _ + _ + _ ≤ _ + _ + _; omega) (by show _ + _ + _ ≤ _ + _ + _; omega)
theorem narr_in {h g : DeH} (E : Narr h g) {p : List (List Int)} (hp : PlanOk h h.customers.length p) {i : Nat} {s t : Int × Int} (hs : (deSealed h p)[i]? = some s) (ht : (deSealed g p)[i]? = some t) : s.1 ≤ t.1 ∧ t.2 ≤ s.2 := by
  have hi : i < h.customers.length := by have := (List.getElem?_eq_some_iff.1 hs).1; rwa [sealed_len] at this
  obtain ⟨w, a, b, hw, hpw⟩ := plan_has hp hi
  have e1 := sealed_at (narr_ok E hp) hpw
  have e2 := sealed_at hp hpw
  rw [Int.toNat_natCast] at e1 e2
  rw [ht] at e1
  rw [hs] at e2
  rw [Option.some.inj e1, Option.some.inj e2]
  have := E.w w hw
  refine span_narr E _ _ _ (fun d hd => plan_idx hp _ (List.mem_of_getElem? hpw) d ?_) this.1 this.2
  rcases List.mem_append.1 hd with h9 | h9
  · exact List.mem_append.2 (.inl h9)
  · rw [List.mem_singleton.1 h9]; simp
/-- A later Lo of a Talk, an earlier Hi of a Free. -/
def narrowD (h : DeH) (i : Nat) (lo : Int) (k : Nat) (hi : Int) : DeH :=
  { wax := h.wax, writers := h.writers.modify k fun x => { x with hi := hi }, customers := h.customers.modify i fun x => { x with lo := lo } }
theorem narrow_c (h : DeH) (i : Nat) (lo : Int) (k : Nat) (hi : Int) {c : Nat} (hc : c < h.customers.length) : customerAt (narrowD h i lo k hi) c = if i = c then { customerAt h c with lo := lo } else customerAt h c := at_modify_c _ _ _ _ _ hc
theorem narrow_w (h : DeH) (i : Nat) (lo : Int) (k : Nat) (hi : Int) {w : Nat} (hw : w < h.writers.length) : writerAt (narrowD h i lo k hi) w = if k = w then { writerAt h w with hi := hi } else writerAt h w := at_modify_w _ _ _ _ _ (.inr hw)
theorem narrow_is {h : DeH} {i : Nat} {lo : Int} {k : Nat} {hi : Int} (h1 : (customerAt h i).lo ≤ lo) (h2 : hi ≤ (writerAt h k).hi) : Narr h (narrowD h i lo k hi) := by
  refine ⟨by unfold narrowD; simp, by unfold narrowD; simp, rfl, fun c k => ?_, fun w kk => ?_, fun w c kw kc => ?_⟩
  · rw [narrow_c h _ _ _ _ k]
    by_cases e : i = c
    · subst e; rw [if_pos rfl]; exact ⟨h1, Int.le_refl _⟩
    · rw [if_neg e]; exact ⟨Int.le_refl _, Int.le_refl _⟩
  · rw [narrow_w h _ _ _ _ kk]
    by_cases e : k = w
    · subst e; rw [if_pos rfl]; exact ⟨Int.le_refl _, h2⟩
    · rw [if_neg e]; exact ⟨Int.le_refl _, Int.le_refl _⟩
  · unfold canD
    rw [narrow_c h _ _ _ _ kc, narrow_w h _ _ _ _ kw]
    split <;> split <;> rfl
theorem narrow_err {h : DeH} (he : deErr h = 0) {i : Nat} {lo : Int} {k : Nat} {hi : Int} (hi2 : i < h.customers.length) (hk : k < h.writers.length) (h1 : (customerAt h i).lo ≤ lo ∧ lo ≤ (customerAt h i).hi) (h2 : (writerAt h k).lo ≤ hi ∧ hi ≤ (writerAt h k).hi) : deErr (narrowD h i lo k hi) = 0 := by
  obtain ⟨hv, a, b⟩ := deErr_iff.1 he
  have e1 : (narrowD h i lo k hi).writers.map (·.name) = h.writers.map (·.name) := map_modify_same (fun x : DeW => x.name) (fun x => { x with hi := hi }) (fun _ => rfl) _ _
  have e2 : (narrowD h i lo k hi).customers.map (·.name) = h.customers.map (·.name) := map_modify_same (fun x : DeC => x.name) (fun x => { x with lo := lo }) (fun _ => rfl) _ _
  refine deErr_iff.2 ⟨⟨by unfold narrowD; simpa using hv.nw, by unfold narrowD; simpa using hv.nc, hv.wax, fun j hj => ?_, fun j hj => ?_⟩, by rw [e1]; exact a, by rw [e2]; exact b⟩
  · have hj2 : j < h.writers.length := by unfold narrowD at hj; simpa using hj
    have e := narrow_w h i lo k hi hj2
    have ej : writerAt (narrowD h i lo k hi) j = (narrowD h i lo k hi).writers[j] := by unfold writerAt; rw [List.getElem?_eq_getElem hj]; rfl
    have eh : writerAt h j = h.writers[j] := by unfold writerAt; rw [List.getElem?_eq_getElem hj2]; rfl
    rw [ej] at e
    rw [e]
    have := hv.w j hj2
    rw [← eh] at this
    by_cases ek : k = j
    · subst ek; rw [if_pos rfl]; simp only; omega
    · rw [if_neg ek]; exact this
  · have hj2 : j < h.customers.length := by unfold narrowD at hj; simpa using hj
    have e := narrow_c h i lo k hi hj2
    have ej : customerAt (narrowD h i lo k hi) j = (narrowD h i lo k hi).customers[j] := by unfold customerAt; rw [List.getElem?_eq_getElem hj]; rfl
    have eh : customerAt h j = h.customers[j] := by unfold customerAt; rw [List.getElem?_eq_getElem hj2]; rfl
    rw [ej] at e
    rw [e]
    have := hv.c j hj2
    rw [← eh] at this
    by_cases ek : i = j
    · subst ek; rw [if_pos rfl]; simp only; omega
    · rw [if_neg ek]; exact this
/-- The first letter of a writer. -/
theorem first_sealed {h : DeH} {p : List (List Int)} (hp : PlanOk h h.customers.length p) {w : Nat} {c : Int} {l : List Int} (hw : p[w]? = some (c :: l)) : (deSealed h p)[c.toNat]? = some ((writerAt h w).lo + (customerAt h c.toNat).lo + h.wax, (writerAt h w).hi + (customerAt h c.toNat).hi + h.wax) := by
  have := sealed_at hp (a := []) hw
  rw [this]; rfl
end Go.Proofs.Ytchnpekgmkhacaa
namespace Go.Proofs.Ytchnpekgmkhacaa
/-- The hall of the examples, with a ship of the first customer. -/
def exH (ship : Int) : DeH :=
  { wax := 1, writers := [⟨⟨#[112, 97, 122]⟩, 3, 0, 0⟩, ⟨⟨#[114, 117, 116]⟩, 1, 2, 4⟩], customers := [⟨⟨#[97, 110, 97]⟩, 0, 5, 8, ship⟩, ⟨⟨#[98, 101, 110]⟩, 1, 6, 10, 12⟩, ⟨⟨#[99, 111, 114, 97]⟩, 0, 4, 6, 15⟩] }
def exP : List (List Int) := [[1], [2, 0]]
def exO : List (List Int) := [[0, 1], [2]]
theorem ex_ends : deEnds (exH 20) exP = ([(13, 20), (7, 11), (7, 11)], 0) := by decide +kernel
theorem ex_must : deFate (exH 20) exP = (1, 0) := by decide +kernel
theorem ex_may : deFate (exH 17) exP = (0, 0) := by decide +kernel
theorem ex_never : deFate (exH 17) exO = (2, 0) := by decide +kernel
theorem ex_late : deLate (exH 17) exP = (0, 0) := by decide +kernel
theorem ex_none : deLate (exH 20) exP = (0, 9) := by decide +kernel
theorem ex_best : deBest (exH 20) = (exP, 20, 0) := by decide +kernel
theorem ex_down : deBest (exH 17) = ([], 0, 9) := by decide +kernel
theorem ex_enough : deEnough (exH 20) = ([0, 1], 0) := by decide +kernel
theorem ex_away : deAway (exH 17) = ([0], 0) := by decide +kernel
theorem ex_six : deLater (exH 17) 1 = (6, 0) := by decide +kernel
theorem ex_three : deLater (exH 17) 2 = (3, 0) := by decide +kernel
/- of DeskKnown -/
theorem ex_zero : deLater (exH 20) 0 = (0, 0) := by decide +kernel
theorem ex_three2 : deLater (exH 17) 0 = (3, 0) := by decide +kernel
theorem ex_nobody : deAway (exH 20) = ([], 0) := by decide +kernel
end Go.Proofs.Ytchnpekgmkhacaa
