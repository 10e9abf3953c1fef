/- What is proved here: the contract of Choices. Condition: small numbers. -/
/- What is proved here: elements of several cells in a row; what the call owns, seen as such elements. Over any program. -/
/- What is proved here: the contract of the reference's Plans of layer 9. Condition: the hall lies in memory and is valid. -/
import Derived.Test.YtelmponkmmfffaaGreatCmpG
import Derived.Test.YtelmponkmmfffaaGreatBlkG
import Derived.Test.YtelmponkmmfffaaGreatDrIG
set_option linter.unusedVariables false
set_option linter.unusedSimpArgs false
namespace Go.Proofs.YtelmponkmmfffaaGreat
open Go Go.RowKit

end Go.Proofs.YtelmponkmmfffaaGreat
namespace Go.Proofs.YtelmponkmmfffaaGreat
open Go Go.RowKit
section
variable {α : Type} {f : α → List Value} {n : Nat}
def flatC (f : α → List Value) (l : List α) : List Value := l.flatMap f
theorem flatC_len (hf : ∀ x, (f x).length = n) (l : List α) : (flatC f l).length = l.length * n := by
  induction l with
  | nil => simp [flatC]
  | cons x l ih =>
    show (f x ++ flatC f l).length = _
    rw [List.length_append, ih, hf, List.length_cons, Nat.succ_mul]
    omega
theorem flatC_get (hf : ∀ x, (f x).length = n) (l : List α) (i : Nat) (h : i < l.length) (r : Nat) (hr : r < n) : (flatC f l)[i * n + r]? = (f l[i])[r]? := by
  induction l generalizing i with
  | nil => simp at h
  | cons x l ih =>
    show (f x ++ flatC f l)[i * n + r]? = _
    cases i with
    | zero =>
      rw [Nat.zero_mul, Nat.zero_add, List.getElem?_append_left (by rw [hf]; exact hr)]
      rfl
    | succ i =>
      have := ih i (by simpa using h)
      rw [List.getElem?_append_right (by rw [hf, Nat.succ_mul]; omega), hf, show (i + 1) * n + r - n = i * n + r from by rw [Nat.succ_mul]; omega, this]
      rfl
theorem flatC_snoc (l : List α) (x : α) : flatC f l ++ f x = flatC f (l ++ [x]) := by
  unfold flatC
  rw [List.flatMap_append]
  simp
/-- The elements lie at a, one behind the other. -/
def FlatAt (f : α → List Value) (n : Nat) (w : World) (a : Option Addr) (l : List α) : Prop :=
  ∀ i (_ : i < l.length), ∃ b off, a = some ⟨b, off, none⟩ ∧ b < w.heap.size ∧ ∀ r u, r < n → (f l[i])[r]? = some u → w.cell? ⟨b, off + i * n + r, none⟩ = some u
theorem SrcAt.flat {w : World} {a : Option Addr} {l : List α} {c : Nat} (hf : ∀ x, (f x).length = n) (hn0 : 0 < n) (h1 : ∀ x, ∀ u ∈ f x, u.oneCell' = true) (hn : a = none → c = 0) (h : FlatAt f n w a l) : SrcAt w (.slice a l.length c) l.length n (flatC f l) := by
  refine ⟨flatC_len hf l, fun u hu => ?_, ?_⟩
  · obtain ⟨x, _, hx⟩ := List.mem_flatMap.1 hu
    exact h1 x u hx
  · cases a with
    | none =>
      have : l.length = 0 := by
        by_cases h0 : 0 < l.length
        · obtain ⟨b, off, e, _⟩ := h 0 h0
          cases e
        · omega
      left
      rw [hn rfl, this]
      exact ⟨rfl, rfl⟩
    | some ad =>
      refine .inr ⟨ad, c, rfl, fun j u hj => ?_⟩
      have hlt : j < l.length * n := by
        have := (List.getElem?_eq_some_iff.1 hj).1
        rw [flatC_len hf] at this
        exact this
      obtain ⟨i, r, hr, rfl⟩ : ∃ i r, r < n ∧ j = i * n + r := ⟨j / n, j % n, Nat.mod_lt _ hn0, by rw [Nat.mul_comm]; exact (Nat.div_add_mod j n).symm⟩
      have hi : i < l.length := by
        refine Classical.byContradiction fun hni => ?_
        have := Nat.mul_le_mul_right n (Nat.le_of_not_lt hni)
        omega
      rw [flatC_get hf l i hi r hr] at hj
      obtain ⟨b, off, e, _, hc⟩ := h i hi
      cases e
      rw [Addr.add_lit, ← Nat.add_assoc]
      exact hc r u hr hj
theorem flat_own {w : World} {base : Nat} {e : TypeId} {v : Value} {k : Nat} {l : List α} (hf : ∀ x, (f x).length = n) (hn0 : 0 < n) (h : w.ownsRow base e n v k (flatC f l)) :
    k = l.length ∧ ∃ a c, v = .slice a l.length c ∧ SlOk a l.length c ∧ FlatAt f n w a l := by
  have hl := h.1
  rw [flatC_len hf] at hl
  have hk : k = l.length := (Nat.eq_of_mul_eq_mul_right hn0 hl).symm
  subst hk
  refine ⟨rfl, ?_⟩
  have hm : maxLen = 9223372036854775807 := rfl
  rcases h.2 with ⟨rfl, h0⟩ | ⟨g, cap, cur, rfl, _, hg, h3, h4, h5, h6⟩
  · exact ⟨none, 0, by rw [h0], ⟨by omega, by omega, fun _ => rfl⟩, fun i hi => by omega⟩
  · refine ⟨_, _, rfl, ⟨h3, by omega, fun h => by cases h⟩, fun i hi => ⟨g, 0, rfl, (Array.getElem?_eq_some_iff.1 hg).1, fun r u hr hu => ?_⟩⟩
    have := h.cells (g := g) rfl (i * n + r) u (by rw [flatC_get hf l i hi r hr]; exact hu)
    rw [Addr.add_lit] at this
    rw [Nat.add_assoc]; exact this
end
theorem made_row (W : World) (e : TypeId) (n : Nat) : (W.alloc (.cells #[] e)).ownsRow W.heap.size e n (.slice (some ⟨W.heap.size, 0, none⟩) 0 0) 0 [] :=
  World.ownsRow_made (base := W.heap.size) (e := e) (size := n) W #[] 0 (Nat.le_refl _) (by decide) (by simp)
end Go.Proofs.YtelmponkmmfffaaGreat
namespace Go.Proofs.YtelmponkmmfffaaGreat
open Go Go.RowKit Go.Shelf

end Go.Proofs.YtelmponkmmfffaaGreat
