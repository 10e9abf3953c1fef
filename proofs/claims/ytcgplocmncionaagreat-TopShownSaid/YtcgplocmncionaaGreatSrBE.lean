/- What is proved here: the contract of Choices. Condition: small numbers. -/
/- What is proved here: contracts of the reference of layer 12: Day, So. Conditions: the room lies in memory and is valid. -/
/- What is proved here: contracts of the reference of layer 12: index, asked. Conditions: the room lies in memory. -/
/- What is proved here: growing slices of rows of which some are older, and the contract of the reference's Sets of layer 12. Conditions: the room lies in memory and is valid. -/
/- What is proved here: contracts of the reference of layer 12: Truths. Conditions: the room lies in memory and is valid. -/
/- What is proved here: contracts of the reference of layer 12: known. Conditions: the room lies in memory; where there is no error it is valid. -/
/- What is proved here: contracts of the reference of layer 12: Told, and of Settled. Conditions: the room lies in memory. -/
/- What is proved here: contracts of the reference of layer 12: Knows. Conditions: the room lies in memory. -/
/- What is proved here: contracts of the reference of layer 12: Keeps. Conditions: the room lies in memory and is valid. -/
/- What is proved here: contracts of the reference of layer 12: Can. Conditions: the room lies in memory and is valid. -/
/- What is proved here: contracts of the reference of layer 12: May. Conditions: the room lies in memory. -/
/- What is proved here: contracts of the reference of layer 12: Less. Conditions: slices lie in memory; few truths. -/
/- What is proved here: contracts of the reference of layer 12: Waiting. Condition: the slice lies in memory. -/
/- What is proved here: contracts of the reference of layer 12: plans. Conditions: the room lies in memory and is valid. -/
/- What is proved here: contracts of the reference of layer 12: Before. Condition: slices lie in memory. -/
/- What is proved here: contracts of the reference of layer 12: Since. Conditions: the room lies in memory. -/
/- What is proved here: contracts of the reference of layer 12: Wrong. Conditions: the room lies in memory. -/
import Derived.Test.YtcgplocmncionaaGreatSeGround
import Derived.Test.YtcgplocmncionaaGreatSeNames
import Derived.Test.YtcgplocmncionaaGreatSrA
import Derived.Shelf.RegionOpen
import Derived.Deep.DeepCutAuto
import Derived.Deep.RegionHeld3
import Derived.Test.YtcgplocmncionaaGreatSeSinceG
import Derived.Deep.RegionWith
set_option linter.unusedVariables false
set_option linter.unusedSimpArgs false
namespace Go.Proofs.YtcgplocmncionaaGreat
open Go Go.RowKit

end Go.Proofs.YtcgplocmncionaaGreat
namespace Go.Proofs.YtcgplocmncionaaGreat
open Go Go.RowKit Go.Shelf

end Go.Proofs.YtcgplocmncionaaGreat
namespace Go.Proofs.YtcgplocmncionaaGreat
open Go Go.RowKit Go.Shelf

end Go.Proofs.YtcgplocmncionaaGreat
namespace Go.Proofs.YtcgplocmncionaaGreat
open Go Go.RowKit Go.Shelf

/-- A growing slice of slices of ints: the call's own; each row that has a number lies apart from the growing one. -/
def OwnR (w : World) (base : Nat) (e : TypeId) (v : Value) (L : List (List Int)) : Prop :=
  ∃ vs : List Value, w.ownsRow base e 1 v L.length vs ∧ ∀ i (_ : i < L.length), ∃ a c, vs[i]? = some (.slice a L[i].length c) ∧ SlOk a L[i].length c ∧
    IntsC w a L[i] ∧ (0 < L[i].length → ∀ ad, a = some ad → ad.block < w.heap.size ∧ some ad.block ≠ v.ownBlock)
theorem OwnR.nil (w : World) (base : Nat) (e : TypeId) : OwnR w base e (.slice none 0 0) [] := ⟨[], World.ownsRow_nil _ _ _ _, fun i hi => absurd hi (Nat.not_lt_zero i)⟩
theorem intsC_empty {w W : World} {a : Option Addr} {l : List Int} (h : l.length = 0) : IntsC W a l := fun i hi => by omega
theorem OwnR.kept {w W : World} {base : Nat} {e : TypeId} {v : Value} {L : List (List Int)} (h : OwnR w base e v L) (hb : Below w.heap.size w W) : OwnR W base e v L := by
  obtain ⟨vs, h1, h2⟩ := h
  have hg : w.grownBy W none := ⟨hb.os, hb.tape, hb.output, hb.size, fun k hk _ => hb.block k hk⟩
  refine ⟨vs, h1.kept hg ?_, fun i hi => ?_⟩
  · cases hv : v.ownBlock <;> simp
  · obtain ⟨a, c, e1, e2, e5, e6⟩ := h2 i hi
    exact ⟨a, c, e1, e2, e5.mono hb, fun hn ad ead => ⟨Nat.lt_of_lt_of_le (e6 hn ad ead).1 hb.size, (e6 hn ad ead).2⟩⟩
/-- Behind 'rows = append(rows, t)': t lies apart from the growing slice. -/
theorem OwnR.push {w w1 w2 : World} {base : Nat} {e : TypeId} {v v' : Value} {L : List (List Int)} {vs : List Value} {a : Option Addr} {t : List Int} {c : Nat} {tmp : Obj}
    (hvs : w.ownsRow base e 1 v L.length vs)
    (h2 : ∀ i (_ : i < L.length), ∃ a c, vs[i]? = some (.slice a L[i].length c) ∧ SlOk a L[i].length c ∧ IntsC w a L[i] ∧ (0 < L[i].length → ∀ ad, a = some ad → ad.block < w.heap.size ∧ some ad.block ≠ v.ownBlock))
    (hb : Below w.heap.size w w1) (ht : IntsC w1 a t) (hc : SlOk a t.length c) (hne : 0 < t.length → ∀ ad, a = some ad → ad.block < w1.heap.size ∧ some ad.block ≠ v.ownBlock)
    (hown : w2.ownsRow base e 1 v' (L.length + 1) (vs ++ [.slice a t.length c])) (hg : (w1.alloc tmp).grownBy w2 v.ownBlock) (hv : v'.ownBlock = v.ownBlock ∨ v'.ownBlock = some (w1.alloc tmp).heap.size) :
    OwnR w2 base e v' (L ++ [t]) := by
  have hb1 : Below w.heap.size w (w1.alloc tmp) := hb.alloc hb.size _
  have hlen : vs.length = L.length := by simpa using hvs.1
  refine ⟨_, by simpa using hown, fun i hi => ?_⟩
  have hsz := hb1.size
  by_cases h : i < L.length
  · obtain ⟨a', c', e1, e2, e5, e6⟩ := h2 i h
    refine ⟨a', c', ?_, ?_, ?_, ?_⟩
    · rw [List.getElem?_append_left (by omega), List.getElem_append_left h]
      exact e1
    · rw [List.getElem_append_left h]; exact e2
    · rw [List.getElem_append_left h]
      by_cases hn : L[i].length = 0
      · exact intsC_empty (w := w) hn
      · exact (e5.mono hb1).grown hg fun ad ead => (e6 (by omega) ad ead).2
    · rw [List.getElem_append_left h]
      intro hn ad ead
      have e7 := e6 hn ad ead
      have := hg.size
      simp at hsz this
      refine ⟨by omega, ?_⟩
      rcases hv with hv | hv
      · rw [hv]; exact e7.2
      · rw [hv]
        intro e'
        simp at e'
        omega
  · have hi' : i = L.length := by simp at hi; omega
    subst hi'
    refine ⟨a, c, ?_, ?_, ?_, ?_⟩
    · rw [List.getElem?_append_right (by omega)]
      simp [hlen]
    · simpa using hc
    · simp
      by_cases hn : t.length = 0
      · exact intsC_empty (w := w) hn
      · exact (ht.mono ((Below.refl _ _).alloc (Nat.le_refl _) _)).grown hg fun ad ead => (hne (by omega) ad ead).2
    · simp only [List.getElem_append_right (Nat.le_refl _), Nat.sub_self, List.getElem_cons_zero]
      intro hn ad ead
      have h1 := hne hn ad ead
      have := hg.size
      simp at this
      refine ⟨by omega, fun e' => ?_⟩
      rcases hv with hv | hv
      · rw [hv] at e'; exact h1.2 e'
      · rw [hv] at e'
        simp at e'
        omega
theorem OwnR.rows {w : World} {base : Nat} {e : TypeId} {v : Value} {L : List (List Int)} (h : OwnR w base e v L) : RowsV w v L := by
  obtain ⟨vs, h1, h2⟩ := h
  have hm : maxLen = 9223372036854775807 := rfl
  rcases h1.2 with ⟨rfl, h0⟩ | ⟨g, cap, cur, rfl, _, hg, h3, h4, h5, h6⟩
  · have : L = [] := List.eq_nil_of_length_eq_zero h0
    subst this
    exact ⟨none, 0, rfl, ⟨Nat.le_refl _, by omega, fun _ => rfl⟩, RowsC.nil _ _⟩
  · refine ⟨some ⟨g, 0, none⟩, cap, rfl, ⟨h3, by omega, fun h => by cases h⟩, fun i hi => ?_⟩
    obtain ⟨a, c, e1, e2, e5, _⟩ := h2 i hi
    refine ⟨g, 0, a, c, rfl, (Array.getElem?_eq_some_iff.1 hg).1, ?_, e2, e5⟩
    have := h1.cells (g := g) rfl i _ e1
    simpa [Addr.add_lit] using this
end Go.Proofs.YtcgplocmncionaaGreat
namespace Go.Proofs.YtcgplocmncionaaGreat
open Go Go.RowKit Go.Shelf

end Go.Proofs.YtcgplocmncionaaGreat
namespace Go.Proofs.YtcgplocmncionaaGreat
open Go Go.RowKit Go.Shelf

/-- The truths in memory, where there is no error. -/
def KnownV (w : World) (v : Value) (r : SeRoom) (e : Int) : Prop := (e = 0 → RowsV w v (seTruths r [])) ∧ (e ≠ 0 → v = .slice none 0 0)
theorem KnownV.mono {w W : World} {v : Value} {r : SeRoom} {e : Int} (h : KnownV w v r e) (hb : Below w.heap.size w W) : KnownV W v r e := ⟨fun h0 => (h.1 h0).mono hb, h.2⟩
end Go.Proofs.YtcgplocmncionaaGreat
namespace Go.Proofs.YtcgplocmncionaaGreat
open Go Go.RowKit Go.Shelf

end Go.Proofs.YtcgplocmncionaaGreat
namespace Go.Proofs.YtcgplocmncionaaGreat
open Go Go.RowKit Go.Shelf

end Go.Proofs.YtcgplocmncionaaGreat
namespace Go.Proofs.YtcgplocmncionaaGreat
open Go Go.RowKit Go.Shelf

end Go.Proofs.YtcgplocmncionaaGreat
namespace Go.Proofs.YtcgplocmncionaaGreat
open Go Go.RowKit Go.Shelf

end Go.Proofs.YtcgplocmncionaaGreat
namespace Go.Proofs.YtcgplocmncionaaGreat
open Go Go.RowKit Go.Shelf

end Go.Proofs.YtcgplocmncionaaGreat
namespace Go.Proofs.YtcgplocmncionaaGreat
open Go Go.RowKit Go.Shelf

end Go.Proofs.YtcgplocmncionaaGreat
namespace Go.Proofs.YtcgplocmncionaaGreat
open Go Go.RowKit Go.Shelf

end Go.Proofs.YtcgplocmncionaaGreat
namespace Go.Proofs.YtcgplocmncionaaGreat
open Go Go.RowKit Go.Shelf

end Go.Proofs.YtcgplocmncionaaGreat
namespace Go.Proofs.YtcgplocmncionaaGreat
open Go Go.RowKit Go.Shelf

end Go.Proofs.YtcgplocmncionaaGreat
namespace Go.Proofs.YtcgplocmncionaaGreat
open Go Go.RowKit Go.Shelf

end Go.Proofs.YtcgplocmncionaaGreat
namespace Go.Proofs.YtcgplocmncionaaGreat
open Go Go.RowKit Go.Shelf

end Go.Proofs.YtcgplocmncionaaGreat
