/- What is proved here: a turn of memory that leaves all cells: lists of strings, of ints stay. No condition. -/
import Derived.Test.YtchnpekgmkhacaaDeGround
import Derived.RangeFuncOwn
set_option linter.unusedVariables false
set_option linter.unusedSimpArgs false
namespace Go.Proofs.Ytchnpekgmkhacaa
open Go Go.RowKit
/-- A turn of memory that leaves all cells: it grows, or a block turns that holds none (a map). -/
def Keeps (w W : World) : Prop := w.heap.size ≤ W.heap.size ∧ ∀ a v, w.cell? a = some v → W.cell? a = some v
theorem Keeps.refl (w : World) : Keeps w w := ⟨Nat.le_refl _, fun _ _ h => h⟩
theorem Keeps.trans {a b c : World} (h : Keeps a b) (k : Keeps b c) : Keeps a c := ⟨Nat.le_trans h.1 k.1, fun x v e => k.2 x v (h.2 x v e)⟩
theorem Keeps.of_below {w W : World} (h : Below w.heap.size w W) : Keeps w W := ⟨h.size, fun a v e => (h.cell (p := a) (lt_of_cell e)).trans e⟩
theorem Keeps.of_grown {w W : World} {b : Nat} {es : Array MapEntry} {c : Nat} (h : w.grownBy W (some b)) (hb : w.heap[b]? = some (.map es c)) : Keeps w W :=
  ⟨h.size, fun a v e => h.cell e (fun he => by cases he; simp [World.cell?, hb] at e)⟩

theorem StrsC.keep {w W : World} {a : Option Addr} {l : List ByteArray} (h : StrsC w a l) (hb : Keeps w W) : StrsC W a l := fun i hi => by
  obtain ⟨b, off, e, hlt, h1⟩ := h i hi
  exact ⟨b, off, e, Nat.lt_of_lt_of_le hlt hb.1, hb.2 _ _ h1⟩
theorem IntsC.keep {w W : World} {a : Option Addr} {l : List Int} (h : IntsC w a l) (hb : Keeps w W) : IntsC W a l := fun i hi => by
  obtain ⟨b, off, e, hlt, h1⟩ := h i hi
  exact ⟨b, off, e, Nat.lt_of_lt_of_le hlt hb.1, hb.2 _ _ h1⟩
theorem IntsV.keep {w W : World} {v : Value} {l : List Int} (h : IntsV w v l) (hb : Keeps w W) : IntsV W v l := by
  obtain ⟨a, c, e, h1, h3⟩ := h; exact ⟨a, c, e, h1, h3.keep hb⟩
end Go.Proofs.Ytchnpekgmkhacaa
