/- What is proved here: what a slice of bytes in memory is, and that it lasts. No condition. -/
import Derived.Test.YtchnpekgmkhacaaDeRep
set_option linter.unusedVariables false
set_option linter.unusedSimpArgs false
namespace Go.Proofs.Ytchnpekgmkhacaa
open Go Go.RowKit
/-- A slice of bytes, cell by cell. -/
def BytesC (w : World) (a : Option Addr) (l : List Int) : Prop :=
  ∀ i (_ : i < l.length), ∃ b off, a = some ⟨b, off, none⟩ ∧ b < w.heap.size ∧ w.cell? ⟨b, off + i, none⟩ = some (.int .u8 l[i]) ∧ 0 ≤ l[i] ∧ l[i] ≤ 255
theorem BytesC.mono {w W : World} {a : Option Addr} {l : List Int} (h : BytesC w a l) (hb : Below w.heap.size w W) : BytesC W a l := fun i hi => by
  obtain ⟨b, off, e, hlt, hc, h2⟩ := h i hi
  exact ⟨b, off, e, Nat.lt_of_lt_of_le hlt hb.size, cell_below hb hc, h2⟩
end Go.Proofs.Ytchnpekgmkhacaa
