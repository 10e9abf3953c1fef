/- What is proved here: how a hall of layer 9 lies in memory, and that it stays while memory grows, or turns in a block that holds no cells. No condition. -/
import Derived.Test.YtchnpekgmkhacaaKeep
import Derived.Test.YtchnpekgmkhacaaDePlainB
set_option linter.unusedVariables false
set_option linter.unusedSimpArgs false
namespace Go.Proofs.Ytchnpekgmkhacaa
open Go Go.RowKit

def WritersC (w : World) (a : Option Addr) (l : List DeW) : Prop :=
  ∀ i (_ : i < l.length), ∃ b off, a = some ⟨b, off, none⟩ ∧ b < w.heap.size ∧ w.cell? ⟨b, off + i * 4, none⟩ = some (.string l[i].name) ∧ w.cell? ⟨b, off + i * 4 + 1, none⟩ = some (.int .i64 l[i].kinds) ∧ w.cell? ⟨b, off + i * 4 + 2, none⟩ = some (.int .i64 l[i].lo) ∧ w.cell? ⟨b, off + i * 4 + 3, none⟩ = some (.int .i64 l[i].hi)
theorem WritersC.keep {w W : World} {a : Option Addr} {l : List DeW} (h : WritersC w a l) (hb : Keeps w W) : WritersC W a l := fun i hi => by
  obtain ⟨b, off, e, hlt, h0, h1, h2, h3⟩ := h i hi
  exact ⟨b, off, e, Nat.lt_of_lt_of_le hlt hb.1, hb.2 _ _ h0, hb.2 _ _ h1, hb.2 _ _ h2, hb.2 _ _ h3⟩
theorem WritersC.mono {w W : World} {a : Option Addr} {l : List DeW} (h : WritersC w a l) (hb : Below w.heap.size w W) : WritersC W a l := h.keep (.of_below hb)
theorem WritersC.take {w : World} {a : Option Addr} {l : List DeW} (h : WritersC w a l) (k : Nat) : WritersC w a (l.take k) := fun i hi => by
  have hi2 : i < l.length := by rw [List.length_take] at hi; omega
  obtain ⟨b, off, e, hlt, h0⟩ := h i hi2
  exact ⟨b, off, e, hlt, by rw [List.getElem_take]; exact h0⟩
theorem WritersC.nil (w : World) (a : Option Addr) : WritersC w a [] := fun i hi => absurd hi (Nat.not_lt_zero i)
@[reducible] def deWV (x : DeW) : Value := .agg #[.string x.name, .int .i64 x.kinds, .int .i64 x.lo, .int .i64 x.hi]
def CustsC (w : World) (a : Option Addr) (l : List DeC) : Prop :=
  ∀ i (_ : i < l.length), ∃ b off, a = some ⟨b, off, none⟩ ∧ b < w.heap.size ∧ w.cell? ⟨b, off + i * 5, none⟩ = some (.string l[i].name) ∧ w.cell? ⟨b, off + i * 5 + 1, none⟩ = some (.int .i64 l[i].kind) ∧ w.cell? ⟨b, off + i * 5 + 2, none⟩ = some (.int .i64 l[i].lo) ∧ w.cell? ⟨b, off + i * 5 + 3, none⟩ = some (.int .i64 l[i].hi) ∧ w.cell? ⟨b, off + i * 5 + 4, none⟩ = some (.int .i64 l[i].ship)
theorem CustsC.keep {w W : World} {a : Option Addr} {l : List DeC} (h : CustsC w a l) (hb : Keeps w W) : CustsC W a l := fun i hi => by
  obtain ⟨b, off, e, hlt, h0, h1, h2, h3, h4⟩ := h i hi
  exact ⟨b, off, e, Nat.lt_of_lt_of_le hlt hb.1, hb.2 _ _ h0, hb.2 _ _ h1, hb.2 _ _ h2, hb.2 _ _ h3, hb.2 _ _ h4⟩
theorem CustsC.mono {w W : World} {a : Option Addr} {l : List DeC} (h : CustsC w a l) (hb : Below w.heap.size w W) : CustsC W a l := h.keep (.of_below hb)
theorem CustsC.take {w : World} {a : Option Addr} {l : List DeC} (h : CustsC w a l) (k : Nat) : CustsC w a (l.take k) := fun i hi => by
  have hi2 : i < l.length := by rw [List.length_take] at hi; omega
  obtain ⟨b, off, e, hlt, h0⟩ := h i hi2
  exact ⟨b, off, e, hlt, by rw [List.getElem_take]; exact h0⟩
theorem CustsC.nil (w : World) (a : Option Addr) : CustsC w a [] := fun i hi => absurd hi (Nat.not_lt_zero i)
@[reducible] def deCV (x : DeC) : Value := .agg #[.string x.name, .int .i64 x.kind, .int .i64 x.lo, .int .i64 x.hi, .int .i64 x.ship]

/-- A hall of layer 9 in memory: two slices. -/
structure HallC (w : World) (aw ac : Option Addr) (kw kc : Nat) (h : DeH) : Prop where
  okw : SlOk aw h.writers.length kw
  okc : SlOk ac h.customers.length kc
  writers : WritersC w aw h.writers
  custs : CustsC w ac h.customers
  wsize : ∀ x ∈ h.writers, x.name.size ≤ 9223372036854775807
  csize : ∀ x ∈ h.customers, x.name.size ≤ 9223372036854775807
theorem HallC.keep {w W : World} {aw ac : Option Addr} {kw kc : Nat} {h : DeH} (k : HallC w aw ac kw kc h) (hb : Keeps w W) : HallC W aw ac kw kc h := ⟨k.okw, k.okc, k.writers.keep hb, k.custs.keep hb, k.wsize, k.csize⟩
theorem HallC.mono {w W : World} {aw ac : Option Addr} {kw kc : Nat} {h : DeH} (k : HallC w aw ac kw kc h) (hb : Below w.heap.size w W) : HallC W aw ac kw kc h := k.keep (.of_below hb)
@[reducible] def hallV (aw ac : Option Addr) (kw kc : Nat) (h : DeH) : Value := (.agg #[.int .i64 h.wax, .slice aw h.writers.length kw, .slice ac h.customers.length kc])
def HallV (w : World) (v : Value) (h : DeH) : Prop := ∃ aw ac kw kc, v = hallV aw ac kw kc h ∧ HallC w aw ac kw kc h
theorem HallV.mono {w W : World} {v : Value} {h : DeH} (k : HallV w v h) (hb : Below w.heap.size w W) : HallV W v h := by
  obtain ⟨aw, ac, kw, kc, e, h1⟩ := k; exact ⟨aw, ac, kw, kc, e, h1.mono hb⟩
/-- Lists of numbers that stay. -/
theorem RowsC.keep {w W : World} {a : Option Addr} {L : List (List Int)} (h : RowsC w a L) (hb : Keeps w W) : RowsC W a L := fun i hi => by
  obtain ⟨b, off, a2, c2, e, hlt, h1, h2, h3⟩ := h i hi
  exact ⟨b, off, a2, c2, e, Nat.lt_of_lt_of_le hlt hb.1, hb.2 _ _ h1, h2, h3.keep hb⟩
theorem RowsV.keep {w W : World} {v : Value} {L : List (List Int)} (h : RowsV w v L) (hb : Keeps w W) : RowsV W v L := by
  obtain ⟨a, c, e, h1, h3⟩ := h; exact ⟨a, c, e, h1, h3.keep hb⟩
/-- Spans. -/
def SpansC (w : World) (a : Option Addr) (l : List (Int × Int)) : Prop :=
  ∀ i (_ : i < l.length), ∃ b off, a = some ⟨b, off, none⟩ ∧ b < w.heap.size ∧ w.cell? ⟨b, off + i * 2, none⟩ = some (.int .i64 l[i].1) ∧ w.cell? ⟨b, off + i * 2 + 1, none⟩ = some (.int .i64 l[i].2)
theorem SpansC.keep {w W : World} {a : Option Addr} {l : List (Int × Int)} (h : SpansC w a l) (hb : Keeps w W) : SpansC W a l := fun i hi => by
  obtain ⟨b, off, e, hlt, h0, h1⟩ := h i hi
  exact ⟨b, off, e, Nat.lt_of_lt_of_le hlt hb.1, hb.2 _ _ h0, hb.2 _ _ h1⟩
theorem SpansC.mono {w W : World} {a : Option Addr} {l : List (Int × Int)} (h : SpansC w a l) (hb : Below w.heap.size w W) : SpansC W a l := h.keep (.of_below hb)
def SpansV (w : World) (v : Value) (l : List (Int × Int)) : Prop := ∃ a c, v = .slice a l.length c ∧ SlOk a l.length c ∧ SpansC w a l
theorem SpansV.mono {w W : World} {v : Value} {l : List (Int × Int)} (h : SpansV w v l) (hb : Below w.heap.size w W) : SpansV W v l := by
  obtain ⟨a, c, e, h1, h2⟩ := h; exact ⟨a, c, e, h1, h2.mono hb⟩
end Go.Proofs.Ytchnpekgmkhacaa
