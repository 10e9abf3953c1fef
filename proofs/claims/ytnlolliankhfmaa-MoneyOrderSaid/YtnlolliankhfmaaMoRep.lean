/- What is proved here: how a list of layer 7 lies in memory, and that it stays while memory grows. No condition. -/
import Derived.Test.YtnlolliankhfmaaGround
import Derived.Test.YtnlolliankhfmaaPlain
set_option linter.unusedVariables false
set_option linter.unusedSimpArgs false
namespace Go.Proofs.Ytnlolliankhfmaa
open Go Go.RowKit

def SumsC (w : World) (a : Option Addr) (l : List MoSum) : Prop :=
  ∀ i (_ : i < l.length), ∃ b off, a = some ⟨b, off, none⟩ ∧ b < w.heap.size ∧ w.cell? ⟨b, off + i * 3, none⟩ = some (.string l[i].name) ∧ w.cell? ⟨b, off + i * 3 + 1, none⟩ = some (.int .i64 l[i].pence) ∧
    w.cell? ⟨b, off + i * 3 + 2, none⟩ = some (.int .i64 l[i].for_)
def WordsC (w : World) (a : Option Addr) (l : List MoWord) : Prop :=
  ∀ i (_ : i < l.length), ∃ b off, a = some ⟨b, off, none⟩ ∧ b < w.heap.size ∧ w.cell? ⟨b, off + i * 5, none⟩ = some (.int .i64 l[i].says) ∧ w.cell? ⟨b, off + i * 5 + 1, none⟩ = some (.int .i64 l[i].sum) ∧
    w.cell? ⟨b, off + i * 5 + 2, none⟩ = some (.int .i64 l[i].of) ∧ w.cell? ⟨b, off + i * 5 + 3, none⟩ = some (.int .i64 l[i].back) ∧ w.cell? ⟨b, off + i * 5 + 4, none⟩ = some (.bool l[i].came)
def PaidC (w : World) (a : Option Addr) (l : List MoPaid) : Prop :=
  ∀ i (_ : i < l.length), ∃ b off, a = some ⟨b, off, none⟩ ∧ b < w.heap.size ∧ w.cell? ⟨b, off + i * 2, none⟩ = some (.int .i64 l[i].sum) ∧ w.cell? ⟨b, off + i * 2 + 1, none⟩ = some (.int .i64 l[i].claimant)
theorem SumsC.mono {w W : World} {a : Option Addr} {l : List MoSum} (h : SumsC w a l) (hb : Below w.heap.size w W) : SumsC W a l := fun i hi => by
  obtain ⟨b, off, e, hlt, h1, h2, h3⟩ := h i hi
  exact ⟨b, off, e, Nat.lt_of_lt_of_le hlt hb.size, cell_below hb h1, cell_below hb h2, cell_below hb h3⟩
theorem WordsC.mono {w W : World} {a : Option Addr} {l : List MoWord} (h : WordsC w a l) (hb : Below w.heap.size w W) : WordsC W a l := fun i hi => by
  obtain ⟨b, off, e, hlt, h1, h2, h3, h4, h5⟩ := h i hi
  exact ⟨b, off, e, Nat.lt_of_lt_of_le hlt hb.size, cell_below hb h1, cell_below hb h2, cell_below hb h3, cell_below hb h4, cell_below hb h5⟩
theorem PaidC.mono {w W : World} {a : Option Addr} {l : List MoPaid} (h : PaidC w a l) (hb : Below w.heap.size w W) : PaidC W a l := fun i hi => by
  obtain ⟨b, off, e, hlt, h1, h2⟩ := h i hi
  exact ⟨b, off, e, Nat.lt_of_lt_of_le hlt hb.size, cell_below hb h1, cell_below hb h2⟩

/-- A list of layer 7 in memory: four slices. -/
structure ListC (w : World) (ac az aw ap : Option Addr) (cc cz cw cp : Nat) (m : MoList) : Prop where
  okc : SlOk ac m.claimants.length cc
  okz : SlOk az m.sums.length cz
  okw : SlOk aw m.words.length cw
  okp : SlOk ap m.paid.length cp
  claimants : StrsC w ac m.claimants
  sums : SumsC w az m.sums
  words : WordsC w aw m.words
  paid : PaidC w ap m.paid
  csize : ∀ s ∈ m.claimants, s.size ≤ 9223372036854775807
  zsize : ∀ s ∈ m.sums, s.name.size ≤ 9223372036854775807
theorem ListC.mono {w W : World} {ac az aw ap : Option Addr} {cc cz cw cp : Nat} {m : MoList} (h : ListC w ac az aw ap cc cz cw cp m) (hb : Below w.heap.size w W) : ListC W ac az aw ap cc cz cw cp m :=
  ⟨h.okc, h.okz, h.okw, h.okp, h.claimants.mono hb, h.sums.mono hb, h.words.mono hb, h.paid.mono hb, h.csize, h.zsize⟩

/-- The value of a list of layer 7. -/
@[reducible] def listV (ac az aw ap : Option Addr) (cc cz cw cp : Nat) (m : MoList) : Value :=
  .agg #[.slice ac m.claimants.length cc, .slice az m.sums.length cz, .slice aw m.words.length cw, .slice ap m.paid.length cp]
/-- A value that is a list of layer 7. -/
def ListV (w : World) (v : Value) (m : MoList) : Prop := ∃ ac az aw ap cc cz cw cp, v = listV ac az aw ap cc cz cw cp m ∧ ListC w ac az aw ap cc cz cw cp m
end Go.Proofs.Ytnlolliankhfmaa
