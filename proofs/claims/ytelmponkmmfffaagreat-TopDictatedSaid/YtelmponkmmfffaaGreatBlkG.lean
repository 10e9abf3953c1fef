/- What is proved here: readings of Go slices in the model's memory (lists of ints, of strings, of lists of ints), that they last while memory only grows, and small closing lemmas. No condition. -/
/- What is proved here: a turn of memory that leaves all cells: lists of strings, of ints stay. No condition. -/
/- What is proved here: how a hall of layer 9 lies in memory, and that it stays while memory grows, or turns in a block that holds no cells. No condition. -/
/- What is proved here: contracts of the small helpers of the references (In, Inside, Has, Rising, Bit, Less, Fewer, Ints). Conditions: slices are of lengths that a machine can hold. -/
/- What is proved here: contracts of the helpers of the references that look at names (Where, Name, Fresh). Conditions: slices and strings are of lengths that a machine can hold. -/
/- What is proved here: a block of cells, whole: what its cells hold, behind a store, behind other memory's turns. Over any program. -/
import Derived.WalkKit
import Derived.WalkSpells
import Derived.WalkLawsBesides
import Derived.Lib.Hide
import Derived.Deep.QuietTactic
import Derived.BigQuiet
import Derived.Handy
import Derived.OrdersHeld
import Derived.PlainAid
import Derived.Maps.AppendAt
import Derived.Laws.AppendOwnNone
import Derived.RangeFuncOwn
import Derived.Test.YtelmponkmmfffaaGreatDeLaterG
import Derived.Test.YtelmponkmmfffaaGreatProg
import Derived.Test.YtelmponkmmfffaaGreatDeSpecG
import Derived.OneCell
import Derived.Laws.ResultCell
set_option linter.unusedVariables false
set_option linter.unusedSimpArgs false
namespace Go.Proofs.YtelmponkmmfffaaGreat
open Go Go.RowKit

section
variable {P : Program} {ops : Array Oper} {Q : Exit → Act → World → Prop} {md : Region.Mode} {S : World → Prop}
end
theorem ret_bool {a b : Bool} (h : a = b) : Ending.returned (.bool a) = .returned (.bool b) := by rw [h]
theorem ret_int {k : IntKind} {a b : Int} (h : a = b) : Ending.returned (.int k a) = .returned (.int k b) := by rw [h]
theorem val_bool {a b : Bool} (h : a = b) : Value.bool a = .bool b := by rw [h]
theorem eqn_t {a b : Nat} (h : a = b) : ((a : Int) == (b : Int)) = true := by simp [h]
theorem eqn_f {a b : Nat} (h : a ≠ b) : ((a : Int) == (b : Int)) = false := by simp; omega
theorem eqi_t {a b : Int} (h : a = b) : (a == b) = true := by simp [h]
theorem eqi_f {a b : Int} (h : a ≠ b) : (a == b) = false := by simp; omega
theorem nei_t {a b : Int} (h : a ≠ b) : (a != b) = true := by simp; omega
theorem nei_f {a b : Int} (h : a = b) : (a != b) = false := by simp [h]

theorem str_eq (x y : ByteArray) : (x.toList == y.toList) = decide (x = y) := by
  rw [Bool.eq_iff_iff]
  simp only [beq_iff_eq, decide_eq_true_eq]
  constructor
  · intro h
    rw [ByteArray.toList_eq, ByteArray.toList_eq] at h
    obtain ⟨⟨a⟩⟩ := x
    obtain ⟨⟨b⟩⟩ := y
    simp at h
    rw [h]
  · rintro rfl
    rfl
theorem str_t {x y : ByteArray} (h : x = y) : (x.toList == y.toList) = true := by rw [str_eq]; simp [h]
theorem str_f {x y : ByteArray} (h : x ≠ y) : (x.toList == y.toList) = false := by rw [str_eq]; simp [h]

/-- A step of a range over a string: at a byte of ASCII, and at any other. -/
theorem decode_high (s : ByteArray) (pos : Nat) (h : pos < s.size) (ha : 128 ≤ (s[pos]'h).toNat) : 128 ≤ (Utf8.decode s pos).1 := by
  have e : s.get! (pos + 0) = s[pos]'h := by
    show s.get! pos = _
    simp [ByteArray.get!, getElem!_pos, h]
    rfl
  simp only [Utf8.decode, e, Utf8.runeError]
  rw [if_neg (by omega)]
  repeat' split
  all_goals first | (simp only [ge_iff_le]; omega) | (rename_i hh; simp only [Bool.and_eq_true, decide_eq_true_eq, ge_iff_le] at hh; simp only; omega) | (simp only; omega)
theorem below_drewN' {B : Nat} {w w' : World} (h : Below B w w') (q : Nat) : Below B w (w'.drewN q) := ⟨h.os, h.tape, h.output, h.size, h.block⟩
theorem below_draws (B : Nat) (w : World) (q : Nat) : Below B w (w.drewN q) := below_drewN' (Below.refl B w) q

/-- A slice value's address, length and capacity fit. -/
def SlOk (a : Option Addr) (n c : Nat) : Prop := n ≤ c ∧ c ≤ 9223372036854775807 ∧ (a = none → c = 0)
theorem SlOk.len {a : Option Addr} {n c : Nat} (h : SlOk a n c) : n ≤ 9223372036854775807 := Nat.le_trans h.1 h.2.1

/-- A slice of ints, cell by cell. -/
def IntsC (w : World) (a : Option Addr) (l : List Int) : Prop :=
  ∀ i (_ : i < l.length), ∃ b off, a = some ⟨b, off, none⟩ ∧ b < w.heap.size ∧ w.cell? ⟨b, off + i, none⟩ = some (.int .i64 l[i])
/-- A slice of strings. -/
def StrsC (w : World) (a : Option Addr) (l : List ByteArray) : Prop :=
  ∀ i (_ : i < l.length), ∃ b off, a = some ⟨b, off, none⟩ ∧ b < w.heap.size ∧ w.cell? ⟨b, off + i, none⟩ = some (.string l[i])
/-- A slice of slices of ints. -/
def RowsC (w : World) (a : Option Addr) (L : List (List Int)) : Prop :=
  ∀ i (_ : i < L.length), ∃ b off a' c', a = some ⟨b, off, none⟩ ∧ b < w.heap.size ∧ w.cell? ⟨b, off + i, none⟩ = some (.slice a' L[i].length c') ∧ SlOk a' L[i].length c' ∧ IntsC w a' L[i]

theorem lt_of_cell {w : World} {a : Addr} {v : Value} (h : w.cell? a = some v) : a.block < w.heap.size := World.block_lt_of_cell? w a h
theorem cell_below {w W : World} (hb : Below w.heap.size w W) {b off : Nat} {v : Value} (h : w.cell? ⟨b, off, none⟩ = some v) : W.cell? ⟨b, off, none⟩ = some v :=
  (hb.cell (p := ⟨b, off, none⟩) (lt_of_cell h)).trans h

theorem IntsC.mono {w W : World} {a : Option Addr} {l : List Int} (h : IntsC w a l) (hb : Below w.heap.size w W) : IntsC W a l := fun i hi => by
  obtain ⟨b, off, e, hlt, hc⟩ := h i hi
  exact ⟨b, off, e, Nat.lt_of_lt_of_le hlt hb.size, cell_below hb hc⟩
theorem StrsC.mono {w W : World} {a : Option Addr} {l : List ByteArray} (h : StrsC w a l) (hb : Below w.heap.size w W) : StrsC W a l := fun i hi => by
  obtain ⟨b, off, e, hlt, hc⟩ := h i hi
  exact ⟨b, off, e, Nat.lt_of_lt_of_le hlt hb.size, cell_below hb hc⟩
theorem RowsC.mono {w W : World} {a : Option Addr} {L : List (List Int)} (h : RowsC w a L) (hb : Below w.heap.size w W) : RowsC W a L := fun i hi => by
  obtain ⟨b, off, a', c', e, hlt, hc, h1, h3⟩ := h i hi
  exact ⟨b, off, a', c', e, Nat.lt_of_lt_of_le hlt hb.size, cell_below hb hc, h1, h3.mono hb⟩

theorem IntsC.nil (w : World) (a : Option Addr) : IntsC w a [] := fun i hi => absurd hi (Nat.not_lt_zero i)
theorem StrsC.nil (w : World) (a : Option Addr) : StrsC w a [] := fun i hi => absurd hi (Nat.not_lt_zero i)
theorem RowsC.nil (w : World) (a : Option Addr) : RowsC w a [] := fun i hi => absurd hi (Nat.not_lt_zero i)

/-- The first elements of a slice of strings. -/
theorem StrsC.take {w : World} {a : Option Addr} {l : List ByteArray} (h : StrsC w a l) (k : Nat) : StrsC w a (l.take k) := fun i hi => by
  have hi' : i < l.length := by simp at hi; omega
  obtain ⟨b, off, e, hlt, hc⟩ := h i hi'
  exact ⟨b, off, e, hlt, by rw [hc]; simp⟩

/-- A slice value that holds a list of ints. -/
def IntsV (w : World) (v : Value) (l : List Int) : Prop := ∃ a c, v = .slice a l.length c ∧ SlOk a l.length c ∧ IntsC w a l
def StrsV (w : World) (v : Value) (l : List ByteArray) : Prop := ∃ a c, v = .slice a l.length c ∧ SlOk a l.length c ∧ StrsC w a l
def RowsV (w : World) (v : Value) (L : List (List Int)) : Prop := ∃ a c, v = .slice a L.length c ∧ SlOk a L.length c ∧ RowsC w a L
theorem IntsV.mono {w W : World} {v : Value} {l : List Int} (h : IntsV w v l) (hb : Below w.heap.size w W) : IntsV W v l := by
  obtain ⟨a, c, e, h1, h3⟩ := h; exact ⟨a, c, e, h1, h3.mono hb⟩
theorem RowsV.mono {w W : World} {v : Value} {L : List (List Int)} (h : RowsV w v L) (hb : Below w.heap.size w W) : RowsV W v L := by
  obtain ⟨a, c, e, h1, h3⟩ := h; exact ⟨a, c, e, h1, h3.mono hb⟩

theorem ints_own {w : World} {base : Nat} {e : TypeId} {g cap n : Nat} {l : List Int} {xs : List Value} (h : w.ownsRow base e 1 (.slice (some ⟨g, 0, none⟩) n cap) n xs) (hx : xs = l.map (Value.int .i64)) :
    n = l.length ∧ IntsC w (some ⟨g, 0, none⟩) l ∧ SlOk (some ⟨g, 0, none⟩) l.length cap ∧ base ≤ g ∧ g < w.heap.size := by
  subst hx
  have hn : n = l.length := by have := h.1; simp at this; omega
  subst hn
  have hm : maxLen = 9223372036854775807 := rfl
  rcases h.2 with ⟨hv, _⟩ | ⟨g', cap', cur, hv, hb, hg, h1, h2, h3, h4⟩
  · cases hv
  · cases hv
    refine ⟨rfl, fun i hi => ⟨g, 0, rfl, (Array.getElem?_eq_some_iff.1 hg).1, ?_⟩, ⟨h1, by omega, fun h => by cases h⟩, hb, (Array.getElem?_eq_some_iff.1 hg).1⟩
    have := h.cells (g := g) rfl i (.int .i64 l[i]) (by simp [hi])
    simpa [Addr.add_lit] using this

/-- What the call has collected by append reads as a list of ints. -/
theorem IntsV.of_own {w : World} {base : Nat} {e : TypeId} {v : Value} {n : Nat} {l : List Int} (h : w.ownsRow base e 1 v n (l.map (Value.int .i64))) : IntsV w v l := by
  have hn : l.length = n := by simpa using h.1
  subst hn
  rcases h.2 with ⟨rfl, h0⟩ | ⟨g, cap, cur, rfl, _, hg, h1, h2, h3, h4⟩
  · have : l = [] := List.eq_nil_of_length_eq_zero h0
    subst this
    exact ⟨none, 0, rfl, ⟨Nat.le_refl _, by omega, fun _ => rfl⟩, IntsC.nil _ _⟩
  · have hm : maxLen = 9223372036854775807 := rfl
    refine ⟨some ⟨g, 0, none⟩, cap, rfl, ⟨h1, by omega, fun h => by cases h⟩, fun i hi => ⟨g, 0, rfl, (Array.getElem?_eq_some_iff.1 hg).1, ?_⟩⟩
    have := h.cells (g := g) rfl i (.int .i64 l[i]) (by simp [hi])
    simpa [Addr.add_lit] using this

/-- A block that the call laid for a parameter or a variable. -/
theorem box_cell {w W : World} {cs : Array Value} {t : TypeId} (h : Below (w.heap.size + 1) (w.alloc (.cells cs t)) W) (j : Nat) (v : Value) (hj : cs[j]? = some v) : W.cell? ⟨w.heap.size, j, none⟩ = some v := by
  rw [h.cell (p := ⟨w.heap.size, j, none⟩) (by simp)]
  simp only [World.cell?, heap_alloc_new]
  simpa using hj
theorem box_old {w W : World} {o : Obj} (h : Below (w.heap.size + 1) (w.alloc o) W) : Below w.heap.size w W :=
  ((Below.refl _ w).alloc (Nat.le_refl _) o).trans (h.mono (by omega))
theorem box_size {w W : World} {o : Obj} (h : Below (w.heap.size + 1) (w.alloc o) W) : w.heap.size < W.heap.size := by
  have := h.size
  simp at this
  omega

/-- What the call has collected by append reads as a list of strings. -/
theorem strs_own {w : World} {base : Nat} {e : TypeId} {v : Value} {n : Nat} {l : List ByteArray} (h : w.ownsRow base e 1 v n (l.map Value.string)) :
    n = l.length ∧ ∃ a c, v = .slice a l.length c ∧ SlOk a l.length c ∧ StrsC w a l := by
  have hn : l.length = n := by simpa using h.1
  subst hn
  refine ⟨rfl, ?_⟩
  rcases h.2 with ⟨rfl, h0⟩ | ⟨g, cap, cur, rfl, _, hg, h1, h2, h3, h4⟩
  · have : l = [] := List.eq_nil_of_length_eq_zero h0
    subst this
    exact ⟨none, 0, rfl, ⟨Nat.le_refl _, by omega, fun _ => rfl⟩, StrsC.nil _ _⟩
  · have hm : maxLen = 9223372036854775807 := rfl
    refine ⟨some ⟨g, 0, none⟩, cap, rfl, ⟨h1, by omega, fun h => by cases h⟩, fun i hi => ⟨g, 0, rfl, (Array.getElem?_eq_some_iff.1 hg).1, ?_⟩⟩
    have := h.cells (g := g) rfl i (.string l[i]) (by simp [hi])
    simpa [Addr.add_lit] using this
end Go.Proofs.YtelmponkmmfffaaGreat
namespace Go.Proofs.YtelmponkmmfffaaGreat
open Go Go.RowKit
/-- A turn of memory that leaves all cells: it grows, or a block turns that holds none (a map). -/
def Keeps (w W : World) : Prop := w.heap.size ≤ W.heap.size ∧ ∀ a v, w.cell? a = some v → W.cell? a = some v
theorem Keeps.refl (w : World) : Keeps w w := ⟨Nat.le_refl _, fun _ _ h => h⟩
theorem Keeps.trans {a b c : World} (h : Keeps a b) (k : Keeps b c) : Keeps a c := ⟨Nat.le_trans h.1 k.1, fun x v e => k.2 x v (h.2 x v e)⟩
theorem Keeps.of_below {w W : World} (h : Below w.heap.size w W) : Keeps w W := ⟨h.size, fun a v e => (h.cell (p := a) (lt_of_cell e)).trans e⟩
theorem Keeps.of_grown {w W : World} {b : Nat} {es : Array MapEntry} {c : Nat} (h : w.grownBy W (some b)) (hb : w.heap[b]? = some (.map es c)) : Keeps w W :=
  ⟨h.size, fun a v e => h.cell e (fun he => by cases he; simp [World.cell?, hb] at e)⟩

theorem StrsC.keep {w W : World} {a : Option Addr} {l : List ByteArray} (h : StrsC w a l) (hb : Keeps w W) : StrsC W a l := fun i hi => by
  obtain ⟨b, off, e, hlt, h1⟩ := h i hi
  exact ⟨b, off, e, Nat.lt_of_lt_of_le hlt hb.1, hb.2 _ _ h1⟩
theorem IntsC.keep {w W : World} {a : Option Addr} {l : List Int} (h : IntsC w a l) (hb : Keeps w W) : IntsC W a l := fun i hi => by
  obtain ⟨b, off, e, hlt, h1⟩ := h i hi
  exact ⟨b, off, e, Nat.lt_of_lt_of_le hlt hb.1, hb.2 _ _ h1⟩
theorem IntsV.keep {w W : World} {v : Value} {l : List Int} (h : IntsV w v l) (hb : Keeps w W) : IntsV W v l := by
  obtain ⟨a, c, e, h1, h3⟩ := h; exact ⟨a, c, e, h1, h3.keep hb⟩
end Go.Proofs.YtelmponkmmfffaaGreat
namespace Go.Proofs.YtelmponkmmfffaaGreat
open Go Go.RowKit

def WritersC (w : World) (a : Option Addr) (l : List DeW) : Prop :=
  ∀ i (_ : i < l.length), ∃ b off, a = some ⟨b, off, none⟩ ∧ b < w.heap.size ∧ w.cell? ⟨b, off + i * 4, none⟩ = some (.string l[i].name) ∧ w.cell? ⟨b, off + i * 4 + 1, none⟩ = some (.int .i64 l[i].kinds) ∧ w.cell? ⟨b, off + i * 4 + 2, none⟩ = some (.int .i64 l[i].lo) ∧ w.cell? ⟨b, off + i * 4 + 3, none⟩ = some (.int .i64 l[i].hi)
theorem WritersC.keep {w W : World} {a : Option Addr} {l : List DeW} (h : WritersC w a l) (hb : Keeps w W) : WritersC W a l := fun i hi => by
  obtain ⟨b, off, e, hlt, h0, h1, h2, h3⟩ := h i hi
  exact ⟨b, off, e, Nat.lt_of_lt_of_le hlt hb.1, hb.2 _ _ h0, hb.2 _ _ h1, hb.2 _ _ h2, hb.2 _ _ h3⟩
theorem WritersC.mono {w W : World} {a : Option Addr} {l : List DeW} (h : WritersC w a l) (hb : Below w.heap.size w W) : WritersC W a l := h.keep (.of_below hb)
theorem WritersC.take {w : World} {a : Option Addr} {l : List DeW} (h : WritersC w a l) (k : Nat) : WritersC w a (l.take k) := fun i hi => by
  have hi2 : i < l.length := by rw [List.length_take] at hi; omega
  obtain ⟨b, off, e, hlt, h0⟩ := h i hi2
  exact ⟨b, off, e, hlt, by rw [List.getElem_take]; exact h0⟩
theorem WritersC.nil (w : World) (a : Option Addr) : WritersC w a [] := fun i hi => absurd hi (Nat.not_lt_zero i)
def CustsC (w : World) (a : Option Addr) (l : List DeC) : Prop :=
  ∀ i (_ : i < l.length), ∃ b off, a = some ⟨b, off, none⟩ ∧ b < w.heap.size ∧ w.cell? ⟨b, off + i * 5, none⟩ = some (.string l[i].name) ∧ w.cell? ⟨b, off + i * 5 + 1, none⟩ = some (.int .i64 l[i].kind) ∧ w.cell? ⟨b, off + i * 5 + 2, none⟩ = some (.int .i64 l[i].lo) ∧ w.cell? ⟨b, off + i * 5 + 3, none⟩ = some (.int .i64 l[i].hi) ∧ w.cell? ⟨b, off + i * 5 + 4, none⟩ = some (.int .i64 l[i].ship)
theorem CustsC.keep {w W : World} {a : Option Addr} {l : List DeC} (h : CustsC w a l) (hb : Keeps w W) : CustsC W a l := fun i hi => by
  obtain ⟨b, off, e, hlt, h0, h1, h2, h3, h4⟩ := h i hi
  exact ⟨b, off, e, Nat.lt_of_lt_of_le hlt hb.1, hb.2 _ _ h0, hb.2 _ _ h1, hb.2 _ _ h2, hb.2 _ _ h3, hb.2 _ _ h4⟩
theorem CustsC.mono {w W : World} {a : Option Addr} {l : List DeC} (h : CustsC w a l) (hb : Below w.heap.size w W) : CustsC W a l := h.keep (.of_below hb)
theorem CustsC.take {w : World} {a : Option Addr} {l : List DeC} (h : CustsC w a l) (k : Nat) : CustsC w a (l.take k) := fun i hi => by
  have hi2 : i < l.length := by rw [List.length_take] at hi; omega
  obtain ⟨b, off, e, hlt, h0⟩ := h i hi2
  exact ⟨b, off, e, hlt, by rw [List.getElem_take]; exact h0⟩
theorem CustsC.nil (w : World) (a : Option Addr) : CustsC w a [] := fun i hi => absurd hi (Nat.not_lt_zero i)
/-- A hall of layer 9 in memory: two slices. -/
structure HallC (w : World) (aw ac : Option Addr) (kw kc : Nat) (h : DeH) : Prop where
  okw : SlOk aw h.writers.length kw
  okc : SlOk ac h.customers.length kc
  writers : WritersC w aw h.writers
  custs : CustsC w ac h.customers
  wsize : ∀ x ∈ h.writers, x.name.size ≤ 9223372036854775807
  csize : ∀ x ∈ h.customers, x.name.size ≤ 9223372036854775807
theorem HallC.keep {w W : World} {aw ac : Option Addr} {kw kc : Nat} {h : DeH} (k : HallC w aw ac kw kc h) (hb : Keeps w W) : HallC W aw ac kw kc h := ⟨k.okw, k.okc, k.writers.keep hb, k.custs.keep hb, k.wsize, k.csize⟩
theorem HallC.mono {w W : World} {aw ac : Option Addr} {kw kc : Nat} {h : DeH} (k : HallC w aw ac kw kc h) (hb : Below w.heap.size w W) : HallC W aw ac kw kc h := k.keep (.of_below hb)
@[reducible] def hallV (aw ac : Option Addr) (kw kc : Nat) (h : DeH) : Value := (.agg #[.int .i64 h.wax, .slice aw h.writers.length kw, .slice ac h.customers.length kc])
def HallV (w : World) (v : Value) (h : DeH) : Prop := ∃ aw ac kw kc, v = hallV aw ac kw kc h ∧ HallC w aw ac kw kc h
theorem HallV.mono {w W : World} {v : Value} {h : DeH} (k : HallV w v h) (hb : Below w.heap.size w W) : HallV W v h := by
  obtain ⟨aw, ac, kw, kc, e, h1⟩ := k; exact ⟨aw, ac, kw, kc, e, h1.mono hb⟩
/-- Lists of numbers that stay. -/
theorem RowsC.keep {w W : World} {a : Option Addr} {L : List (List Int)} (h : RowsC w a L) (hb : Keeps w W) : RowsC W a L := fun i hi => by
  obtain ⟨b, off, a2, c2, e, hlt, h1, h2, h3⟩ := h i hi
  exact ⟨b, off, a2, c2, e, Nat.lt_of_lt_of_le hlt hb.1, hb.2 _ _ h1, h2, h3.keep hb⟩
theorem RowsV.keep {w W : World} {v : Value} {L : List (List Int)} (h : RowsV w v L) (hb : Keeps w W) : RowsV W v L := by
  obtain ⟨a, c, e, h1, h3⟩ := h; exact ⟨a, c, e, h1, h3.keep hb⟩
/-- Spans. -/
def SpansC (w : World) (a : Option Addr) (l : List (Int × Int)) : Prop :=
  ∀ i (_ : i < l.length), ∃ b off, a = some ⟨b, off, none⟩ ∧ b < w.heap.size ∧ w.cell? ⟨b, off + i * 2, none⟩ = some (.int .i64 l[i].1) ∧ w.cell? ⟨b, off + i * 2 + 1, none⟩ = some (.int .i64 l[i].2)
theorem SpansC.keep {w W : World} {a : Option Addr} {l : List (Int × Int)} (h : SpansC w a l) (hb : Keeps w W) : SpansC W a l := fun i hi => by
  obtain ⟨b, off, e, hlt, h0, h1⟩ := h i hi
  exact ⟨b, off, e, Nat.lt_of_lt_of_le hlt hb.1, hb.2 _ _ h0, hb.2 _ _ h1⟩
theorem SpansC.mono {w W : World} {a : Option Addr} {l : List (Int × Int)} (h : SpansC w a l) (hb : Below w.heap.size w W) : SpansC W a l := h.keep (.of_below hb)
def SpansV (w : World) (v : Value) (l : List (Int × Int)) : Prop := ∃ a c, v = .slice a l.length c ∧ SlOk a l.length c ∧ SpansC w a l
theorem SpansV.mono {w W : World} {v : Value} {l : List (Int × Int)} (h : SpansV w v l) (hb : Below w.heap.size w W) : SpansV W v l := by
  obtain ⟨a, c, e, h1, h2⟩ := h; exact ⟨a, c, e, h1, h2.mono hb⟩
end Go.Proofs.YtelmponkmmfffaaGreat
namespace Go.Proofs.YtelmponkmmfffaaGreat
open Go Go.RowKit

set_option maxHeartbeats 400000 in
theorem In_any (n lo hi : Int) (w : World) : Calls Tryz.prog 14 #[.int .i64 n, .int .i64 lo, .int .i64 hi] w fun e w' => e = .returned (.bool (inB n lo hi)) ∧ w' = w := by
  have h := @inB_iff n lo hi
  have h2 := @inB_no n lo hi
  generalize inB n lo hi = c at h h2 ⊢
  go_enter Tryz.func14, Tryz.ntmps14
  cases c
  · have h3 : n < lo ∨ hi < n := by simpa using h2
    clear h h2
    go_wp2
    all_goals (go_ret; simp <;> omega)
  · have h3 : lo ≤ n ∧ n ≤ hi := by simpa using h
    obtain ⟨h4, h5⟩ := h3
    clear h h2
    go_wp2
    all_goals (go_ret; simp)

set_option maxHeartbeats 400000 in
theorem Has_any (a : Option Addr) (l : List Int) (c : Nat) (n : Int) (w : World) (hl : l.length ≤ 9223372036854775807) (hi : IntsC w a l) :
    Calls Tryz.prog 58 #[.slice a l.length c, .int .i64 n] w fun e w' => e = .returned (.bool (hasB l n)) ∧ w' = w := by
  obtain ⟨F, hF⟩ : ∃ F : Nat → Bool, F = fun j => hasB (l.take j) n := ⟨_, rfl⟩
  have F0 : Hid (F 0 = false) := by rw [hF]; exact (rfl : hasB (l.take 0) n = false)
  have Fs : Hid (∀ j (h : j < l.length), F (j+1) = (F j || (l[j] == n))) := by rw [hF]; exact fun j h => hasB_snoc l j h n
  have Fe : Hid (F l.length = hasB l n) := by rw [hF]; show hasB (l.take l.length) n = hasB l n; rw [List.take_length]
  clear hF
  go_enter Tryz.func58, Tryz.ntmps58
  go_wp2
  go_loop [5, 6] (fun m i => ∃ k : Nat, k ≤ l.length ∧ i = .int .i64 k ∧ m = .bool (F k)) (fun _ i => l.length - (intOf i).toNat)
  case atStart => exact ⟨0, Nat.zero_le _, rfl, val_bool F0.out.symm⟩
  case round =>
    obtain ⟨k, hk, rfl, rfl⟩ := hrel
    by_cases hlt : k < l.length
    · obtain ⟨b, off, rfl, _, h1⟩ := hi k hlt
      have H := Lib.hid (Fs.out k hlt)
      generalize F k = c0 at H ⊢
      generalize l[k] = x at H h1
      cases c0
      all_goals go_wp2
      all_goals go_round
      all_goals try (simp [intOf]; omega; done)
      all_goals exact ⟨k+1, by omega, by go_num, val_bool (by rw [H.out]; simp)⟩
    · go_wp2
      go_ret
      exact ⟨ret_bool (by rw [← Fe.out]; congr 1; omega), rfl⟩

set_option maxHeartbeats 400000 in
theorem Bit_any (n k : Int) (w : World) (hk : 0 ≤ k) (hk2 : k ≤ 1000) (h1 : -9223372036854775808 ≤ n) (h2 : n ≤ 9223372036854775807) :
    Calls Tryz.prog 111 #[.int .i64 n, .int .i64 k] w fun e w' => e = .returned (.bool (bitB n k.toNat)) ∧ w' = w := by
  obtain ⟨r, hr⟩ : ∃ r, r = bitB n k.toNat := ⟨_, rfl⟩
  rw [← hr]
  obtain ⟨K, rfl⟩ := Int.eq_ofNat_of_zero_le hk
  have Hr := Lib.hid hr
  clear hr
  go_enter Tryz.func111, Tryz.ntmps111
  go_wp2
  go_loop [0, 5] (fun m i => ∃ (j : Nat) (x : Int), j ≤ K ∧ i = .int .i64 j ∧ m = .int .i64 x ∧ -9223372036854775808 ≤ x ∧ x ≤ 9223372036854775807 ∧ Hid (r = bitB x (K - j))) (fun _ i => K - (intOf i).toNat)
  case atStart => exact ⟨0, n, Nat.zero_le _, rfl, rfl, h1, h2, Lib.hid (by simpa using Hr.out)⟩
  case round =>
    obtain ⟨j, x, hj, rfl, rfl, hx1, hx2, HR⟩ := hrel
    by_cases hlt : j < K
    · have hb := half_bd x hx1 hx2
      go_wp2
      go_round
      case rel => exact ⟨j+1, x.tdiv 2, by omega, by go_num, rfl, hb.1, hb.2, Lib.hid (by rw [HR.out, show K - j = (K - (j+1)) + 1 from by omega, bit_succ])⟩
      case measure => simp [intOf]; omega
    · go_wp2
      go_ret
      exact ⟨ret_bool (by rw [HR.out, show K - j = 0 from by omega, bit_zero]; exact (Bool.beq_eq_decide_eq _ _)), rfl⟩

set_option maxHeartbeats 800000 in
theorem Less_any (a b : Option Addr) (l m : List Int) (c d : Nat) (w : World) (hl : l.length ≤ 9223372036854775807) (hm : m.length ≤ 9223372036854775807) (hi : IntsC w a l) (hj : IntsC w b m) :
    Calls Tryz.prog 82 #[.slice a l.length c, .slice b m.length d] w fun e w' => e = .returned (.bool (less l m)) ∧ ∃ q, w' = w.drewN q := by
  obtain ⟨r, hr⟩ : ∃ r, r = less l m := ⟨_, rfl⟩
  rw [← hr]
  have Hr := Lib.hid hr
  clear hr
  go_enter Tryz.func82, Tryz.ntmps82
  go_wp2
  go_loopw [5] (fun i wr => ∃ (k q : Nat), k ≤ l.length ∧ k ≤ m.length ∧ i = .int .i64 k ∧ wr = w.drewN q ∧ Hid (r = less (l.drop k) (m.drop k))) (fun i _ => l.length - (intOf i).toNat)
  case atStart => exact ⟨0, 0, Nat.zero_le _, Nat.zero_le _, rfl, rfl, Lib.hid (by rw [Hr.out]; rfl)⟩
  case round =>
    obtain ⟨k, q, hk, hk2, rfl, rfl, HR⟩ := hrel
    by_cases h1 : k < l.length
    · by_cases h2 : k < m.length
      · obtain ⟨b1, off1, rfl, _, g1⟩ := hi k h1
        obtain ⟨b2, off2, rfl, _, g2⟩ := hj k h2
        have H := Lib.hid (less_drop l m k h1 h2)
        generalize l[k] = x at H g1
        generalize m[k] = y at H g2
        by_cases hxy : x = y
        · subst hxy
          have H := Lib.hid (H.out.trans (if_pos rfl))
          go_wp2
          go_quiet (fail)
          go_wp2
          go_roundw
          case rel => exact ⟨k+1, q + nq, by omega, by omega, by go_num, by simp, Lib.hid (HR.out.trans H.out)⟩
          case measure => simp [intOf]; omega
        · have hb : (x == y) = false := by simpa using hxy
          have H := Lib.hid (H.out.trans (if_neg hxy))
          have hd : ((k : Int) == (m.length : Int)) = false := by simp; omega
          have hd2 : ((k : Int) == (l.length : Int)) = false := by simp; omega
          go_wp2
          go_quiet (fail)
          go_wp2
          go_quiet (fail)
          go_wp2
          go_ret
          exact ⟨ret_bool (by rw [HR.out, H.out]), _, by first | rfl | (simp; rfl)⟩
      · have hd : decide ((k : Int) < (m.length : Int)) = false := by simp; omega
        have hd2 : ((k : Int) == (m.length : Int)) = true := by simp; omega
        go_wp2
        go_quiet (fail)
        go_wp2
        go_ret
        exact ⟨ret_bool (by rw [HR.out, less_end _ _ _ (by omega)]), _, by first | rfl | (simp; rfl)⟩
    · have hd0 : decide ((k : Int) < (l.length : Int)) = false := by simp; omega
      by_cases h2 : k < m.length
      · have hd2 : ((k : Int) == (m.length : Int)) = false := by simp; omega
        have hd3 : ((k : Int) == (l.length : Int)) = true := by simp; omega
        go_wp2
        go_quiet (fail)
        go_wp2
        go_quiet (fail)
        go_wp2
        go_ret
        exact ⟨ret_bool (by rw [HR.out, less_short _ _ _ (by omega) h2]), _, by first | rfl | (simp; rfl)⟩
      · have hd2 : ((k : Int) == (m.length : Int)) = true := by simp; omega
        go_wp2
        go_quiet (fail)
        go_wp2
        go_ret
        exact ⟨ret_bool (by rw [HR.out, less_end _ _ _ (by omega)]), _, by first | rfl | (simp; rfl)⟩

theorem Calls.quiet_drewN {P : Program} {f : FuncId} {args : Array Value} {w : World} {n : Nat} {v : Value}
    (h : Calls P f args (w.drewN n) fun e w' => e = .returned v ∧ ∃ q, w' = (w.drewN n).drewN q) : Calls P f args (w.drewN n) fun e w'' => e = .returned v ∧ ∃ q, w'' = w.drewN q := Calls.quiet_of h

set_option maxHeartbeats 800000 in
theorem Ints_any (a b : Option Addr) (l m : List Int) (c d : Nat) (w : World) (hl : l.length ≤ 9223372036854775807) (hm : m.length ≤ 9223372036854775807) (hi : IntsC w a l) (hj : IntsC w b m) :
    Calls Tryz.prog 30 #[.slice a l.length c, .slice b m.length d] w fun e w' => e = .returned (.bool (intsB l m)) ∧ ∃ q, w' = w.drewN q := by
  go_enter Tryz.func30, Tryz.ntmps30
  by_cases h : l.length = m.length
  · have hd := eqn_t h
    have h1 : less l m = less l m := rfl
    have H : Hid (intsB l m = (!less l m && !less m l)) := by show intsB l m = _; simp [intsB, h]
    have C1 := fun w' hi hj => Less_any a b l m c d w' hl hm hi hj
    have C2 := fun w' hi hj => Less_any b a m l d c w' hm hl hi hj
    generalize less l m = b1 at *
    generalize less m l = b2 at *
    have C1 := Lib.hid C1
    have C2 := Lib.hid C2
    clear h h1
    cases b1
    · go_wp2_with fail
      refine (C1.out _ hi hj).mono ?_
      rintro e w' ⟨rfl, q, rfl⟩
      go_wp2_with fail
      refine (C2.out _ (fun i h => by simpa using hj i h) (fun i h => by simpa using hi i h)).mono ?_
      rintro e w' ⟨rfl, q2, rfl⟩
      go_wp2
      go_ret
      exact ⟨ret_bool (by rw [H.out]; simp), q + q2, by simp⟩
    · go_wp2_with fail
      refine (C1.out _ hi hj).mono ?_
      rintro e w' ⟨rfl, q, rfl⟩
      go_wp2
      go_ret
      exact ⟨ret_bool (by rw [H.out]; simp), q, by simp⟩
  · have hd := eqn_f h
    have H : Hid (intsB l m = false) := by show intsB l m = _; simp [intsB, h]
    clear h
    go_wp2
    go_ret
    exact ⟨ret_bool H.out.symm, 0, rfl⟩
end Go.Proofs.YtelmponkmmfffaaGreat
namespace Go.Proofs.YtelmponkmmfffaaGreat
open Go Go.RowKit Go.PlainAid

theorem where_drop (l : List ByteArray) (s : ByteArray) (k : Nat) (h : k < l.length) :
    whereFrom (l.drop k) s k = if l[k] = s then (k : Int) else whereFrom (l.drop (k+1)) s (k+1) := by
  rw [List.drop_eq_getElem_cons h, whereFrom]

set_option maxHeartbeats 800000 in
theorem Where_any (a : Option Addr) (l : List ByteArray) (c : Nat) (s : ByteArray) (w : World) (hl : l.length ≤ 9223372036854775807) (hi : StrsC w a l) :
    Calls Tryz.prog 60 #[.slice a l.length c, .string s] w fun e w' => e = .returned (.int .i64 (whereI l s)) ∧ w' = w := by
  obtain ⟨r, hr⟩ : ∃ r, r = whereI l s := ⟨_, rfl⟩
  rw [← hr]
  have Hr := Lib.hid hr
  clear hr
  go_enter Tryz.func60, Tryz.ntmps60
  go_wp2
  go_loop [5] (fun i => ∃ (k : Nat), k ≤ l.length ∧ i = .int .i64 k ∧ Hid (r = whereFrom (l.drop k) s k)) (fun i => l.length - (intOf i).toNat)
  case atStart => exact ⟨0, Nat.zero_le _, rfl, Lib.hid (by rw [Hr.out]; rfl)⟩
  case round =>
    obtain ⟨k, hk, rfl, HR⟩ := hrel
    by_cases hlt : k < l.length
    · obtain ⟨b, off, rfl, _, h1⟩ := hi k hlt
      have H := Lib.hid (where_drop l s k hlt)
      generalize l[k] = y at H h1
      have h0 : ((k : Int) == (l.length : Int)) = false := eqn_f (by omega)
      by_cases hy : y = s
      · have h2 := str_t hy
        have H := Lib.hid (H.out.trans (if_pos hy))
        clear hy
        go_wp2
        go_ret
        exact ⟨ret_int (by rw [HR.out, H.out]), rfl⟩
      · have h2 := str_f hy
        have H := Lib.hid (H.out.trans (if_neg hy))
        go_wp2
        go_round
        case rel => exact ⟨k+1, by omega, by go_num, Lib.hid (HR.out.trans H.out)⟩
        case measure => simp [intOf]; omega
    · have h0 : ((k : Int) == (l.length : Int)) = true := eqn_t (by omega)
      go_wp2
      go_ret
      exact ⟨ret_int (by rw [HR.out, List.drop_of_length_le (by omega)]; rfl), rfl⟩

theorem name_drop (s : ByteArray) (k : Nat) (h : k < s.size) :
    nameFrom k (s.data.toList.drop k) = ((low s[k] || (decide (0 < k) && late s[k])) && nameFrom (k+1) (s.data.toList.drop (k+1))) := by
  rw [List.drop_eq_getElem_cons (by simpa using h), nameFrom]
  rfl

theorem low_eq (c : UInt8) : low c = inB (c.toNat : Int) 97 122 := by simp only [low, inB]; congr 1 <;> simp <;> omega
theorem late_eq (c : UInt8) : late c = ((c.toNat : Int) == 46 || inB (c.toNat : Int) 48 57) := by
  simp only [late, inB]; congr 1
  · rw [Bool.eq_iff_iff]; simp; omega
  · congr 1 <;> simp <;> omega

set_option maxHeartbeats 1000000 in
theorem RefName_any (s : ByteArray) (w : World) (hs : s.size ≤ 9223372036854775807) :
    Calls Tryz.prog 61 #[.string s] w fun e w' => e = .returned (.bool (nameB s)) ∧ w' = w := by
  obtain ⟨r, hr⟩ : ∃ r, r = nameB s := ⟨_, rfl⟩
  rw [← hr]
  have Hr := Lib.hid hr
  clear hr
  have hb := get_bt s
  have C0 : Hid (∀ n w', Calls Tryz.prog 14 #[.int .i64 n, .int .i64 1, .int .i64 16] w' fun e w'' => e = .returned (.bool (inB n 1 16)) ∧ w'' = w') := fun n w' => In_any _ _ _ _
  have C1 : Hid (∀ n w', Calls Tryz.prog 14 #[.int .i64 n, .int .i64 48, .int .i64 57] w' fun e w'' => e = .returned (.bool (inB n 48 57)) ∧ w'' = w') := fun n w' => In_any _ _ _ _
  have C2 : Hid (∀ n w', Calls Tryz.prog 14 #[.int .i64 n, .int .i64 97, .int .i64 122] w' fun e w'' => e = .returned (.bool (inB n 97 122)) ∧ w'' = w') := fun n w' => In_any _ _ _ _
  go_enter Tryz.func61, Tryz.ntmps61
  go_wp2_with fail
  refine (C0.out _ _).mono ?_
  rintro e w' ⟨rfl, rfl⟩
  go_wp2_with fail
  go_loop [3, 4] (fun m i => ∃ (k : Nat) (f : Bool), k ≤ s.size ∧ i = .int .i64 k ∧ m = .bool f ∧ Hid (r = (f && nameFrom k (s.data.toList.drop k)))) (fun _ i => s.size - (intOf i).toNat)
  case atStart => exact ⟨0, _, Nat.zero_le _, rfl, rfl, Lib.hid (by rw [Hr.out]; unfold nameB; congr 1; simp [inB]; congr 1 <;> simp <;> omega)⟩
  case round =>
    obtain ⟨k, f, hk, rfl, rfl, HR⟩ := hrel
    by_cases hlt : k < s.size
    · have H := Lib.hid (name_drop s k hlt)
      have hbk := hb k hlt
      have b0 := bt_nonneg s k
      have b1 := bt_le s k
      have D1 := C1.out (bt s k)
      have D2 := C2.out (bt s k)
      have HL : Hid (low s[k] = inB (bt s k) 97 122) := by rw [← hbk]; exact low_eq _
      have HM : Hid (late s[k] = (bt s k == 46 || inB (bt s k) 48 57)) := by rw [← hbk]; exact late_eq _
      generalize inB (bt s k) 97 122 = cL at D2 HL
      generalize inB (bt s k) 48 57 = cM at D1 HM
      have D1 := Lib.hid D1
      have D2 := Lib.hid D2
      have hz : (0 < k) ∨ k = 0 := by omega
      clear hb
      by_cases h46 : bt s k = 46
      all_goals (first | have h46b := eqi_t h46 | have h46b := eqi_f h46)
      all_goals clear h46
      all_goals cases f
      all_goals cases cL
      all_goals rcases hz with hz | rfl
      all_goals
        go_wp2_with (go_at_call 14; first | ((with_reducible refine (D1.out _).mono ?_); rintro e w' ⟨rfl, rfl⟩) | ((with_reducible refine (D2.out _).mono ?_); rintro e w' ⟨rfl, rfl⟩))
      all_goals go_round
      all_goals try (simp [intOf]; omega; done)
      all_goals first | exact ⟨k+1, _, by omega, by go_num, rfl, Lib.hid (by rw [HR.out, H.out, HL.out, HM.out, h46b]; simp [hz])⟩ | exact ⟨1, _, by omega, by go_num, rfl, Lib.hid (by rw [HR.out, H.out, HL.out, HM.out, h46b]; simp)⟩
    · go_wp2
      go_ret
      exact ⟨ret_bool (by rw [HR.out, List.drop_of_length_le (by simp; omega)]; simp [nameFrom]), rfl⟩

theorem where_neg (l : List ByteArray) (s : ByteArray) (k : Nat) : (whereFrom l s k < 0 ↔ hasS l s = false) ∧ (0 ≤ whereFrom l s k ↔ hasS l s = true) := by
  induction l generalizing k with
  | nil => simp [whereFrom, hasS]
  | cons x xs ih =>
    have ih := ih (k+1)
    simp only [hasS] at ih
    rw [whereFrom, hasS, List.any_cons]
    by_cases h : x = s
    · rw [if_pos h]
      simp [h]
    · rw [if_neg h]
      simpa [h] using ih

set_option maxHeartbeats 1000000 in
theorem Fresh_any (s : ByteArray) (a : Option Addr) (l : List ByteArray) (c : Nat) (w : World) (hs : s.size ≤ 9223372036854775807) (hl : l.length ≤ 9223372036854775807) (hi : StrsC w a l) :
    Calls Tryz.prog 15 #[.string s, .slice a l.length c] w fun e w' => e = .returned (.int .i64 (fresh s l)) ∧ w' = w := by
  have D1 := RefName_any s w hs
  have hw := where_neg l s 0
  have D2 := Where_any a l c s w hl hi
  unfold whereI at D2
  have HF : Hid (fresh s l = if nameB s then (if hasS l s then 5 else 0) else 6) := rfl
  generalize fresh s l = r at HF ⊢
  generalize whereFrom l s 0 = x at hw D2
  generalize nameB s = b1 at D1 HF
  generalize hasS l s = b2 at hw HF
  have D1 := Lib.hid D1
  have D2 := Lib.hid D2
  obtain ⟨hw1, hw2⟩ := hw
  go_enter Tryz.func15, Tryz.ntmps15
  cases b2
  · have hx : x < 0 := hw1.2 rfl
    clear hw1 hw2
    cases b1
    all_goals go_wp2_with (first | (go_at_call 60; refine D2.out.mono ?_; rintro e w' ⟨rfl, rfl⟩) | (go_at_call 61; refine D1.out.mono ?_; rintro e w' ⟨rfl, rfl⟩))
    all_goals go_ret
    all_goals exact ⟨ret_int (by rw [HF.out]; simp), rfl⟩
  · have hx : 0 ≤ x := hw2.2 rfl
    clear hw1 hw2
    cases b1
    all_goals go_wp2_with (first | (go_at_call 60; refine D2.out.mono ?_; rintro e w' ⟨rfl, rfl⟩) | (go_at_call 61; refine D1.out.mono ?_; rintro e w' ⟨rfl, rfl⟩))
    all_goals go_ret
    all_goals exact ⟨ret_int (by rw [HF.out]; simp), rfl⟩

end Go.Proofs.YtelmponkmmfffaaGreat
namespace Go.Proofs.YtelmponkmmfffaaGreat
open Go Go.RowKit
theorem blk_cell {w : World} {b : Nat} {cs : Array Value} {t : TypeId} (j : Nat) {v : Value} (h : w.heap[b]? = some (.cells cs t (0, 0))) (hj : cs[j]? = some v) : w.cell? ⟨b, j, none⟩ = some v := by
  simp only [World.cell?, h]; simpa using hj
theorem blk_free {w : World} {b : Nat} {cs : Array Value} {t : TypeId} (j : Nat) (h : w.heap[b]? = some (.cells cs t (0, 0))) : w.frozen? ⟨b, j, none⟩ = false := by simp [World.frozen?, h]
theorem blk_set {w : World} {b : Nat} {cs : Array Value} {t : TypeId} (j : Nat) (u : Value) (h : w.heap[b]? = some (.cells cs t (0, 0))) : (w.setCell ⟨b, j, none⟩ u).heap[b]? = some (.cells (cs.setIfInBounds j u) t (0, 0)) := by
  have hlt := lt_of_block h
  have h' : w.heap[b] = .cells cs t (0, 0) := by simpa [Array.getElem?_eq_getElem hlt] using h
  show (w.heap.modify b _)[b]? = _
  rw [Array.getElem?_eq_getElem (by simpa using hlt), Array.getElem_modify_self, h']
  rfl
theorem blk_new (w : World) (o : Obj) : (w.alloc o).heap[w.heap.size]? = some o := heap_alloc_new w o
theorem blk_below {B b : Nat} {w W : World} {o : Obj} (hb : Below B w W) (hlt : b < B) (h : w.heap[b]? = some o) : W.heap[b]? = some o := (hb.block b hlt).trans h
theorem results_one {fn : Func} {p : Tmp} {ty : TypeId} (h : fn.results = #[.cell p ty]) (tmps : Array Value) (P : Program) (w : World) :
    (results fn tmps).run P w = ((asAddr (tmps.getD p undef)).run P w).andThen fun a w₁ => ((loadVar ty a).run P w₁) := by
  simp only [results, h]
  simp [Sem.run_bind, Result.andThen]
end Go.Proofs.YtelmponkmmfffaaGreat
