/- What is proved here: readings of Go slices in the model's memory (lists of ints, of strings, of lists of ints), that they last while memory only grows, and small closing lemmas. No condition. -/
/- What is proved here: laws for the built-in append onto a slice that the call itself owns, whatever is appended; a growing slice of slices of ints. Over any program. -/
/- What is proved here: facts on the program's types, by the kernel. No condition. -/
/- What is proved here: a block of cells, whole: what its cells hold, behind a store, behind other memory's turns. Over any program. -/
/- What is proved here: a region that draws its order, or a piece of code, with a small post of its own: one frame, a word on the world. Over any program. -/
/- What is proved here: a law for a range over a function whose iterator keeps its state in cells of its own, the body leaving at its end alone. Over any program. -/
/- What is proved here: a region that draws its order, within a round of a range over a function: as elsewhere, under a small post. Over any program. -/
/- What is proved here: what the call itself owns, seen as a slice of ints. Over any program. -/
/- What is proved here: a map that the call has made, as the list of its entries; a store of a new key; a range over it, in whatever order. Over any program. -/
/- What is proved here: a law for a range over a function whose iterator turns memory by a relation R while it goes (a map that remembers), the body leaving at its end or by a return. Over any program. -/
/- What is proved here: a look-up, with ok, in a map that is known as the list of its entries. Over any program. -/
import Derived.WalkKit
import Derived.WalkSpells
import Derived.WalkLawsBesides
import Derived.Lib.Hide
import Derived.Deep.QuietTactic
import Derived.BigQuiet
import Derived.Handy
import Derived.OrdersHeld
import Derived.PlainAid
import Derived.Maps.AppendAt
import Derived.Laws.AppendOwnNone
import Derived.Test.YtchnpekgmkhacaaProg
import Derived.OneCell
import Derived.Laws.ResultCell
import Derived.Deep.RegionHeld3
import Derived.Deep.RegionWith
import Derived.RangeFuncCalls
import Derived.RangeFuncNested
import Derived.RangeFuncBound
import Derived.RangeFuncLeaves
import Derived.OrdersIn
import Derived.Maps.OwnIn
import Derived.Maps.RangeWalk
import Derived.DeepKeys5
import Derived.Carry
import Derived.Maps.OwnOps
set_option linter.unusedVariables false
set_option linter.unusedSimpArgs false
namespace Go.Proofs.Ytchnpekgmkhacaa
open Go Go.RowKit

theorem LH {p : Prop} (h : p) : Hid p := h
/-- What a step does to a frame. -/
theorem frT : (∀ (a : Act) (d : Nat) (v : Value), Act.put a (some d) v = { a with tmps := a.tmps.setIfInBounds d v }) ∧ (∀ (a : Act) (v : Value), Act.put a none v = a) ∧ (∀ {α : Type} (l : List α) (i : Nat) (x : α), l.toArray.setIfInBounds i x = (l.set i x).toArray) ∧ (∀ {α : Type} (y x : α) (l : List α) (n : Nat), (y :: l).set (n + 1) x = y :: l.set n x) ∧ (∀ {α : Type} (y x : α) (l : List α), (y :: l).set 0 x = x :: l) ∧ (∀ {α : Type} (l : List α) (i : Nat) (h : i < l.toArray.size), l.toArray[i] = l[i]'(by simpa using h)) ∧ (∀ {α : Type} (y : α) (l : List α) (n : Nat) (h : n + 1 < (y :: l).length), (y :: l)[n + 1] = l[n]'(by simpa using h)) ∧ (∀ {α : Type} (y : α) (l : List α) (h : 0 < (y :: l).length), (y :: l)[0] = y) :=
  ⟨fun _ _ _ => rfl, fun _ _ => rfl, fun _ _ _ => List.setIfInBounds_toArray .., fun _ _ _ _ => rfl, fun _ _ _ => rfl, fun _ _ _ => rfl, fun _ _ _ _ => rfl, fun _ _ _ => rfl⟩
section
variable {P : Program} {ops : Array Oper} {Q : Exit → Act → World → Prop} {md : Region.Mode} {S : World → Prop}
theorem tkH (i : Nat) {oi : Oper} {v : Value} {g : Nat} {listed : Array Bool} {a : Act} {w : World} (h : wpAnyH P md ops Q S g (listed.setIfInBounds i true) (a.put oi.dst v) w) (hi : ops[i]? = some oi := by rfl) (hb : (Region.noSelect ops && Region.free md ops listed i && (Region.ready md ops listed).contains i && Region.wanted oi (yielded ops a.tmps)) = true := by kernel_rfl)
    (hQ : ∀ c a w, Q (.panic c) (a.put oi.dst v) w → Q (.panic c) a w := by exact fun _ _ _ h => h) (hy : ∀ w, S w → (execOp a.eval oi).run P w = .ok (.value v) w := by (intro w h; (try dsimp only at h); go_simp; first | done | with_reducible rfl)) (hS : S w := by assumption) : wpAnyH P md ops Q S (g + 1) listed a w := by
  simp only [Bool.and_eq_true] at hb
  exact wpAnyH_take hi hb.1.1.1 hb.1.1.2 hb.1.2 hQ (.inl ⟨hb.2, hy⟩) hS h
theorem tkA (i : Nat) {oi : Oper} {v : Value} {g : Nat} {listed : Array Bool} {a : Act} {w : World} (h : wpAny P md ops Q g (listed.setIfInBounds i true) (a.put oi.dst v) w) (hi : ops[i]? = some oi := by rfl) (hb : (Region.noSelect ops && Region.free md ops listed i && (Region.ready md ops listed).contains i && Region.wanted oi (yielded ops a.tmps)) = true := by kernel_rfl)
    (hQ : ∀ c a w, Q (.panic c) (a.put oi.dst v) w → Q (.panic c) a w := by exact fun _ _ _ h => h) (hy : ∀ w, (execOp a.eval oi).run P w = .ok (.value v) w := by (intro w; go_simp; first | done | with_reducible rfl)) : wpAny P md ops Q (g + 1) listed a w := by
  simp only [Bool.and_eq_true] at hb
  exact wpAny_take hi hb.1.1.1 hb.1.1.2 hb.1.2 hQ (.inl ⟨hb.2, hy⟩) h
theorem skA (i : Nat) {oi : Oper} {g : Nat} {listed : Array Bool} {a : Act} {w : World} (h : wpAny P md ops Q g (listed.setIfInBounds i true) (a.put oi.dst undef) w) (hi : ops[i]? = some oi := by rfl) (hb : (Region.noSelect ops && Region.free md ops listed i && (Region.ready md ops listed).contains i && !Region.wanted oi (yielded ops a.tmps)) = true := by kernel_rfl)
    (hQ : ∀ c a w, Q (.panic c) (a.put oi.dst undef) w → Q (.panic c) a w := by exact fun _ _ _ h => h) : wpAny P md ops Q (g + 1) listed a w := by
  simp only [Bool.and_eq_true, Bool.not_eq_true'] at hb
  exact wpAny_take hi hb.1.1.1 hb.1.1.2 hb.1.2 hQ (.inr ⟨hb.2, rfl⟩) h
theorem skH (i : Nat) {oi : Oper} {g : Nat} {listed : Array Bool} {a : Act} {w : World} (h : wpAnyH P md ops Q S g (listed.setIfInBounds i true) (a.put oi.dst undef) w) (hi : ops[i]? = some oi := by rfl) (hb : (Region.noSelect ops && Region.free md ops listed i && (Region.ready md ops listed).contains i && !Region.wanted oi (yielded ops a.tmps)) = true := by kernel_rfl)
    (hQ : ∀ c a w, Q (.panic c) (a.put oi.dst undef) w → Q (.panic c) a w := by exact fun _ _ _ h => h) (hS : S w := by assumption) : wpAnyH P md ops Q S (g + 1) listed a w := by
  simp only [Bool.and_eq_true, Bool.not_eq_true'] at hb
  exact wpAnyH_take hi hb.1.1.1 hb.1.1.2 hb.1.2 hQ (.inr ⟨hb.2, rfl⟩) hS h
end
theorem ret_bool {a b : Bool} (h : a = b) : Ending.returned (.bool a) = .returned (.bool b) := by rw [h]
theorem ret_int {k : IntKind} {a b : Int} (h : a = b) : Ending.returned (.int k a) = .returned (.int k b) := by rw [h]
theorem val_bool {a b : Bool} (h : a = b) : Value.bool a = .bool b := by rw [h]
theorem val_int {k : IntKind} {a b : Int} (h : a = b) : Value.int k a = .int k b := by rw [h]
theorem ret_val {a b : Value} (h : a = b) : Ending.returned a = .returned b := by rw [h]

theorem eqn_t {a b : Nat} (h : a = b) : ((a : Int) == (b : Int)) = true := by simp [h]
theorem eqn_f {a b : Nat} (h : a ≠ b) : ((a : Int) == (b : Int)) = false := by simp; omega
theorem nen_t {a b : Nat} (h : a ≠ b) : ((a : Int) != (b : Int)) = true := by simp; omega
theorem nen_f {a b : Nat} (h : a = b) : ((a : Int) != (b : Int)) = false := by simp [h]
theorem ltn_t {a b : Nat} (h : a < b) : decide ((a : Int) < (b : Int)) = true := by simp; omega
theorem ltn_f {a b : Nat} (h : b ≤ a) : decide ((a : Int) < (b : Int)) = false := by simp; omega
theorem eqi_t {a b : Int} (h : a = b) : (a == b) = true := by simp [h]
theorem eqi_f {a b : Int} (h : a ≠ b) : (a == b) = false := by simp; omega
theorem nei_t {a b : Int} (h : a ≠ b) : (a != b) = true := by simp; omega
theorem nei_f {a b : Int} (h : a = b) : (a != b) = false := by simp [h]

theorem str_eq (x y : ByteArray) : (x.toList == y.toList) = decide (x = y) := by
  rw [Bool.eq_iff_iff]
  simp only [beq_iff_eq, decide_eq_true_eq]
  constructor
  · intro h
    rw [ByteArray.toList_eq, ByteArray.toList_eq] at h
    obtain ⟨⟨a⟩⟩ := x
    obtain ⟨⟨b⟩⟩ := y
    simp at h
    rw [h]
  · rintro rfl
    rfl
theorem str_t {x y : ByteArray} (h : x = y) : (x.toList == y.toList) = true := by rw [str_eq]; simp [h]
theorem str_f {x y : ByteArray} (h : x ≠ y) : (x.toList == y.toList) = false := by rw [str_eq]; simp [h]

/-- A step of a range over a string: at a byte of ASCII, and at any other. -/
theorem decode_high (s : ByteArray) (pos : Nat) (h : pos < s.size) (ha : 128 ≤ (s[pos]'h).toNat) : 128 ≤ (Utf8.decode s pos).1 := by
  have e : s.get! (pos + 0) = s[pos]'h := by
    show s.get! pos = _
    simp [ByteArray.get!, getElem!_pos, h]
    rfl
  simp only [Utf8.decode, e, Utf8.runeError]
  rw [if_neg (by omega)]
  repeat' split
  all_goals first | (simp only [ge_iff_le]; omega) | (rename_i hh; simp only [Bool.and_eq_true, decide_eq_true_eq, ge_iff_le] at hh; simp only; omega) | (simp only; omega)
theorem run_next_rune {P : Program} (w : World) (s : ByteArray) (pos : Nat) (ty : TypeId) (h : pos < s.size) :
    (Instr.next (.pointer (some ⟨w.heap.size, 0, none⟩)) true ty).run P (w.iter s pos) =
      .ok (.tuple #[.bool true, .int .i64 pos, .int .i32 (Utf8.decode s pos).1]) (w.iter s (pos + (Utf8.decode s pos).2)) := by
  simp only [Instr.next, getObj, setObj, Sem.run_bind, Sem.run, World.iter_heap, Result.andThen, h, if_true, World.iter_set]
  simp [goInt, Sem.run, World.iter_heap, World.iter_set]

/-- Draws turn no cell. -/
theorem drewN_cell (w : World) (q : Nat) (a : Addr) : (w.drewN q).cell? a = w.cell? a := by simp
theorem below_drewN' {B : Nat} {w w' : World} (h : Below B w w') (q : Nat) : Below B w (w'.drewN q) := ⟨h.os, h.tape, h.output, h.size, h.block⟩
theorem below_draws (B : Nat) (w : World) (q : Nat) : Below B w (w.drewN q) := below_drewN' (Below.refl B w) q

/-- A slice value's address, length and capacity fit. -/
def SlOk (a : Option Addr) (n c : Nat) : Prop := n ≤ c ∧ c ≤ 9223372036854775807 ∧ (a = none → c = 0)
theorem SlOk.len {a : Option Addr} {n c : Nat} (h : SlOk a n c) : n ≤ 9223372036854775807 := Nat.le_trans h.1 h.2.1

/-- A slice of ints, cell by cell. -/
def IntsC (w : World) (a : Option Addr) (l : List Int) : Prop :=
  ∀ i (_ : i < l.length), ∃ b off, a = some ⟨b, off, none⟩ ∧ b < w.heap.size ∧ w.cell? ⟨b, off + i, none⟩ = some (.int .i64 l[i])
/-- A slice of strings. -/
def StrsC (w : World) (a : Option Addr) (l : List ByteArray) : Prop :=
  ∀ i (_ : i < l.length), ∃ b off, a = some ⟨b, off, none⟩ ∧ b < w.heap.size ∧ w.cell? ⟨b, off + i, none⟩ = some (.string l[i])
/-- A slice of slices of ints. -/
def RowsC (w : World) (a : Option Addr) (L : List (List Int)) : Prop :=
  ∀ i (_ : i < L.length), ∃ b off a' c', a = some ⟨b, off, none⟩ ∧ b < w.heap.size ∧ w.cell? ⟨b, off + i, none⟩ = some (.slice a' L[i].length c') ∧ SlOk a' L[i].length c' ∧ IntsC w a' L[i]

theorem lt_of_cell {w : World} {a : Addr} {v : Value} (h : w.cell? a = some v) : a.block < w.heap.size := World.block_lt_of_cell? w a h
theorem cell_below {w W : World} (hb : Below w.heap.size w W) {b off : Nat} {v : Value} (h : w.cell? ⟨b, off, none⟩ = some v) : W.cell? ⟨b, off, none⟩ = some v :=
  (hb.cell (p := ⟨b, off, none⟩) (lt_of_cell h)).trans h

theorem IntsC.mono {w W : World} {a : Option Addr} {l : List Int} (h : IntsC w a l) (hb : Below w.heap.size w W) : IntsC W a l := fun i hi => by
  obtain ⟨b, off, e, hlt, hc⟩ := h i hi
  exact ⟨b, off, e, Nat.lt_of_lt_of_le hlt hb.size, cell_below hb hc⟩
theorem StrsC.mono {w W : World} {a : Option Addr} {l : List ByteArray} (h : StrsC w a l) (hb : Below w.heap.size w W) : StrsC W a l := fun i hi => by
  obtain ⟨b, off, e, hlt, hc⟩ := h i hi
  exact ⟨b, off, e, Nat.lt_of_lt_of_le hlt hb.size, cell_below hb hc⟩
theorem RowsC.mono {w W : World} {a : Option Addr} {L : List (List Int)} (h : RowsC w a L) (hb : Below w.heap.size w W) : RowsC W a L := fun i hi => by
  obtain ⟨b, off, a', c', e, hlt, hc, h1, h3⟩ := h i hi
  exact ⟨b, off, a', c', e, Nat.lt_of_lt_of_le hlt hb.size, cell_below hb hc, h1, h3.mono hb⟩

theorem IntsC.nil (w : World) (a : Option Addr) : IntsC w a [] := fun i hi => absurd hi (Nat.not_lt_zero i)
theorem StrsC.nil (w : World) (a : Option Addr) : StrsC w a [] := fun i hi => absurd hi (Nat.not_lt_zero i)
theorem RowsC.nil (w : World) (a : Option Addr) : RowsC w a [] := fun i hi => absurd hi (Nat.not_lt_zero i)

/-- The first elements of a slice of strings. -/
theorem StrsC.take {w : World} {a : Option Addr} {l : List ByteArray} (h : StrsC w a l) (k : Nat) : StrsC w a (l.take k) := fun i hi => by
  have hi' : i < l.length := by simp at hi; omega
  obtain ⟨b, off, e, hlt, hc⟩ := h i hi'
  exact ⟨b, off, e, hlt, by rw [hc]; simp⟩

/-- A slice value that holds a list of ints. -/
def IntsV (w : World) (v : Value) (l : List Int) : Prop := ∃ a c, v = .slice a l.length c ∧ SlOk a l.length c ∧ IntsC w a l
def StrsV (w : World) (v : Value) (l : List ByteArray) : Prop := ∃ a c, v = .slice a l.length c ∧ SlOk a l.length c ∧ StrsC w a l
def RowsV (w : World) (v : Value) (L : List (List Int)) : Prop := ∃ a c, v = .slice a L.length c ∧ SlOk a L.length c ∧ RowsC w a L
theorem IntsV.mono {w W : World} {v : Value} {l : List Int} (h : IntsV w v l) (hb : Below w.heap.size w W) : IntsV W v l := by
  obtain ⟨a, c, e, h1, h3⟩ := h; exact ⟨a, c, e, h1, h3.mono hb⟩
theorem RowsV.mono {w W : World} {v : Value} {L : List (List Int)} (h : RowsV w v L) (hb : Below w.heap.size w W) : RowsV W v L := by
  obtain ⟨a, c, e, h1, h3⟩ := h; exact ⟨a, c, e, h1, h3.mono hb⟩

theorem ints_own {w : World} {base : Nat} {e : TypeId} {g cap n : Nat} {l : List Int} {xs : List Value} (h : w.ownsRow base e 1 (.slice (some ⟨g, 0, none⟩) n cap) n xs) (hx : xs = l.map (Value.int .i64)) :
    n = l.length ∧ IntsC w (some ⟨g, 0, none⟩) l ∧ SlOk (some ⟨g, 0, none⟩) l.length cap ∧ base ≤ g ∧ g < w.heap.size := by
  subst hx
  have hn : n = l.length := by have := h.1; simp at this; omega
  subst hn
  have hm : maxLen = 9223372036854775807 := rfl
  rcases h.2 with ⟨hv, _⟩ | ⟨g', cap', cur, hv, hb, hg, h1, h2, h3, h4⟩
  · cases hv
  · cases hv
    refine ⟨rfl, fun i hi => ⟨g, 0, rfl, (Array.getElem?_eq_some_iff.1 hg).1, ?_⟩, ⟨h1, by omega, fun h => by cases h⟩, hb, (Array.getElem?_eq_some_iff.1 hg).1⟩
    have := h.cells (g := g) rfl i (.int .i64 l[i]) (by simp [hi])
    simpa [Addr.add_lit] using this

/-- What the call has collected by append reads as a list of ints. -/
theorem IntsV.of_own {w : World} {base : Nat} {e : TypeId} {v : Value} {n : Nat} {l : List Int} (h : w.ownsRow base e 1 v n (l.map (Value.int .i64))) : IntsV w v l := by
  have hn : l.length = n := by simpa using h.1
  subst hn
  rcases h.2 with ⟨rfl, h0⟩ | ⟨g, cap, cur, rfl, _, hg, h1, h2, h3, h4⟩
  · have : l = [] := List.eq_nil_of_length_eq_zero h0
    subst this
    exact ⟨none, 0, rfl, ⟨Nat.le_refl _, by omega, fun _ => rfl⟩, IntsC.nil _ _⟩
  · have hm : maxLen = 9223372036854775807 := rfl
    refine ⟨some ⟨g, 0, none⟩, cap, rfl, ⟨h1, by omega, fun h => by cases h⟩, fun i hi => ⟨g, 0, rfl, (Array.getElem?_eq_some_iff.1 hg).1, ?_⟩⟩
    have := h.cells (g := g) rfl i (.int .i64 l[i]) (by simp [hi])
    simpa [Addr.add_lit] using this

/-- A block that the call laid for a parameter or a variable. -/
theorem box_cell {w W : World} {cs : Array Value} {t : TypeId} (h : Below (w.heap.size + 1) (w.alloc (.cells cs t)) W) (j : Nat) (v : Value) (hj : cs[j]? = some v) : W.cell? ⟨w.heap.size, j, none⟩ = some v := by
  rw [h.cell (p := ⟨w.heap.size, j, none⟩) (by simp)]
  simp only [World.cell?, heap_alloc_new]
  simpa using hj
theorem box_old {w W : World} {o : Obj} (h : Below (w.heap.size + 1) (w.alloc o) W) : Below w.heap.size w W :=
  ((Below.refl _ w).alloc (Nat.le_refl _) o).trans (h.mono (by omega))
theorem box_size {w W : World} {o : Obj} (h : Below (w.heap.size + 1) (w.alloc o) W) : w.heap.size < W.heap.size := by
  have := h.size
  simp at this
  omega

theorem box_four {w W : World} {v0 v1 v2 v3 : Value} {t : TypeId} (h : Below (w.heap.size + 1) (w.alloc (.cells #[v0, v1, v2, v3] t)) W) :
    W.cell? ⟨w.heap.size, 0, none⟩ = some v0 ∧ W.cell? ⟨w.heap.size, 1, none⟩ = some v1 ∧ W.cell? ⟨w.heap.size, 2, none⟩ = some v2 ∧ W.cell? ⟨w.heap.size, 3, none⟩ = some v3 :=
  ⟨box_cell h 0 _ rfl, box_cell h 1 _ rfl, box_cell h 2 _ rfl, box_cell h 3 _ rfl⟩

/-- What the call has collected by append reads as a list of strings. -/
theorem strs_own {w : World} {base : Nat} {e : TypeId} {v : Value} {n : Nat} {l : List ByteArray} (h : w.ownsRow base e 1 v n (l.map Value.string)) :
    n = l.length ∧ ∃ a c, v = .slice a l.length c ∧ SlOk a l.length c ∧ StrsC w a l := by
  have hn : l.length = n := by simpa using h.1
  subst hn
  refine ⟨rfl, ?_⟩
  rcases h.2 with ⟨rfl, h0⟩ | ⟨g, cap, cur, rfl, _, hg, h1, h2, h3, h4⟩
  · have : l = [] := List.eq_nil_of_length_eq_zero h0
    subst this
    exact ⟨none, 0, rfl, ⟨Nat.le_refl _, by omega, fun _ => rfl⟩, StrsC.nil _ _⟩
  · have hm : maxLen = 9223372036854775807 := rfl
    refine ⟨some ⟨g, 0, none⟩, cap, rfl, ⟨h1, by omega, fun h => by cases h⟩, fun i hi => ⟨g, 0, rfl, (Array.getElem?_eq_some_iff.1 hg).1, ?_⟩⟩
    have := h.cells (g := g) rfl i (.string l[i]) (by simp [hi])
    simpa [Addr.add_lit] using this
end Go.Proofs.Ytchnpekgmkhacaa
namespace Go.Proofs.Ytchnpekgmkhacaa
open Go Go.RowKit

/-- What a slice type is made of: the element's type, zero value, cells and bytes. -/
structure ElemInfo (P : Program) (t e : TypeId) (z : Value) (size bytes : Nat) : Prop where
  und : P.underlying t = some (.slice e)
  info : (P.info? e).map (fun i => (i.zero, i.size, i.bytes)) = some (some z, size, bytes)
  zsz : z.cells.size = size
  pos : 0 < size

/-- The cells that an argument of append yields: m elements. -/
def SrcAt (w : World) (y : Value) (m size : Nat) (news : List Value) : Prop :=
  news.length = m * size ∧ (∀ u ∈ news, u.oneCell' = true) ∧
  ((y = .slice none 0 0 ∧ m = 0) ∨ ∃ ad c, y = .slice (some ad) m c ∧ ∀ j u, news[j]? = some u → w.cell? (ad.add j) = some u)

theorem SrcAt.one (w : World) (u : Value) (t : TypeId) (h : u.oneCell' = true) : SrcAt (w.alloc (.cells #[u] t)) (.slice (some ⟨w.heap.size, 0, none⟩) 1 1) 1 1 [u] :=
  ⟨rfl, by simpa using h, .inr ⟨_, _, rfl, cell_one_new _ _ _⟩⟩

theorem SrcAt.below {w W : World} {y : Value} {m size : Nat} {news : List Value} (h : SrcAt w y m size news) (hb : Below w.heap.size w W) : SrcAt W y m size news := by
  obtain ⟨h1, h2, h3⟩ := h
  refine ⟨h1, h2, ?_⟩
  rcases h3 with h3 | ⟨ad, c, e, hc⟩
  · exact .inl h3
  · refine .inr ⟨ad, c, e, fun j u hj => ?_⟩
    have h := hc j u hj
    exact (hb.cell (p := ad.add j) (lt_of_cell h)).trans h

theorem SrcAt.ints {w : World} {a : Option Addr} {l : List Int} {c : Nat} (hn : a = none → c = 0) (h : IntsC w a l) : SrcAt w (.slice a l.length c) l.length 1 (l.map (Value.int .i64)) := by
  refine ⟨by simp, by intro u hu; obtain ⟨x, _, rfl⟩ := List.mem_map.1 hu; rfl, ?_⟩
  cases a with
  | none =>
    have : l.length = 0 := by
      by_cases h0 : 0 < l.length
      · obtain ⟨b, off, e, _⟩ := h 0 h0
        cases e
      · omega
    left
    rw [hn rfl, this]
    exact ⟨rfl, rfl⟩
  | some ad =>
    refine .inr ⟨ad, c, rfl, fun j u hj => ?_⟩
    rw [List.getElem?_map] at hj
    obtain ⟨x, hx, rfl⟩ := Option.map_eq_some_iff.1 hj
    obtain ⟨hlt, rfl⟩ := List.getElem?_eq_some_iff.1 hx
    obtain ⟨b, off, e, _, hc⟩ := h j hlt
    cases e
    rw [Addr.add_lit]
    exact hc

theorem wpList_app {P : Program} {w : World} {ops : Array Oper} {rest : List Oper} {o : Oper} {a : Act} {Q : Exit → Act → World → Prop} (s x : Operand) {t e : TypeId} {z : Value} {size bytes : Nat}
    (hE : ElemInfo P t e z size bytes) (hgd : o.guard = none) (ho : o.op = .call { callee := .builtin .append, args := #[s, x], argTypes := #[t, t] })
    {v y : Value} (hs : a.eval s = v) (hx : a.eval x = y)
    (base n m : Nat) (xs news : List Value) (hown : w.ownsRow base e size v n xs) (hsrc : SrcAt w y m size news)
    (hnm : n + m ≤ 1000000) (hbt : bytes ≤ 1000000) (hbase : base ≤ w.heap.size)
    (h : ∀ v' w', w'.ownsRow base e size v' (n + m) (xs ++ news) → w.grownBy w' v.ownBlock → (v'.ownBlock = v.ownBlock ∨ v'.ownBlock = some w.heap.size) → wpList P ops Q rest (a.put o.dst v') w') :
    wpList P ops Q (o :: rest) a w := by
  obtain ⟨i, hi, hz, hsz, hby⟩ := info_parts hE.info
  obtain ⟨h1, h2, h3⟩ := hsrc
  rcases h3 with ⟨rfl, rfl⟩ | ⟨ad, c, rfl, hc⟩
  · have hn : news = [] := List.eq_nil_of_length_eq_zero (by simpa using h1)
    subst hn
    refine wpList_append_own_none hgd s x t ho base e i size hE.und hi v n xs hs hown hx ?_
    exact h v w (by simpa using hown) ⟨rfl, rfl, rfl, Nat.le_refl _, fun _ _ _ => rfl⟩ (.inl rfl)
  · have hm : maxLen = 9223372036854775807 := rfl
    have hb : (n + m) * bytes ≤ 1000000 * 1000000 := Nat.mul_le_mul hnm hbt
    exact wpList_append_own_at w hgd s x t ho base e i z size bytes hE.und hi hz hsz hby hE.zsz hE.pos v n xs hs hown ad m c news hx h1 hc h2 (by omega) (by omega) hbase
      fun v' w' h2 h3 _ h5 => h v' w' h2 h3 h5

/-- Behind an append onto a slice that was just made (block w.heap.size). -/
theorem app_fresh {w w1 : World} {o : Obj} {n c : Nat} (hg : (w.alloc o).grownBy w1 (Value.ownBlock (.slice (some ⟨w.heap.size, 0, none⟩) n c))) : Below w.heap.size w w1 :=
  ((Below.refl w.heap.size w).alloc (Nat.le_refl _) o).grown hg (by simp) (fun k e => by
    have : w.heap.size = k := by simpa [Value.ownBlock] using e
    omega)
/-- Behind an append of one cell onto a slice of the call's own. -/
theorem app_next {B base : Nat} {w w1 w2 : World} {o : Obj} {e : TypeId} {size n : Nat} {v : Value} {xs : List Value} (h : Below B w w1) (hB : B ≤ w.heap.size) (hb : B ≤ base) (ho : w1.ownsRow base e size v n xs) (hg : (w1.alloc o).grownBy w2 v.ownBlock) : Below B w w2 :=
  have h1 := h.size
  (h.alloc (by omega) o).grown hg (by simp; omega) (fun k e => Nat.le_trans hb (ho.lt k e).1)
/-- Memory grows: what is owned stays. -/
theorem own_below {w W : World} {base : Nat} {e : TypeId} {size n : Nat} {v : Value} {xs : List Value} (h : w.ownsRow base e size v n xs) (hb : Below w.heap.size w W) : W.ownsRow base e size v n xs :=
  h.kept (row := none) ⟨hb.os, hb.tape, hb.output, hb.size, fun k hk _ => hb.block k hk⟩ (by cases v.ownBlock <;> simp)

/-- A slice that owns an element at least is written out. -/
theorem own_succ {W : World} {base : Nat} {e : TypeId} {size : Nat} {v : Value} {k : Nat} {xs : List Value} (h : W.ownsRow base e size v (k + 1) xs) : ∃ g cap, v = .slice (some ⟨g, 0, none⟩) (k + 1) cap := by
  rcases h.2 with ⟨_, h0⟩ | ⟨g, cap, _, rfl, _⟩
  · omega
  · exact ⟨g, cap, rfl⟩

/-- A growing slice of slices of ints: the call's own; each row lies apart from the growing one. -/
def OwnRows (w : World) (base : Nat) (e : TypeId) (v : Value) (L : List (List Int)) : Prop :=
  ∃ vs : List Value, w.ownsRow base e 1 v L.length vs ∧ ∀ i (_ : i < L.length), ∃ a c, vs[i]? = some (.slice a L[i].length c) ∧ SlOk a L[i].length c ∧
    IntsC w a L[i] ∧ ∀ ad, a = some ad → ad.block < w.heap.size ∧ some ad.block ≠ v.ownBlock

theorem OwnRows.nil (w : World) (base : Nat) (e : TypeId) : OwnRows w base e (.slice none 0 0) [] := ⟨[], World.ownsRow_nil _ _ _ _, fun i hi => absurd hi (Nat.not_lt_zero i)⟩

theorem IntsC.grown {w W : World} {a : Option Addr} {l : List Int} {row : Option Nat} (h : IntsC w a l) (hg : w.grownBy W row) (hne : ∀ ad, a = some ad → some ad.block ≠ row) : IntsC W a l := fun i hi => by
  obtain ⟨b, off, e, hlt, hc⟩ := h i hi
  exact ⟨b, off, e, Nat.lt_of_lt_of_le hlt hg.size, hg.cell (a := ⟨b, off + i, none⟩) hc (show some b ≠ row from hne _ e)⟩

theorem ownBlock_lt {w : World} {base : Nat} {e : TypeId} {size n : Nat} {v : Value} {xs : List Value} (h : w.ownsRow base e size v n xs) : ∀ k, v.ownBlock = some k → k < w.heap.size := fun k hk => (h.lt k hk).2

/-- Other memory turns: the growing slice stays. -/
theorem OwnRows.kept {w W : World} {base : Nat} {e : TypeId} {v : Value} {L : List (List Int)} (h : OwnRows w base e v L) (hb : Below w.heap.size w W) : OwnRows W base e v L := by
  obtain ⟨vs, h1, h2⟩ := h
  have hg : w.grownBy W none := ⟨hb.os, hb.tape, hb.output, hb.size, fun k hk _ => hb.block k hk⟩
  refine ⟨vs, h1.kept hg ?_, fun i hi => ?_⟩
  · cases hv : v.ownBlock <;> simp
  · obtain ⟨a, c, e1, e2, e5, e6⟩ := h2 i hi
    exact ⟨a, c, e1, e2, e5.mono hb, fun ad ead => ⟨Nat.lt_of_lt_of_le (e6 ad ead).1 hb.size, (e6 ad ead).2⟩⟩

/-- Behind 'rows = append(rows, t)': w: where the rows lay; w1: where t was made; w2: behind the append of the one cell. -/
theorem OwnRows.push {w w1 w2 : World} {base : Nat} {e : TypeId} {v v' : Value} {L : List (List Int)} {vs : List Value} {a : Option Addr} {t : List Int} {c : Nat} {tmp : Obj}
    (hvs : w.ownsRow base e 1 v L.length vs)
    (h2 : ∀ i (_ : i < L.length), ∃ a c, vs[i]? = some (.slice a L[i].length c) ∧ SlOk a L[i].length c ∧ IntsC w a L[i] ∧ ∀ ad, a = some ad → ad.block < w.heap.size ∧ some ad.block ≠ v.ownBlock)
    (hb : Below w.heap.size w w1) (ht : IntsC w1 a t) (hc : SlOk a t.length c) (hnew : ∀ ad, a = some ad → w.heap.size ≤ ad.block ∧ ad.block < w1.heap.size)
    (hown : w2.ownsRow base e 1 v' (L.length + 1) (vs ++ [.slice a t.length c])) (hg : (w1.alloc tmp).grownBy w2 v.ownBlock) (hv : v'.ownBlock = v.ownBlock ∨ v'.ownBlock = some (w1.alloc tmp).heap.size) :
    OwnRows w2 base e v' (L ++ [t]) := by
  have hvl := ownBlock_lt hvs
  have hb1 : Below w.heap.size w (w1.alloc tmp) := hb.alloc hb.size _
  have hlen : vs.length = L.length := by simpa using hvs.1
  refine ⟨_, by simpa using hown, fun i hi => ?_⟩
  have hsz := hb1.size
  by_cases h : i < L.length
  · obtain ⟨a', c', e1, e2, e5, e6⟩ := h2 i h
    refine ⟨a', c', ?_, ?_, ?_, ?_⟩
    · rw [List.getElem?_append_left (by omega), List.getElem_append_left h]
      exact e1
    · rw [List.getElem_append_left h]; exact e2
    · rw [List.getElem_append_left h]
      exact (e5.mono hb1).grown hg fun ad ead => (e6 ad ead).2
    · intro ad ead
      have e7 := e6 ad ead
      have := hg.size
      simp at hsz this
      refine ⟨by omega, ?_⟩
      rcases hv with hv | hv
      · rw [hv]; exact e7.2
      · rw [hv]
        intro e'
        simp at e'
        omega
  · have hi' : i = L.length := by simp at hi; omega
    subst hi'
    refine ⟨a, c, ?_, ?_, ?_, ?_⟩
    · rw [List.getElem?_append_right (by omega)]
      simp [hlen]
    · simpa using hc
    · simp
      refine (ht.mono ((Below.refl _ _).alloc (Nat.le_refl _) _)).grown hg fun ad ead e' => ?_
      have := hvl _ e'.symm
      have := (hnew ad ead).1
      omega
    · intro ad ead
      have h1 := hnew ad ead
      have := hg.size
      simp at this
      refine ⟨by omega, fun e' => ?_⟩
      rcases hv with hv | hv
      · have := hvl _ (hv ▸ e'.symm)
        omega
      · rw [hv] at e'
        simp at e'
        omega

theorem OwnRows.rows {w : World} {base : Nat} {e : TypeId} {v : Value} {L : List (List Int)} (h : OwnRows w base e v L) : RowsV w v L := by
  obtain ⟨vs, h1, h2⟩ := h
  have hm : maxLen = 9223372036854775807 := rfl
  rcases h1.2 with ⟨rfl, h0⟩ | ⟨g, cap, cur, rfl, _, hg, h3, h4, h5, h6⟩
  · have : L = [] := List.eq_nil_of_length_eq_zero h0
    subst this
    exact ⟨none, 0, rfl, ⟨Nat.le_refl _, by omega, fun _ => rfl⟩, RowsC.nil _ _⟩
  · refine ⟨some ⟨g, 0, none⟩, cap, rfl, ⟨h3, by omega, fun h => by cases h⟩, fun i hi => ?_⟩
    obtain ⟨a, c, e1, e2, e5, _⟩ := h2 i hi
    refine ⟨g, 0, a, c, rfl, (Array.getElem?_eq_some_iff.1 hg).1, ?_, e2, e5⟩
    have := h1.cells (g := g) rfl i _ e1
    simpa [Addr.add_lit] using this
end Go.Proofs.Ytchnpekgmkhacaa
namespace Go.Proofs.Ytchnpekgmkhacaa
open Go Go.RowKit
theorem E_int : ElemInfo Try.prog 42 3 (.int .i64 0) 1 8 := ⟨by kernel_rfl, by kernel_rfl, rfl, by decide⟩
theorem E_ints : ElemInfo Try.prog 26 42 (.slice none 0 0) 1 24 := ⟨by kernel_rfl, by kernel_rfl, rfl, by decide⟩
theorem E_str : ElemInfo Try.prog 90 9 (.string ⟨#[]⟩) 1 16 := ⟨by kernel_rfl, by kernel_rfl, rfl, by decide⟩
end Go.Proofs.Ytchnpekgmkhacaa
namespace Go.Proofs.Ytchnpekgmkhacaa
open Go Go.RowKit
theorem blk_cell {w : World} {b : Nat} {cs : Array Value} {t : TypeId} (j : Nat) {v : Value} (h : w.heap[b]? = some (.cells cs t (0, 0))) (hj : cs[j]? = some v) : w.cell? ⟨b, j, none⟩ = some v := by
  simp only [World.cell?, h]; simpa using hj
theorem blk_free {w : World} {b : Nat} {cs : Array Value} {t : TypeId} (j : Nat) (h : w.heap[b]? = some (.cells cs t (0, 0))) : w.frozen? ⟨b, j, none⟩ = false := by simp [World.frozen?, h]
theorem blk_set {w : World} {b : Nat} {cs : Array Value} {t : TypeId} (j : Nat) (u : Value) (h : w.heap[b]? = some (.cells cs t (0, 0))) : (w.setCell ⟨b, j, none⟩ u).heap[b]? = some (.cells (cs.setIfInBounds j u) t (0, 0)) := by
  have hlt := lt_of_block h
  have h' : w.heap[b] = .cells cs t (0, 0) := by simpa [Array.getElem?_eq_getElem hlt] using h
  show (w.heap.modify b _)[b]? = _
  rw [Array.getElem?_eq_getElem (by simpa using hlt), Array.getElem_modify_self, h']
  rfl
theorem blk_new (w : World) (o : Obj) : (w.alloc o).heap[w.heap.size]? = some o := heap_alloc_new w o
theorem blk_below {B b : Nat} {w W : World} {o : Obj} (hb : Below B w W) (hlt : b < B) (h : w.heap[b]? = some o) : W.heap[b]? = some o := (hb.block b hlt).trans h
theorem results_one {fn : Func} {p : Tmp} {ty : TypeId} (h : fn.results = #[.cell p ty]) (tmps : Array Value) (P : Program) (w : World) :
    (results fn tmps).run P w = ((asAddr (tmps.getD p undef)).run P w).andThen fun a w₁ => ((loadVar ty a).run P w₁) := by
  simp only [results, h]
  simp [Sem.run_bind, Result.andThen]
end Go.Proofs.Ytchnpekgmkhacaa
namespace Go.Proofs.Ytchnpekgmkhacaa
open Go Go.RowKit

/-- Left normally, with the frame A, in a world of which S holds. -/
def midPost (A : Act) (S : World → Prop) : Exit → Act → World → Prop
  | .normal, a, w => a = A ∧ S w
  | _, _, _ => False
theorem wp_mid {P : Program} {C : Code} {Q : Exit → Act → World → Prop} {a : Act} {w : World} (A : Act) (S : World → Prop) (h : C.wp P (midPost A S) a w) (h2 : ∀ W, S W → Q .normal A W) : C.wp P Q a w :=
  Code.wp_mono (fun e a' w' h' => by
    cases e with
    | normal => obtain ⟨rfl, h3⟩ := h'; exact h2 _ h3
    | ret => exact h'.elim
    | exit id => exact h'.elim
    | goto t => exact h'.elim
    | panic c => exact h'.elim
    | outgrown => exact h'.elim) h
theorem wpIn_mid {F : Fence} {n : Nat} {P : Program} {C : Code} {Q : Exit → Act → World → Prop} {a : Act} {w : World} (A : Act) (S : World → Prop) (h : C.wpIn F n P (midPost A S) a w) (h2 : ∀ W, S W → Q .normal A W) : C.wpIn F n P Q a w :=
  wpIn_mono h (fun e a' w' h' => by
    cases e with
    | normal => obtain ⟨rfl, h3⟩ := h'; exact h2 _ h3
    | ret => exact h'.elim
    | exit id => exact h'.elim
    | goto t => exact h'.elim
    | panic c => exact h'.elim
    | outgrown => exact h'.elim)
theorem below_drew' {B : Nat} {w W : World} (h : Below B w W) : Below B w W.drew := ⟨h.os, h.tape, h.output, h.size, h.block⟩
theorem box_on {w W W' : World} {o : Obj} (h : Below (w.heap.size + 1) (w.alloc o) W) (h2 : Below W.heap.size W W') : Below (w.heap.size + 1) (w.alloc o) W' :=
  h.trans (h2.mono (by have := h.size; simpa using this))
end Go.Proofs.Ytchnpekgmkhacaa
namespace Go.Proofs.Ytchnpekgmkhacaa
open Go Go.RowKit

/-- What lay at or above B lies as it lay; what lies below may have turned. -/
structure Above (B : Nat) (W W' : World) : Prop where
  os : W'.os = W.os
  tape : W'.tape = W.tape
  output : W'.output = W.output
  size : W.heap.size ≤ W'.heap.size
  block : ∀ b, B ≤ b → b < W.heap.size → W'.heap[b]? = W.heap[b]?
theorem Above.refl (B : Nat) (W : World) : Above B W W := ⟨rfl, rfl, rfl, Nat.le_refl _, fun _ _ _ => rfl⟩
theorem Above.trans {B : Nat} {A C D : World} (h : Above B A C) (k : Above B C D) : Above B A D :=
  ⟨k.os.trans h.os, k.tape.trans h.tape, k.output.trans h.output, Nat.le_trans h.size k.size, fun b h1 h2 => (k.block b h1 (Nat.lt_of_lt_of_le h2 h.size)).trans (h.block b h1 h2)⟩
theorem Above.of_below {B : Nat} {W W' : World} (h : Below W.heap.size W W') : Above B W W' := ⟨h.os, h.tape, h.output, h.size, fun b _ h2 => h.block b h2⟩
theorem Above.of_grown {B : Nat} {W W' : World} {row : Option Nat} (h : W.grownBy W' row) (hr : ∀ r, row = some r → r < B) : Above B W W' :=
  ⟨h.os, h.tape, h.output, h.size, fun b h1 h2 => h.block b h2 (fun e => by have := hr b e.symm; omega)⟩
theorem Above.mono {B B' : Nat} {W W' : World} (h : Above B W W') (hb : B ≤ B') : Above B' W W' := ⟨h.os, h.tape, h.output, h.size, fun b h1 h2 => h.block b (by omega) h2⟩

/-- How the body of a round is left. -/
def roundT {α : Type} (B : Nat) (I : List α → World → Prop) (xs : List α) (W : World) : Exit → Act → World → Prop
  | .normal, _, W' => Above B W W' ∧ I xs W'
  | _, _, _ => False

theorem putObj_above {B l : Nat} {W : World} {o : Obj} (hl : l < B) : Above B W (W.putObj l o) := Above.of_grown (grownBy_putObj' W l o) (fun r e => by cases e; exact hl)

variable {P : Program}

/-- **An iterator that gives xs, its state in cells of its own.** B: what lies at or above it is the iterator's, or the loop's. -/
def SeqT {α : Type} (P : Program) (gf : Nat) (lb : Array Value) (encs : α → Array Value) (B : Nat) (Z : World → Prop) (xs : List α) (w : World) : Prop :=
  ∀ (l : Nat) (J : List α → World → Prop) (W : World), Below w.heap.size w W → w.heap.size ≤ W.heap.size → (∀ s A A', J s A → Below W.heap.size A A' → J s A') → (∀ s A, J s A → Z A) →
    (∀ pre x W1, J pre W1 → pre ++ [x] <+: xs → YieldAt Fence.wide 0 P l (encs x) W1 fun e W' => e = .returned (.bool true) ∧ J (pre ++ [x]) W' ∧ Above B W1 W') →
    J [] W → CallsIn Fence.wide 0 P gf (#[.func (.yield l) #[] #[]] ++ lb) W fun e W' => (∃ v, e = .returned v) ∧ J xs W'

theorem wpIn_rangeFunc_T {α : Type} {g : Operand} {ps : Array Tmp} {assign body : Code} {Q : Exit → Act → World → Prop} {a : Act} {w : World}
    {gf : Nat} {lb : Array Value} (hg : a.eval g = .func (.func gf) #[] lb) (eg : ∀ args w, (callFunc gf args).run P w = .ok (.enter gf args) w)
    {encs : α → Array Value} {Z : World → Prop} {B : Nat} {xs : List α} {w0 : World} (hseq : SeqT P gf lb encs B Z xs w0) (hb0 : Below w0.heap.size w0 w) (hB : B ≤ w.heap.size) (hps : ∀ x, (encs x).size = ps.size)
    (I : List α → World → Prop) (hI : ∀ s A A', I s A → Below B A A' → I s A') (hIZ : ∀ s A, I s A → Z A) (h0 : I [] w)
    (hround : ∀ (l : Nat) (pre : List α) (x : α) (W : World), w.heap.size < l → l < W.heap.size → I pre W → pre ++ [x] <+: xs →
      assign.wpIn (Fence.wide.inRound l) 0 P (Exit.then (fun a' Wa => Above B W Wa ∧ I pre Wa ∧ ∀ Wb, Wb.heap.size = Wa.heap.size → (∀ b, b ≠ l → Wb.heap[b]? = Wa.heap[b]?) → I pre Wb →
        body.wpIn (Fence.wide.inRound l) 0 P (roundT B I (pre ++ [x]) Wb) a' Wb) (fun _ _ _ => False)) { tmps := (ps.zip (encs x)).foldl (fun t (p, v) => t.setIfInBounds p v) a.tmps, defers := [] } W)
    (hdone : ∀ (D : Nat) (W : World), w.heap.size ≤ D → I xs W → W.heap[D]? = some (.deferred (some [])) → Q .normal { a with defers := { target := .collected D, args := #[] } :: a.defers } W) :
    (Code.rangeFunc g ps assign body).wpIn Fence.wide 0 P Q a w := by
  refine wpIn_rangeFunc ?_
  intro fn hfn
  rw [show Fence.wide.round = none from rfl]
  obtain ⟨rec, hrec⟩ : ∃ rec : LoopState → Option Code → Loop, rec = fun st pe => { state := st, pending := pe, fn, tmps := a.tmps, params := ps, assign, body, defers := w.heap.size } := ⟨_, rfl⟩
  obtain ⟨W1, hW1⟩ : ∃ W1, (w.alloc (.deferred (some []))).alloc (.loop (rec .ready none)) = W1 := ⟨_, rfl⟩
  have hL1 : W1.heap[w.heap.size + 1]? = some (.loop (rec .ready none)) := by
    rw [← hW1]; have := World.alloc_heap_new (w.alloc (.deferred (some []))) (.loop (rec .ready none)); rwa [World.size_alloc] at this
  have hK1 : W1.heap[w.heap.size]? = some (.deferred (some [])) := by
    rw [← hW1]; exact (Below.heap_alloc _ _ _ (by simp)).trans (World.alloc_heap_new w _)
  have hbw1 : Below w.heap.size w W1 := by
    rw [← hW1]; exact (((Below.refl _ w).alloc (Nat.le_refl _) _).alloc (by simp) _)
  have hsz1 : W1.heap.size = w.heap.size + 2 := by rw [← hW1]; simp
  have hI1 : I [] W1 := hI _ _ _ h0 (hbw1.mono hB)
  have hb1 : Below w0.heap.size w0 W1 := hb0.trans (hbw1.mono hb0.size)
  refine ⟨w.heap.size + 1, [{ target := .collected w.heap.size, args := #[] }], W1, { target := .fn (.func gf) lb, args := #[.func (.yield (w.heap.size + 1)) #[] #[]] }, W1, gf,
    #[.func (.yield (w.heap.size + 1)) #[] #[]] ++ lb, W1, ?_, ?_, ?_, ?_, fun h => (by cases h), ?_⟩
  · rw [← hW1, hrec]; exact run_enterLoop_outer _ _ _ _ _
  · simp only [resolve, hg]
    simp [go_sem]
  · intro f' hf'; trivial
  · simp [invoke, go_sem, eg]
  · refine (hseq (w.heap.size + 1)
      (fun pre W => I pre W ∧ W.heap[w.heap.size + 1]? = some (.loop (rec .ready none)) ∧ W.heap[w.heap.size]? = some (.deferred (some [])))
      W1 hb1 hb1.size
      (fun s A A' hs hb => ⟨hI s A A' hs.1 (hb.mono (by omega)), (hb.block _ (by omega)).trans hs.2.1, (hb.block _ (by omega)).trans hs.2.2⟩)
      (fun s A hs => hIZ s A hs.1)
      ?_ ⟨hI1, hL1, hK1⟩).mono ?_
    · rintro pre x W ⟨hi, hl, hk⟩ hpre
      have hlt : w.heap.size + 1 < W.heap.size := (Array.getElem?_eq_some_iff.1 hl).1
      have hy := run_yield (P := P) (args := encs x) hl (by rw [hrec]; exact hps x)
      rw [hrec] at hy
      refine ⟨fn, _, assign, body, hy, roundIn_of_wpIn hfn (wpIn_mono (hround _ pre x W (by omega) hlt hi hpre) ?_)⟩
      clear hy
      rintro e a' Wa he
      cases e with
      | normal =>
        obtain ⟨hab, hia, hbody⟩ := he
        have hla : Wa.heap[w.heap.size + 1]? = some (.loop (rec .ready none)) := (hab.block _ (by omega) hlt).trans hl
        have hka : Wa.heap[w.heap.size]? = some (.deferred (some [])) := (hab.block _ (by omega) (by omega)).trans hk
        have hlta : w.heap.size + 1 < Wa.heap.size := (Array.getElem?_eq_some_iff.1 hla).1
        refine ⟨_, run_beginRound hla (by rw [hrec]), ?_⟩
        have hl2 : (Wa.putObj (w.heap.size + 1) (.loop { rec .ready none with state := .busy })).heap[w.heap.size + 1]? = some (.loop { rec .ready none with state := .busy }) := World.putObj_heap_same hlta
        have hk2 : (Wa.putObj (w.heap.size + 1) (.loop { rec .ready none with state := .busy })).heap[w.heap.size]? = some (.deferred (some [])) := (World.putObj_heap_other (by omega)).trans hka
        have hbp : Below B Wa (Wa.putObj (w.heap.size + 1) (.loop { rec .ready none with state := .busy })) := (Below.refl B Wa).grown (grownBy_putObj' Wa _ _) (by omega) (fun k e => by cases e; omega)
        have hsp : ∀ o, (Wa.putObj (w.heap.size + 1) o).heap.size = Wa.heap.size := fun o => by simp [World.putObj]
        refine wpIn_mono (hbody _ (hsp _) (fun b hb => World.putObj_heap_other hb) (hI _ _ _ hia hbp)) ?_
        rintro e a3 W3 hp
        cases e with
        | normal =>
          obtain ⟨hab3, hi3⟩ := hp
          have hz3 : Wa.heap.size ≤ W3.heap.size := by have := hab3.size; rw [hsp] at this; exact this
          have hza := hab.size
          have hl3 : W3.heap[w.heap.size + 1]? = some (.loop { rec .ready none with state := .busy }) := (hab3.block _ (by omega) (by rw [hsp]; omega)).trans hl2
          have hk3 : W3.heap[w.heap.size]? = some (.deferred (some [])) := (hab3.block _ (by omega) (by rw [hsp]; omega)).trans hk2
          have hlt3 : w.heap.size + 1 < W3.heap.size := (Array.getElem?_eq_some_iff.1 hl3).1
          have hr := run_endRound (P := P) none hl3
          rw [hrec] at hr
          have hbp3 : Below B W3 (W3.putObj (w.heap.size + 1) (.loop (rec .ready none))) := (Below.refl B W3).grown (grownBy_putObj' W3 _ _) (by omega) (fun k e => by cases e; omega)
          have hl4 : (W3.putObj (w.heap.size + 1) (.loop (rec .ready none))).heap[w.heap.size + 1]? = some (.loop (rec .ready none)) := World.putObj_heap_same hlt3
          have hk4 : (W3.putObj (w.heap.size + 1) (.loop (rec .ready none))).heap[w.heap.size]? = some (.deferred (some [])) := (World.putObj_heap_other (by omega)).trans hk3
          have hi4 := hI _ _ _ hi3 hbp3
          have hfin : Above B W (W3.putObj (w.heap.size + 1) (.loop (rec .ready none))) := by
            have g := grownBy_putObj' W3 (w.heap.size + 1) (.loop (rec .ready none))
            have g2 := grownBy_putObj' Wa (w.heap.size + 1) (.loop { rec .ready none with state := .busy })
            refine ⟨g.os.trans (hab3.os.trans (g2.os.trans hab.os)), g.tape.trans (hab3.tape.trans (g2.tape.trans hab.tape)), g.output.trans (hab3.output.trans (g2.output.trans hab.output)), ?_, fun b hb1 hb2 => ?_⟩
            · have := g.size
              omega
            · by_cases hbl : b = w.heap.size + 1
              · subst hbl
                rw [hl4, hl]
              · rw [World.putObj_heap_other hbl, hab3.block b hb1 (by rw [hsp]; omega), World.putObj_heap_other hbl, hab.block b hb1 hb2]
          rw [hrec] at hi4 hl4 hk4 hfin
          rw [hrec]
          exact ⟨_, _, hr, rfl, ⟨hi4, hl4, hk4⟩, hfin⟩
        | ret => exact hp.elim
        | exit id => exact hp.elim
        | goto t => exact hp.elim
        | panic ch => exact hp.elim
        | outgrown => exact hp.elim
      | ret => exact he.elim
      | exit id => exact he.elim
      | goto t => exact he.elim
      | panic ch => exact he.elim
      | outgrown => exact he.elim
    · rintro e W2 ⟨⟨v, rfl⟩, hi, hl, hk⟩
      have hlt : w.heap.size + 1 < W2.heap.size := (Array.getElem?_eq_some_iff.1 hl).1
      refine ⟨none, _, by have := run_endLoop (P := P) hl (by rw [hrec]; simp); rw [hrec] at this; exact this, ?_⟩
      refine hdone _ _ (Nat.le_refl _) (hI _ _ _ hi ((Below.refl B W2).grown (grownBy_putObj' W2 _ _) (by omega) (fun k e => by cases e; omega))) ((World.putObj_heap_other (by omega)).trans hk)
end Go.Proofs.Ytchnpekgmkhacaa
namespace Go.Proofs.Ytchnpekgmkhacaa
open Go Go.RowKit

variable {P : Program} {l : Nat} {Q : Exit → Act → World → Prop}

theorem rowsIn_wide {row : String} {args : Array Value} {w : World} {R : Value → World → Prop} (h : Rows P row args w R) : RowsIn Fence.wide 0 P row args w R := by
  intro c cs _
  obtain ⟨v, w', r, s⟩ := h c cs
  exact ⟨v, w', r, stepsIn_wide.2 s⟩
theorem Oper.wpIn_of_wp {o : Oper} {a : Act} {w : World} {K : Act → World → Prop} (hd : ∀ c, o.op ≠ .defer c) (h : o.wp P a w K Q) : o.wpIn (Fence.wide.inRound l) 0 P a w K Q := by
  unfold Oper.wpIn
  refine ⟨fun _ _ => trivial, ?_⟩
  rw [Oper.semAt_eq _ _ _ hd]
  unfold Oper.wp at h
  generalize (execOp a.eval o).run P w = r at h
  cases r with
  | ok x w' =>
    cases x with
    | value v => exact h
    | skip => exact h
    | defer d => exact h
    | enter f args => exact ⟨fun h => (by cases h), CallsIn.inRound l (callsIn_wide.2 h)⟩
    | row row args => exact ⟨fun h => (by cases h), rowsIn_wide h⟩
    | round l f tmps assign body => exact h.elim
    | _ => exact h.elim
  | halt x w' => cases x <;> exact h

theorem wpOpIn_of_wpOp {ops : Array Oper} (hL : ¬ LetsOut Q) (hd : ∀ o ∈ ops.toList, ∀ c, o.op ≠ .defer c) {i : Nat} {a : Act} {w : World} {K : Act → World → Prop} (h : wpOp P ops Q i K a w) : wpOpIn (Fence.wide.inRound l) 0 P ops Q i K a w := by
  unfold wpOp at h
  unfold wpOpIn
  cases ho : ops[i]? with
  | none => rw [ho] at h; exact h
  | some o =>
    rw [ho] at h
    simp only at h ⊢
    by_cases hw : Region.wanted o (yielded ops a.tmps) = true
    · rw [if_pos hw] at h ⊢
      have hm : o ∈ ops.toList := by
        have := Array.mem_of_getElem? ho
        simpa using this
      rcases h with h | ⟨_, h⟩
      · exact Oper.wpIn_of_wp (hd o hm) h
      · exact absurd h hL
    · rw [if_neg hw] at h ⊢
      exact ⟨fun _ _ => trivial, h⟩
theorem wpAnyIn_of_wpAny {ops : Array Oper} {md : Region.Mode} (hL : ¬ LetsOut Q) (hd : ∀ o ∈ ops.toList, ∀ c, o.op ≠ .defer c) : ∀ (fuel : Nat) (listed : Array Bool) (a : Act) (w : World), wpAny P md ops Q fuel listed a w → wpAnyIn (Fence.wide.inRound l) 0 P md ops Q fuel listed a w
  | 0, _, _, _, h => h
  | fuel + 1, _, _, _, h => ⟨h.1, fun i hi => wpOpIn_of_wpOp hL hd (wpOp_mono (fun a' w' h' => wpAnyIn_of_wpAny hL hd fuel _ a' w' h') (h.2 i hi))⟩

def noDefer (ops : Array Oper) : Bool := ops.toList.all fun o => match o.op with | .defer _ => false | _ => true
theorem noDefer_spec {ops : Array Oper} (h : noDefer ops = true) : ∀ o ∈ ops.toList, ∀ c, o.op ≠ .defer c := by
  intro o ho c hc
  unfold noDefer at h
  rw [List.all_eq_true] at h
  have := h o ho
  rw [hc] at this
  cases this
/-- A region that draws, in a round: S' is what holds of the world all along. -/
theorem wpIn_region_round {id : Nat} {ops : Array Oper} {a : Act} {w : World} (S' : World → Prop) (hL : ¬ LetsOut Q) (hm : P.follows .mixedOrders = true) (hd : ∀ o ∈ ops.toList, ∀ c, o.op ≠ .defer c) (hS : S' w.drew)
    (h : S' w.drew → wpAnyH P .any ops Q S' ops.size (Array.replicate ops.size false) a w.drew) : (Code.region id ops true).wpIn (Fence.wide.inRound l) 0 P Q a w :=
  wpIn_region_any hm (wpAnyIn_of_wpAny hL hd _ _ _ _ (wpAny_of_held _ _ _ _ (h hS)))
theorem midPost_in {A : Act} {S : World → Prop} : ¬ LetsOut (midPost A S) := fun ⟨_, _, h⟩ => h
theorem grown_of {W V : World} (row : Option Nat) (h : Below W.heap.size W V) : W.grownBy V row := ⟨h.os, h.tape, h.output, h.size, fun i hi _ => h.block i hi⟩
end Go.Proofs.Ytchnpekgmkhacaa
namespace Go.Proofs.Ytchnpekgmkhacaa
open Go Go.RowKit
theorem ints_ownV {w : World} {base : Nat} {e : TypeId} {v : Value} {n : Nat} {l : List Int} (h : w.ownsRow base e 1 v n (l.map (Value.int .i64))) : IntsV w v l := by
  have hl := h.1
  rcases h.2 with ⟨rfl, h0⟩ | ⟨g, cap, cur, rfl, _⟩
  · have : l = [] := List.eq_nil_of_length_eq_zero (by simp at hl; omega)
    subst this
    exact ⟨none, 0, rfl, ⟨Nat.le_refl _, by omega, fun _ => rfl⟩, IntsC.nil _ _⟩
  · obtain ⟨h1, h2, h3, _⟩ := ints_own h rfl
    subst h1
    exact ⟨_, _, rfl, h3, h2⟩
/-- The step of a list of numbers that pass a test. -/
theorem keep_succ (p : Nat → Bool) (n : Nat) : ((List.range (n+1)).filter p).map (fun (c : Nat) => (c : Int)) = ((List.range n).filter p).map (fun (c : Nat) => (c : Int)) ++ (if p n then [(n : Int)] else []) := by
  rw [List.range_succ, List.filter_append, List.map_append]
  congr 1
  cases h : p n <;> simp [h]
theorem keep_len (p : Nat → Bool) (n : Nat) : (((List.range n).filter p).map (fun (c : Nat) => (c : Int))).length ≤ n := by
  have := List.length_filter_le p (List.range n)
  simpa using this
theorem keep_nil (p : Nat → Bool) : (((List.range 0).filter p).map (fun (c : Nat) => (c : Int))) = [] := rfl
end Go.Proofs.Ytchnpekgmkhacaa
namespace Go.Proofs.Ytchnpekgmkhacaa
open Go Go.RowKit Go.ChangeMaps Go.MapKept
open Go.Maps (Keyed)

/-- Block b is a map whose entries are, in the order in which they were made, T. -/
def MapV (w : World) (P : Program) (k : TypeId) (b : Nat) (T : List (Value × Value)) : Prop :=
  ∃ es clock, w.heap[b]? = some (.map es clock) ∧ Stamped es clock ∧ (∀ e ∈ es.toList, ∃ l, keyOf P k e.key = some l) ∧ es.toList.map (fun e => (e.key, e.val)) = T

/-- A range over it is under way (block r); what is still to come is rem. -/
def RngV (w : World) (P : Program) (k : TypeId) (b r : Nat) (T rem : List (Value × Value)) : Prop :=
  ∃ es clock since seen c0, w.heap[b]? = some (.map es clock) ∧ Stamped es clock ∧ (∀ e ∈ es.toList, ∃ l, keyOf P k e.key = some l) ∧ es.toList.map (fun e => (e.key, e.val)) = T ∧
    w.heap[r]? = some (.mapIter (some b) since seen c0) ∧ (∀ x ∈ es.toList, x.born < since) ∧ since ≤ c0 ∧ since ≤ clock ∧ ((leftOf es seen).toList.map (fun e => (e.key, e.val))).Perm rem

variable {P : Program} {k : TypeId} {w : World} {b r : Nat} {T rem : List (Value × Value)}

theorem MapV.lt (h : MapV w P k b T) : b < w.heap.size := by
  obtain ⟨es, clock, hb, _⟩ := h
  exact (Array.getElem?_eq_some_iff.1 hb).1
theorem MapV.same {w' : World} (h : MapV w P k b T) (he : w'.heap[b]? = w.heap[b]?) : MapV w' P k b T := by
  obtain ⟨es, clock, hb, h2⟩ := h
  exact ⟨es, clock, he.trans hb, h2⟩
theorem MapV.kept {w' : World} {row : Option Nat} (h : MapV w P k b T) (hg : w.grownBy w' row) (hne : some b ≠ row) : MapV w' P k b T := h.same (hg.block b h.lt hne)
theorem MapV.below {w' : World} {B : Nat} (h : MapV w P k b T) (hb : Below B w w') (hlt : b < B) : MapV w' P k b T := h.same (hb.block b hlt)
theorem MapV.made (w : World) (P : Program) (k : TypeId) : MapV (w.alloc (.map #[] 0)) P k w.heap.size [] :=
  ⟨#[], 0, (MapKept.heap_alloc w _).1, stamped_empty 0, by simp, rfl⟩
theorem RngV.lt (h : RngV w P k b r T rem) : r < w.heap.size := by
  obtain ⟨es, clock, since, seen, c0, _, _, _, _, hr, _⟩ := h
  exact (Array.getElem?_eq_some_iff.1 hr).1
theorem RngV.map (h : RngV w P k b r T rem) : MapV w P k b T := by
  obtain ⟨es, clock, since, seen, c0, hb, h1, h2, h3, _⟩ := h
  exact ⟨es, clock, hb, h1, h2, h3⟩
theorem RngV.same {w' : World} (h : RngV w P k b r T rem) (he : w'.heap[b]? = w.heap[b]?) (he2 : w'.heap[r]? = w.heap[r]?) : RngV w' P k b r T rem := by
  obtain ⟨es, clock, since, seen, c0, hb, h1, h2, h3, hr, h4⟩ := h
  exact ⟨es, clock, since, seen, c0, he.trans hb, h1, h2, h3, he2.trans hr, h4⟩
theorem RngV.below {w' : World} {B : Nat} (h : RngV w P k b r T rem) (hb : Below B w w') (hlt : b < B) (hlt2 : r < B) : RngV w' P k b r T rem := h.same (hb.block b hlt) (hb.block r hlt2)

/-- 'm[k] = v' at a key that is not there. -/
theorem MapV.update {t e : TypeId} (h : MapV w P k b T) (K : Keyed P k) (ht : P.underlying t = some (.map k e)) (hroom : T.length < maxLen) {key val : Value} {kl : Lit} (hkey : keyOf P k key = some kl) (hnew : ∀ p ∈ T, p.1 ≠ key) :
    ∃ w', (Instr.mapUpdate t (.map (some b)) key val).run P w = .ok () w' ∧ MapV w' P k b (T ++ [(key, val)]) ∧ w.grownBy w' (some b) ∧ w'.heap.size = w.heap.size := by
  obtain ⟨es, clock, hb, hst, hk, rfl⟩ := h
  have hroom' : es.size < maxLen := by simpa using hroom
  rcases K.find w hkey es.toList hk with ⟨h1, h2⟩ | ⟨j, e0, h1, h2, h3⟩
  · refine ⟨setBlock w b (.map (es.push ⟨key, val, clock⟩) (clock + 1)), ?_, ⟨es.push ⟨key, val, clock⟩, clock + 1, heap_setBlock_same hb _, stamped_push hst h2, ?_, by simp⟩, ⟨rfl, rfl, rfl, by simp [setBlock], fun i _ hi => heap_setBlock_other hb _ (fun e => hi (by rw [e]))⟩, by simp [setBlock]⟩
    · simp [Instr.mapUpdate, run_underlying ht, MapKept.run_getObj_map hb, K.check w false hkey, h1, MapKept.run_setObj_map _ hb, Result.andThen, setBlock]
    · intro x hx
      simp only [Array.toList_push, List.mem_append, List.mem_singleton] at hx
      rcases hx with hx | rfl
      · exact hk x hx
      · exact ⟨kl, hkey⟩
  · exact absurd h3 (hnew (e0.key, e0.val) (List.mem_map.2 ⟨e0, List.mem_of_getElem? h2, rfl⟩))

theorem wpListIn_mapUpdate_new {F : Fence} {nF : Nat} {ops : Array Oper} {rest : List Oper} {o : Oper} {a : Act} {Q : Exit → Act → World → Prop}
    (hg : o.guard = none) (m x v : Operand) (t : TypeId) (hop : o.op = Op.mapUpdate t m x v)
    (k e : TypeId) (K : Keyed P k) (ht : P.underlying t = some (.map k e)) (b : Nat) (T : List (Value × Value))
    (hm : a.eval m = .map (some b)) (hown : MapV w P k b T) (hn : T.length < maxLen) (key val : Value) (kl : Lit) (hx : a.eval x = key) (hv : a.eval v = val) (hkey : keyOf P k key = some kl) (hnew : ∀ p ∈ T, p.1 ≠ key)
    (hK : ∀ w', MapV w' P k b (T ++ [(key, val)]) → w.grownBy w' (some b) → w'.heap.size = w.heap.size → wpListIn F nF P ops Q rest (a.put o.dst undef) w') :
    wpListIn F nF P ops Q (o :: rest) a w := by
  refine wpListIn_plain hg fun K' hK' => ?_
  obtain ⟨w', hrun, r1, r2, r3⟩ := hown.update K ht hn hkey hnew (val := val)
  unfold Oper.wpIn
  refine ⟨by simp [Oper.about, hop], ?_⟩
  rw [Oper.semAt_plain F _ _ (by rw [hop]; intro c hc'; cases hc')]
  simp [execOp, hop, hm, hx, hv, hrun, Result.andThen]
  exact hK' _ _ (hK w' r1 r2 r3)

/-- 'range m'. -/
theorem MapV.range {t e : TypeId} (h : MapV w P k b T) (ht : P.underlying t = some (.map k e)) :
    (Instr.range t (.map (some b))).run P w = .ok (.pointer (some ⟨w.heap.size, 0, none⟩)) (w.alloc (.mapIter (some b) ((match w.heap[b]? with | some (.map _ c) => c | _ => 0)) #[] ((match w.heap[b]? with | some (.map _ c) => c | _ => 0)))) ∧
    RngV (w.alloc (.mapIter (some b) ((match w.heap[b]? with | some (.map _ c) => c | _ => 0)) #[] ((match w.heap[b]? with | some (.map _ c) => c | _ => 0)))) P k b w.heap.size T T := by
  have hlt := h.lt
  obtain ⟨es, clock, hb, hst, hk, rfl⟩ := h
  simp only [hb]
  refine ⟨run_range_map w t k e b es clock ht hb, es, clock, clock, #[], clock, ((MapKept.heap_alloc w _).2 b hlt).trans hb, hst, hk, rfl, (MapKept.heap_alloc w _).1, hst.1, Nat.le_refl _, Nat.le_refl _, ?_⟩
  have : leftOf es #[] = es := Array.filter_eq_self.2 (fun x _ => by simp)
  rw [this]
theorem wpList_range_v {ops : Array Oper} {rest : List Oper} {o : Oper} {a : Act} {Q : Exit → Act → World → Prop} (hg : o.guard = none) (m : Operand) (t : TypeId) (hop : o.op = Op.range t m) (k e : TypeId) (ht : P.underlying t = some (.map k e)) (b : Nat) (T : List (Value × Value))
    (hm : a.eval m = .map (some b)) (hown : MapV w P k b T)
    (hK : ∀ o', RngV (w.alloc o') P k b w.heap.size T T → wpList P ops Q rest (a.put o.dst (.pointer (some ⟨w.heap.size, 0, none⟩))) (w.alloc o')) :
    wpList P ops Q (o :: rest) a w := by
  refine wpList_plain hg fun K' hK' => ?_
  obtain ⟨hrun, r1⟩ := hown.range ht
  unfold Oper.wp
  simp only [execOp, hop, hm, hrun, Result.andThen, Sem.run_bind, Sem.run_pure]
  exact hK' _ _ (hK _ r1)

theorem left_step (es : Array MapEntry) (seen : Array Nat) (e : MapEntry) (hn : (es.toList.map (·.born)).Nodup) (he : e ∈ (leftOf es seen).toList) :
    ((leftOf es seen).toList.map (fun e => (e.key, e.val))).Perm ((e.key, e.val) :: (leftOf es (seen.push e.born)).toList.map (fun e => (e.key, e.val))) := by
  have h1 : (leftOf es (seen.push e.born)).toList = (leftOf es seen).toList.filter fun x => x.born != e.born := by
    simp only [leftOf, Array.toList_filter, List.filter_filter]
    apply List.filter_congr
    intro x _
    rw [contains_push]
    cases hx : (x.born == e.born) <;> simp [bne, hx]
  have hn2 : (((leftOf es seen).toList).map (·.born)).Nodup := by
    simp only [leftOf, Array.toList_filter]
    exact (List.Sublist.map _ List.filter_sublist).nodup hn
  rw [h1]
  generalize (leftOf es seen).toList = L at he hn2
  clear h1 hn
  induction L with
  | nil => simp at he
  | cons a L ih =>
    simp only [List.map_cons, List.nodup_cons] at hn2
    rcases List.mem_cons.1 he with rfl | he
    · have : L.filter (fun x => x.born != e.born) = L := List.filter_eq_self.2 fun x hx => by
        have : x.born ≠ e.born := fun h => hn2.1 (List.mem_map.2 ⟨x, hx, h⟩)
        simpa using this
      simp [this]
    · have hne : (a.born != e.born) = true := by
        have : a.born ≠ e.born := fun h => hn2.1 (List.mem_map.2 ⟨e, he, h.symm⟩)
        simpa using this
      have : (a :: L).filter (fun x => x.born != e.born) = a :: L.filter (fun x => x.born != e.born) := List.filter_cons_of_pos hne
      rw [this]
      simp only [List.map_cons]
      exact ((ih he hn2.2).cons _).trans (List.Perm.swap _ _ _)

/-- The step. -/
theorem RngV.next (h : RngV w P k b r T rem) (hne : r ≠ b) (ty : TypeId) :
    (rem = [] ∧ (Instr.next (.pointer (some ⟨r, 0, none⟩)) false ty).run P w = .ok (.tuple #[.bool false]) w) ∨
    ∃ key v rem' w', rem.Perm ((key, v) :: rem') ∧ (Instr.next (.pointer (some ⟨r, 0, none⟩)) false ty).run P w = .ok (.tuple #[.bool true, key, v]) w' ∧
      RngV w' P k b r T rem' ∧ w.grownBy w' (some r) ∧ w'.heap.size = w.heap.size ∧ (Instr.entry (.pointer (some ⟨r, 0, none⟩))).run P w' = .ok (.tuple #[key, v]) w' := by
  obtain ⟨es, clock, since, seen, c0, hb, hst, hk, hT, hr, hold, hsc, hsk, hrem⟩ := h
  have hst2 := (stamped_iff es clock).1 hst
  rcases run_next_at (P := P) w ty r b since c0 seen es clock hr hb hold hsc with ⟨h0, hrun⟩ | ⟨e, he, w1, hal, hrun⟩
  · refine .inl ⟨?_, hrun⟩
    have : leftOf es seen = #[] := Array.eq_empty_of_size_eq_zero h0
    rw [this] at hrem
    exact List.nil_perm.1 hrem
  · obtain ⟨hem, hes⟩ := mem_left he
    have hr1 : w1.heap[r]? = some (.mapIter (some b) since seen c0) := by rcases hal with rfl | rfl <;> exact hr
    have hb1 : w1.heap[b]? = some (.map es clock) := by rcases hal with rfl | rfl <;> exact hb
    have hset := heap_set (o' := .mapIter (some b) since (seen.push e.born) clock) hr1
    have hb' : (setBlock w1 r (.mapIter (some b) since (seen.push e.born) clock)).heap[b]? = some (.map es clock) := (hset.2 b (fun e1 => hne e1.symm)).trans hb1
    refine .inr ⟨e.key, e.val, _, _, ?_, hrun, ⟨es, clock, since, seen.push e.born, clock, hb', hst, hk, hT, hset.1, hold, hsk, hsk, .refl _⟩, ?_, ?_, run_entry_at _ r b since seen es clock e hset.1 hb' hem hst2.2.1⟩
    · refine hrem.symm.trans ?_
      exact left_step es seen e hst2.2.1 he
    · rcases hal with rfl | rfl <;> exact ⟨rfl, rfl, rfl, by simp [setBlock], fun i _ hi => hset.2 i (fun e1 => hi (by rw [e1]))⟩
    · rcases hal with rfl | rfl <;> simp [setBlock]
theorem RngV.ne (h : RngV w P k b r T rem) : r ≠ b := by
  obtain ⟨es, clock, since, seen, c0, hb, _, _, _, hr, _⟩ := h
  intro e
  rw [e, hb] at hr
  cases hr

theorem RngV.perm {rem' : List (Value × Value)} (h : RngV w P k b r T rem) (hp : rem.Perm rem') : RngV w P k b r T rem' := by
  obtain ⟨es, clock, since, seen, c0, hb, h1, h2, h3, hr, h4, h5, h6, h7⟩ := h
  exact ⟨es, clock, since, seen, c0, hb, h1, h2, h3, hr, h4, h5, h6, h7.trans hp⟩
theorem RngV.left_eq (h : RngV w P k b r T rem) : w.rangeLeft b r = rem.length := by
  obtain ⟨es, clock, since, seen, c0, hb, _, _, _, hr, _, _, _, h7⟩ := h
  simp only [World.rangeLeft, hb, hr]
  have := h7.length_eq
  simpa using this

/-- The step, at entries of known shapes. -/
theorem wpList_next_v {α : Type} {ops : Array Oper} {rest : List Oper} {o : Oper} {a : Act} {Q : Exit → Act → World → Prop} (hg : o.guard = none) (it : Operand) (hop : o.op = Op.next it false) (k : TypeId) (mkK mkV : α → Value) (b r : Nat) (T : List (Value × Value)) (rem : List α)
    (hit : a.eval it = .pointer (some ⟨r, 0, none⟩)) (h : RngV w P k b r T (rem.map fun x => (mkK x, mkV x)))
    (hDone : rem = [] → wpList P ops Q rest (a.put o.dst (.tuple #[.bool false])) w)
    (hMore : ∀ (x : α) (rem' : List α) (w' : World), rem.Perm (x :: rem') → RngV w' P k b r T (rem'.map fun x => (mkK x, mkV x)) → w.grownBy w' (some r) → w'.heap.size = w.heap.size →
      (Instr.entry (.pointer (some ⟨r, 0, none⟩))).run P w' = .ok (.tuple #[mkK x, mkV x]) w' → wpList P ops Q rest (a.put o.dst (.tuple #[.bool true, mkK x, mkV x])) w') :
    wpList P ops Q (o :: rest) a w := by
  refine wpList_plain hg fun K' hK' => ?_
  unfold Oper.wp
  rcases h.next h.ne o.type with ⟨h0, hrun⟩ | ⟨key, v, rem', w', hp, hrun, hrg, hgr, hsz, hen⟩
  · simp only [execOp, hop, hit, hrun, Result.andThen, Sem.run_bind, Sem.run_pure]
    exact hK' _ _ (hDone (by simpa using h0))
  · obtain ⟨x, hx, e⟩ := List.mem_map.1 (hp.mem_iff.2 (List.mem_cons_self (a := (key, v))))
    have e1 : mkK x = key := congrArg Prod.fst e
    have e2 : mkV x = v := congrArg Prod.snd e
    subst e1
    subst e2
    obtain ⟨s, t, rfl⟩ := List.append_of_mem hx
    have hp2 : (s ++ x :: t).Perm (x :: (s ++ t)) := List.perm_middle
    have hp3 := ((hp2.map fun x => (mkK x, mkV x)).symm.trans hp)
    simp only [List.map_cons] at hp3
    have hp4 := hp3.cons_inv
    simp only [execOp, hop, hit, hrun, Result.andThen, Sem.run_bind, Sem.run_pure]
    exact hK' _ _ (hMore x (s ++ t) w' hp2 (hrg.perm hp4.symm) hgr hsz hen)
end Go.Proofs.Ytchnpekgmkhacaa
namespace Go.Proofs.Ytchnpekgmkhacaa
open Go Go.RowKit

/-- How the body of a round is left. -/
def roundM {α : Type} (B : Nat) (I : List α → World → Prop) (Ix : Code → List α → World → Prop) (xs : List α) (W : World) : Exit → Act → World → Prop
  | .normal, _, W' => Above B W W' ∧ I xs W'
  | .ret, _, W' => Above B W W' ∧ Ix .ret xs W'
  | .exit id, _, W' => Above B W W' ∧ Ix (.exit id) xs W'
  | _, _, _ => False

variable {P : Program}

/-- **An iterator that gives xs, whose steps turn memory by R, where Z holds.** -/
def SeqM {α : Type} (P : Program) (gf : Nat) (lb : Array Value) (encs : α → Array Value) (R : World → World → Prop) (Z : World → Prop) (xs : List α) : Prop :=
  ∀ (l : Nat) (J Jx : List α → World → Prop) (W : World), (∀ s A A', J s A → R A A' → J s A') → (∀ s A A', Jx s A → R A A' → Jx s A') → (∀ s A, J s A → Z A) → (∀ s A, Jx s A → Z A) →
    (∀ pre x W1, J pre W1 → pre ++ [x] <+: xs → YieldAt Fence.wide 0 P l (encs x) W1 fun e W' => (e = .returned (.bool true) ∧ J (pre ++ [x]) W') ∨ (e = .returned (.bool false) ∧ Jx (pre ++ [x]) W')) →
    J [] W → CallsIn Fence.wide 0 P gf (#[.func (.yield l) #[] #[]] ++ lb) W fun e W' => (∃ v, e = .returned v) ∧ (J xs W' ∨ ∃ pre, Jx pre W')

theorem wpIn_rangeFunc_M {α : Type} {g : Operand} {ps : Array Tmp} {assign body : Code} {Q : Exit → Act → World → Prop} {a : Act} {w : World}
    {gf : Nat} {lb : Array Value} (hg : a.eval g = .func (.func gf) #[] lb) (eg : ∀ args w, (callFunc gf args).run P w = .ok (.enter gf args) w)
    {encs : α → Array Value} {R : World → World → Prop} {Z : World → Prop} {xs : List α} (hseq : SeqM P gf lb encs R Z xs) (hps : ∀ x, (encs x).size = ps.size)
    (hR : ∀ A A', R A A' → Above w.heap.size A A')
    (I : List α → World → Prop) (Ix : Code → List α → World → Prop) (hI : ∀ s A A', I s A → Below w.heap.size A A' → I s A') (hIx : ∀ c s A A', Ix c s A → Below w.heap.size A A' → Ix c s A')
    (hIR : ∀ s A A', I s A → R A A' → I s A') (hIxR : ∀ c s A A', Ix c s A → R A A' → Ix c s A') (hIZ : ∀ s A, I s A → Z A) (hIxZ : ∀ c s A, Ix c s A → Z A) (h0 : I [] w)
    (hround : ∀ (l : Nat) (pre : List α) (x : α) (W : World), w.heap.size < l → l < W.heap.size → I pre W → pre ++ [x] <+: xs →
      assign.wpIn (Fence.wide.inRound l) 0 P (Exit.then (fun a' Wa => Above w.heap.size W Wa ∧ I pre Wa ∧ ∀ Wb, Wb.heap.size = Wa.heap.size → (∀ b, b ≠ l → Wb.heap[b]? = Wa.heap[b]?) → I pre Wb →
        body.wpIn (Fence.wide.inRound l) 0 P (roundM w.heap.size I Ix (pre ++ [x]) Wb) a' Wb) (fun _ _ _ => False)) { tmps := (ps.zip (encs x)).foldl (fun t (p, v) => t.setIfInBounds p v) a.tmps, defers := [] } W)
    (hdone : ∀ (D : Nat) (W : World), w.heap.size ≤ D → I xs W → W.heap[D]? = some (.deferred (some [])) → Q .normal { a with defers := { target := .collected D, args := #[] } :: a.defers } W)
    (hstop : ∀ (D : Nat) (c : Code) (pre : List α) (W : World), w.heap.size ≤ D → Ix c pre W → W.heap[D]? = some (.deferred (some [])) → c.wpIn Fence.wide 0 P Q { a with defers := { target := .collected D, args := #[] } :: a.defers } W) :
    (Code.rangeFunc g ps assign body).wpIn Fence.wide 0 P Q a w := by
  refine wpIn_rangeFunc ?_
  intro fn hfn
  rw [show Fence.wide.round = none from rfl]
  obtain ⟨rec, hrec⟩ : ∃ rec : LoopState → Option Code → Loop, rec = fun st pe => { state := st, pending := pe, fn, tmps := a.tmps, params := ps, assign, body, defers := w.heap.size } := ⟨_, rfl⟩
  obtain ⟨W1, hW1⟩ : ∃ W1, (w.alloc (.deferred (some []))).alloc (.loop (rec .ready none)) = W1 := ⟨_, rfl⟩
  have hL1 : W1.heap[w.heap.size + 1]? = some (.loop (rec .ready none)) := by
    rw [← hW1]; have := World.alloc_heap_new (w.alloc (.deferred (some []))) (.loop (rec .ready none)); rwa [World.size_alloc] at this
  have hK1 : W1.heap[w.heap.size]? = some (.deferred (some [])) := by
    rw [← hW1]; exact (Below.heap_alloc _ _ _ (by simp)).trans (World.alloc_heap_new w _)
  have hbw1 : Below w.heap.size w W1 := by
    rw [← hW1]; exact (((Below.refl _ w).alloc (Nat.le_refl _) _).alloc (by simp) _)
  have hI1 : I [] W1 := hI _ _ _ h0 hbw1
  have hput : ∀ (A : World) (o : Obj), Below w.heap.size A (A.putObj (w.heap.size + 1) o) := fun A o => ⟨rfl, rfl, rfl, by simp [World.putObj], fun b hb => World.putObj_heap_other (by omega)⟩
  refine ⟨w.heap.size + 1, [{ target := .collected w.heap.size, args := #[] }], W1, { target := .fn (.func gf) lb, args := #[.func (.yield (w.heap.size + 1)) #[] #[]] }, W1, gf,
    #[.func (.yield (w.heap.size + 1)) #[] #[]] ++ lb, W1, ?_, ?_, ?_, ?_, fun h => (by cases h), ?_⟩
  · rw [← hW1, hrec]; exact run_enterLoop_outer _ _ _ _ _
  · simp only [resolve, hg]
    simp [go_sem]
  · intro f' hf'; trivial
  · simp [invoke, go_sem, eg]
  · refine (hseq (w.heap.size + 1)
      (fun pre W => I pre W ∧ W.heap[w.heap.size + 1]? = some (.loop (rec .ready none)) ∧ W.heap[w.heap.size]? = some (.deferred (some [])))
      (fun pre W => ∃ c, Ix c pre W ∧ W.heap[w.heap.size + 1]? = some (.loop (rec .done (some c))) ∧ W.heap[w.heap.size]? = some (.deferred (some [])))
      W1
      (fun s A A' hs hr => ⟨hIR s A A' hs.1 hr, ((hR _ _ hr).block _ (by omega) (Array.getElem?_eq_some_iff.1 hs.2.1).1).trans hs.2.1, ((hR _ _ hr).block _ (by omega) (Array.getElem?_eq_some_iff.1 hs.2.2).1).trans hs.2.2⟩)
      (fun s A A' hs hr => by
        obtain ⟨c, hc, hl, hk⟩ := hs
        exact ⟨c, hIxR c s A A' hc hr, ((hR _ _ hr).block _ (by omega) (Array.getElem?_eq_some_iff.1 hl).1).trans hl, ((hR _ _ hr).block _ (by omega) (Array.getElem?_eq_some_iff.1 hk).1).trans hk⟩)
      (fun s A hs => hIZ s A hs.1)
      (fun s A hs => by obtain ⟨c, hc, _⟩ := hs; exact hIxZ c s A hc)
      ?_ ⟨hI1, hL1, hK1⟩).mono ?_
    · rintro pre x W ⟨hi, hl, hk⟩ hpre
      have hlt : w.heap.size + 1 < W.heap.size := (Array.getElem?_eq_some_iff.1 hl).1
      have hy := run_yield (P := P) (args := encs x) hl (by rw [hrec]; exact hps x)
      rw [hrec] at hy
      refine ⟨fn, _, assign, body, hy, roundIn_of_wpIn hfn (wpIn_mono (hround _ pre x W (by omega) hlt hi hpre) ?_)⟩
      clear hy
      rintro e a' Wa he
      cases e with
      | normal =>
        obtain ⟨hab, hia, hbody⟩ := he
        have hla : Wa.heap[w.heap.size + 1]? = some (.loop (rec .ready none)) := (hab.block _ (by omega) hlt).trans hl
        have hka : Wa.heap[w.heap.size]? = some (.deferred (some [])) := (hab.block _ (by omega) (by omega)).trans hk
        have hlta : w.heap.size + 1 < Wa.heap.size := (Array.getElem?_eq_some_iff.1 hla).1
        refine ⟨_, run_beginRound hla (by rw [hrec]), ?_⟩
        have hl2 : (Wa.putObj (w.heap.size + 1) (.loop { rec .ready none with state := .busy })).heap[w.heap.size + 1]? = some (.loop { rec .ready none with state := .busy }) := World.putObj_heap_same hlta
        have hk2 : (Wa.putObj (w.heap.size + 1) (.loop { rec .ready none with state := .busy })).heap[w.heap.size]? = some (.deferred (some [])) := (World.putObj_heap_other (by omega)).trans hka
        have hsp : ∀ o, (Wa.putObj (w.heap.size + 1) o).heap.size = Wa.heap.size := fun o => by simp [World.putObj]
        refine wpIn_mono (hbody _ (hsp _) (fun b hb => World.putObj_heap_other hb) (hI _ _ _ hia (hput _ _))) ?_
        have fin : ∀ (jump : Option Code) (W3 : World), Above w.heap.size (Wa.putObj (w.heap.size + 1) (.loop { rec .ready none with state := .busy })) W3 →
            (Instr.endRound (w.heap.size + 1) jump).run P W3 = .ok (.bool jump.isNone) (W3.putObj (w.heap.size + 1) (.loop (rec (if jump.isNone then .ready else .done) jump))) ∧
            (W3.putObj (w.heap.size + 1) (.loop (rec (if jump.isNone then .ready else .done) jump))).heap[w.heap.size + 1]? = some (.loop (rec (if jump.isNone then .ready else .done) jump)) ∧
            (W3.putObj (w.heap.size + 1) (.loop (rec (if jump.isNone then .ready else .done) jump))).heap[w.heap.size]? = some (.deferred (some [])) := fun jump W3 hab3 => by
          have hl3 : W3.heap[w.heap.size + 1]? = some (.loop { rec .ready none with state := .busy }) := (hab3.block _ (by omega) (by rw [hsp]; omega)).trans hl2
          have hk3 : W3.heap[w.heap.size]? = some (.deferred (some [])) := (hab3.block _ (by omega) (by rw [hsp]; omega)).trans hk2
          have hlt3 : w.heap.size + 1 < W3.heap.size := (Array.getElem?_eq_some_iff.1 hl3).1
          have hr := run_endRound (P := P) jump hl3
          refine ⟨?_, World.putObj_heap_same hlt3, (World.putObj_heap_other (by omega)).trans hk3⟩
          rw [hrec] at hr ⊢
          exact hr
        rintro e a3 W3 hp
        cases e with
        | normal =>
          obtain ⟨hab3, hi3⟩ := hp
          obtain ⟨hr, hl4, hk4⟩ := fin none W3 hab3
          exact ⟨_, _, hr, .inl ⟨rfl, hI _ _ _ hi3 (hput _ _), hl4, hk4⟩⟩
        | ret =>
          obtain ⟨hab3, hi3⟩ := hp
          obtain ⟨hr, hl4, hk4⟩ := fin (some .ret) W3 hab3
          exact ⟨_, _, hr, .inr ⟨rfl, .ret, hIx _ _ _ _ hi3 (hput _ _), hl4, hk4⟩⟩
        | exit id =>
          obtain ⟨hab3, hi3⟩ := hp
          obtain ⟨hr, hl4, hk4⟩ := fin (some (.exit id)) W3 hab3
          exact ⟨_, _, hr, .inr ⟨rfl, .exit id, hIx _ _ _ _ hi3 (hput _ _), hl4, hk4⟩⟩
        | goto t => exact hp.elim
        | panic ch => exact hp.elim
        | outgrown => exact hp.elim
      | ret => exact he.elim
      | exit id => exact he.elim
      | goto t => exact he.elim
      | panic ch => exact he.elim
      | outgrown => exact he.elim
    · rintro e W2 ⟨⟨v, rfl⟩, (⟨hi, hl, hk⟩ | ⟨pre, c, hi, hl, hk⟩)⟩
      · have hlt : w.heap.size + 1 < W2.heap.size := (Array.getElem?_eq_some_iff.1 hl).1
        refine ⟨none, _, by have := run_endLoop (P := P) hl (by rw [hrec]; simp); rw [hrec] at this; exact this, ?_⟩
        exact hdone _ _ (Nat.le_refl _) (hI _ _ _ hi (hput _ _)) ((World.putObj_heap_other (by omega)).trans hk)
      · refine ⟨some c, _, by have := run_endLoop (P := P) hl (by rw [hrec]; simp); rw [hrec] at this; exact this, ?_⟩
        exact hstop _ c pre _ (Nat.le_refl _) (hIx _ _ _ _ hi (hput _ _)) ((World.putObj_heap_other (by omega)).trans hk)
end Go.Proofs.Ytchnpekgmkhacaa
namespace Go.Proofs.Ytchnpekgmkhacaa
open Go Go.RowKit Go.ChangeMaps Go.MapKept
open Go.Maps (Keyed)
variable {P : Program} {k : TypeId} {w : World} {b r : Nat} {T rem : List (Value × Value)}

theorem MapV.lookup {t e : TypeId} (h : MapV w P k b T) (K : Keyed P k) (ht : P.underlying t = some (.map k e)) {key zero : Value} {kl : Lit} (hkey : keyOf P k key = some kl) (hz : (zeroValue e).run P w = .ok zero w) :
    ((∀ p ∈ T, p.1 ≠ key) ∧ (Instr.lookup t (.map (some b)) key true).run P w = .ok (.tuple #[zero, .bool false]) w) ∨ ∃ v, (key, v) ∈ T ∧ (Instr.lookup t (.map (some b)) key true).run P w = .ok (.tuple #[v, .bool true]) w := by
  obtain ⟨es, clock, hb, hst, hk, rfl⟩ := h
  rcases K.find w hkey es.toList hk with ⟨h1, h2⟩ | ⟨j, e0, h1, h2, h3⟩
  · left
    refine ⟨fun p hp => ?_, ?_⟩
    · obtain ⟨e1, he1, rfl⟩ := List.mem_map.1 hp
      exact h2 e1 he1
    · simp [Instr.lookup, run_underlying ht, MapKept.run_getObj_map hb, K.check w _ hkey, h1, hz, Result.andThen]
  · right
    refine ⟨e0.val, List.mem_map.2 ⟨e0, List.mem_of_getElem? h2, by rw [h3]⟩, ?_⟩
    simp [Instr.lookup, run_underlying ht, MapKept.run_getObj_map hb, K.check w _ hkey, h1, Result.andThen]
theorem MapV.lookup_no {t e : TypeId} (h : MapV w P k b T) (K : Keyed P k) (ht : P.underlying t = some (.map k e)) {key zero : Value} {kl : Lit} (hkey : keyOf P k key = some kl) (hz : (zeroValue e).run P w = .ok zero w) (hn : ∀ p ∈ T, p.1 ≠ key) :
    (Instr.lookup t (.map (some b)) key true).run P w = .ok (.tuple #[zero, .bool false]) w := by
  rcases h.lookup K ht hkey hz with ⟨_, h1⟩ | ⟨v, h1, _⟩
  · exact h1
  · exact absurd rfl (hn _ h1)
theorem MapV.lookup_yes {t e : TypeId} (h : MapV w P k b T) (K : Keyed P k) (ht : P.underlying t = some (.map k e)) {key zero v : Value} {kl : Lit} (hkey : keyOf P k key = some kl) (hz : (zeroValue e).run P w = .ok zero w) (hn : ∃ p ∈ T, p.1 = key) (hv : ∀ v', (key, v') ∈ T → v' = v) :
    (Instr.lookup t (.map (some b)) key true).run P w = .ok (.tuple #[v, .bool true]) w := by
  rcases h.lookup K ht hkey hz with ⟨h1, _⟩ | ⟨v', h1, h2⟩
  · obtain ⟨p, hp, he⟩ := hn
    exact absurd he (h1 p hp)
  · rw [hv v' h1] at h2; exact h2
theorem wpList_lookup_v {ops : Array Oper} {rest : List Oper} {o : Oper} {a : Act} {Q : Exit → Act → World → Prop} (hg : o.guard = none) (m x : Operand) (t : TypeId) (hop : o.op = Op.lookup t m x true)
    (k e : TypeId) (K : Keyed P k) (ht : P.underlying t = some (.map k e)) (b : Nat) (T : List (Value × Value)) (zero : Value) (hz : (zeroValue e).run P w = .ok zero w)
    (hm : a.eval m = .map (some b)) (hown : MapV w P k b T) (key : Value) (kl : Lit) (hx : a.eval x = key) (hkey : keyOf P k key = some kl)
    (hN : (∀ p ∈ T, p.1 ≠ key) → wpList P ops Q rest (a.put o.dst (.tuple #[zero, .bool false])) w)
    (hY : ∀ v, (key, v) ∈ T → wpList P ops Q rest (a.put o.dst (.tuple #[v, .bool true])) w) :
    wpList P ops Q (o :: rest) a w := by
  refine wpList_plain hg fun K' hK' => ?_
  unfold Oper.wp
  rcases hown.lookup K ht hkey hz with ⟨h1, hrun⟩ | ⟨v, h1, hrun⟩
  · simp only [execOp, hop, hm, hx, hrun, Result.andThen, Sem.run_bind, Sem.run_pure]
    exact hK' _ _ (hN h1)
  · simp only [execOp, hop, hm, hx, hrun, Result.andThen, Sem.run_bind, Sem.run_pure]
    exact hK' _ _ (hY v h1)
end Go.Proofs.Ytchnpekgmkhacaa
