/- What is proved here: readings of Go slices in the model's memory (lists of ints, of strings, of lists of ints), that they last while memory only grows, and small closing lemmas. No condition. -/
/- What is proved here: a turn of memory that leaves all cells: lists of strings, of ints stay. No condition. -/
/- What is proved here: plain Lean functions for the small helpers of the references (escribanoref01), and plain facts on them. No program. No condition. -/
/- What is proved here: plain Lean functions for checks part by part, and for searches of lists; plain facts on them. No program. No condition. -/
import Derived.WalkKit
import Derived.WalkSpells
import Derived.WalkLawsBesides
import Derived.Lib.Hide
import Derived.Deep.QuietTactic
import Derived.BigQuiet
import Derived.Handy
import Derived.OrdersHeld
import Derived.PlainAid
import Derived.Maps.AppendAt
import Derived.Laws.AppendOwnNone
import Derived.RangeFuncOwn
set_option linter.unusedVariables false
set_option linter.unusedSimpArgs false
namespace Go.Proofs.YtklconegomgjaaaGreat
open Go Go.RowKit

theorem LH {p : Prop} (h : p) : Hid p := h
/-- What a step does to a frame. -/
theorem frT : (∀ (a : Act) (d : Nat) (v : Value), Act.put a (some d) v = { a with tmps := a.tmps.setIfInBounds d v }) ∧ (∀ (a : Act) (v : Value), Act.put a none v = a) ∧ (∀ {α : Type} (l : List α) (i : Nat) (x : α), l.toArray.setIfInBounds i x = (l.set i x).toArray) ∧ (∀ {α : Type} (y x : α) (l : List α) (n : Nat), (y :: l).set (n + 1) x = y :: l.set n x) ∧ (∀ {α : Type} (y x : α) (l : List α), (y :: l).set 0 x = x :: l) ∧ (∀ {α : Type} (l : List α) (i : Nat) (h : i < l.toArray.size), l.toArray[i] = l[i]'(by simpa using h)) ∧ (∀ {α : Type} (y : α) (l : List α) (n : Nat) (h : n + 1 < (y :: l).length), (y :: l)[n + 1] = l[n]'(by simpa using h)) ∧ (∀ {α : Type} (y : α) (l : List α) (h : 0 < (y :: l).length), (y :: l)[0] = y) :=
  ⟨fun _ _ _ => rfl, fun _ _ => rfl, fun _ _ _ => List.setIfInBounds_toArray .., fun _ _ _ _ => rfl, fun _ _ _ => rfl, fun _ _ _ => rfl, fun _ _ _ _ => rfl, fun _ _ _ => rfl⟩
section
variable {P : Program} {ops : Array Oper} {Q : Exit → Act → World → Prop} {md : Region.Mode} {S : World → Prop}
theorem tkH (i : Nat) {oi : Oper} {v : Value} {g : Nat} {listed : Array Bool} {a : Act} {w : World} (h : wpAnyH P md ops Q S g (listed.setIfInBounds i true) (a.put oi.dst v) w) (hi : ops[i]? = some oi := by rfl) (hb : (Region.noSelect ops && Region.free md ops listed i && (Region.ready md ops listed).contains i && Region.wanted oi (yielded ops a.tmps)) = true := by kernel_rfl)
    (hQ : ∀ c a w, Q (.panic c) (a.put oi.dst v) w → Q (.panic c) a w := by exact fun _ _ _ h => h) (hy : ∀ w, S w → (execOp a.eval oi).run P w = .ok (.value v) w := by (intro w h; (try dsimp only at h); go_simp; first | done | with_reducible rfl)) (hS : S w := by assumption) : wpAnyH P md ops Q S (g + 1) listed a w := by
  simp only [Bool.and_eq_true] at hb
  exact wpAnyH_take hi hb.1.1.1 hb.1.1.2 hb.1.2 hQ (.inl ⟨hb.2, hy⟩) hS h
theorem tkA (i : Nat) {oi : Oper} {v : Value} {g : Nat} {listed : Array Bool} {a : Act} {w : World} (h : wpAny P md ops Q g (listed.setIfInBounds i true) (a.put oi.dst v) w) (hi : ops[i]? = some oi := by rfl) (hb : (Region.noSelect ops && Region.free md ops listed i && (Region.ready md ops listed).contains i && Region.wanted oi (yielded ops a.tmps)) = true := by kernel_rfl)
    (hQ : ∀ c a w, Q (.panic c) (a.put oi.dst v) w → Q (.panic c) a w := by exact fun _ _ _ h => h) (hy : ∀ w, (execOp a.eval oi).run P w = .ok (.value v) w := by (intro w; go_simp; first | done | with_reducible rfl)) : wpAny P md ops Q (g + 1) listed a w := by
  simp only [Bool.and_eq_true] at hb
  exact wpAny_take hi hb.1.1.1 hb.1.1.2 hb.1.2 hQ (.inl ⟨hb.2, hy⟩) h
theorem skA (i : Nat) {oi : Oper} {g : Nat} {listed : Array Bool} {a : Act} {w : World} (h : wpAny P md ops Q g (listed.setIfInBounds i true) (a.put oi.dst undef) w) (hi : ops[i]? = some oi := by rfl) (hb : (Region.noSelect ops && Region.free md ops listed i && (Region.ready md ops listed).contains i && !Region.wanted oi (yielded ops a.tmps)) = true := by kernel_rfl)
    (hQ : ∀ c a w, Q (.panic c) (a.put oi.dst undef) w → Q (.panic c) a w := by exact fun _ _ _ h => h) : wpAny P md ops Q (g + 1) listed a w := by
  simp only [Bool.and_eq_true, Bool.not_eq_true'] at hb
  exact wpAny_take hi hb.1.1.1 hb.1.1.2 hb.1.2 hQ (.inr ⟨hb.2, rfl⟩) h
theorem skH (i : Nat) {oi : Oper} {g : Nat} {listed : Array Bool} {a : Act} {w : World} (h : wpAnyH P md ops Q S g (listed.setIfInBounds i true) (a.put oi.dst undef) w) (hi : ops[i]? = some oi := by rfl) (hb : (Region.noSelect ops && Region.free md ops listed i && (Region.ready md ops listed).contains i && !Region.wanted oi (yielded ops a.tmps)) = true := by kernel_rfl)
    (hQ : ∀ c a w, Q (.panic c) (a.put oi.dst undef) w → Q (.panic c) a w := by exact fun _ _ _ h => h) (hS : S w := by assumption) : wpAnyH P md ops Q S (g + 1) listed a w := by
  simp only [Bool.and_eq_true, Bool.not_eq_true'] at hb
  exact wpAnyH_take hi hb.1.1.1 hb.1.1.2 hb.1.2 hQ (.inr ⟨hb.2, rfl⟩) hS h
end
theorem ret_bool {a b : Bool} (h : a = b) : Ending.returned (.bool a) = .returned (.bool b) := by rw [h]
theorem ret_int {k : IntKind} {a b : Int} (h : a = b) : Ending.returned (.int k a) = .returned (.int k b) := by rw [h]
theorem val_bool {a b : Bool} (h : a = b) : Value.bool a = .bool b := by rw [h]
theorem val_int {k : IntKind} {a b : Int} (h : a = b) : Value.int k a = .int k b := by rw [h]
theorem ret_val {a b : Value} (h : a = b) : Ending.returned a = .returned b := by rw [h]

theorem eqn_t {a b : Nat} (h : a = b) : ((a : Int) == (b : Int)) = true := by simp [h]
theorem eqn_f {a b : Nat} (h : a ≠ b) : ((a : Int) == (b : Int)) = false := by simp; omega
theorem nen_t {a b : Nat} (h : a ≠ b) : ((a : Int) != (b : Int)) = true := by simp; omega
theorem nen_f {a b : Nat} (h : a = b) : ((a : Int) != (b : Int)) = false := by simp [h]
theorem ltn_t {a b : Nat} (h : a < b) : decide ((a : Int) < (b : Int)) = true := by simp; omega
theorem ltn_f {a b : Nat} (h : b ≤ a) : decide ((a : Int) < (b : Int)) = false := by simp; omega
theorem eqi_t {a b : Int} (h : a = b) : (a == b) = true := by simp [h]
theorem eqi_f {a b : Int} (h : a ≠ b) : (a == b) = false := by simp; omega
theorem nei_t {a b : Int} (h : a ≠ b) : (a != b) = true := by simp; omega
theorem nei_f {a b : Int} (h : a = b) : (a != b) = false := by simp [h]

theorem str_eq (x y : ByteArray) : (x.toList == y.toList) = decide (x = y) := by
  rw [Bool.eq_iff_iff]
  simp only [beq_iff_eq, decide_eq_true_eq]
  constructor
  · intro h
    rw [ByteArray.toList_eq, ByteArray.toList_eq] at h
    obtain ⟨⟨a⟩⟩ := x
    obtain ⟨⟨b⟩⟩ := y
    simp at h
    rw [h]
  · rintro rfl
    rfl
theorem str_t {x y : ByteArray} (h : x = y) : (x.toList == y.toList) = true := by rw [str_eq]; simp [h]
theorem str_f {x y : ByteArray} (h : x ≠ y) : (x.toList == y.toList) = false := by rw [str_eq]; simp [h]

/-- A step of a range over a string: at a byte of ASCII, and at any other. -/
theorem decode_high (s : ByteArray) (pos : Nat) (h : pos < s.size) (ha : 128 ≤ (s[pos]'h).toNat) : 128 ≤ (Utf8.decode s pos).1 := by
  have e : s.get! (pos + 0) = s[pos]'h := by
    show s.get! pos = _
    simp [ByteArray.get!, getElem!_pos, h]
    rfl
  simp only [Utf8.decode, e, Utf8.runeError]
  rw [if_neg (by omega)]
  repeat' split
  all_goals first | (simp only [ge_iff_le]; omega) | (rename_i hh; simp only [Bool.and_eq_true, decide_eq_true_eq, ge_iff_le] at hh; simp only; omega) | (simp only; omega)
theorem run_next_rune {P : Program} (w : World) (s : ByteArray) (pos : Nat) (ty : TypeId) (h : pos < s.size) :
    (Instr.next (.pointer (some ⟨w.heap.size, 0, none⟩)) true ty).run P (w.iter s pos) =
      .ok (.tuple #[.bool true, .int .i64 pos, .int .i32 (Utf8.decode s pos).1]) (w.iter s (pos + (Utf8.decode s pos).2)) := by
  simp only [Instr.next, getObj, setObj, Sem.run_bind, Sem.run, World.iter_heap, Result.andThen, h, if_true, World.iter_set]
  simp [goInt, Sem.run, World.iter_heap, World.iter_set]

/-- Draws turn no cell. -/
theorem drewN_cell (w : World) (q : Nat) (a : Addr) : (w.drewN q).cell? a = w.cell? a := by simp
theorem below_drewN' {B : Nat} {w w' : World} (h : Below B w w') (q : Nat) : Below B w (w'.drewN q) := ⟨h.os, h.tape, h.output, h.size, h.block⟩
theorem below_draws (B : Nat) (w : World) (q : Nat) : Below B w (w.drewN q) := below_drewN' (Below.refl B w) q

/-- A slice value's address, length and capacity fit. -/
def SlOk (a : Option Addr) (n c : Nat) : Prop := n ≤ c ∧ c ≤ 9223372036854775807 ∧ (a = none → c = 0)
theorem SlOk.len {a : Option Addr} {n c : Nat} (h : SlOk a n c) : n ≤ 9223372036854775807 := Nat.le_trans h.1 h.2.1

/-- A slice of ints, cell by cell. -/
def IntsC (w : World) (a : Option Addr) (l : List Int) : Prop :=
  ∀ i (_ : i < l.length), ∃ b off, a = some ⟨b, off, none⟩ ∧ b < w.heap.size ∧ w.cell? ⟨b, off + i, none⟩ = some (.int .i64 l[i])
/-- A slice of strings. -/
def StrsC (w : World) (a : Option Addr) (l : List ByteArray) : Prop :=
  ∀ i (_ : i < l.length), ∃ b off, a = some ⟨b, off, none⟩ ∧ b < w.heap.size ∧ w.cell? ⟨b, off + i, none⟩ = some (.string l[i])
/-- A slice of slices of ints. -/
def RowsC (w : World) (a : Option Addr) (L : List (List Int)) : Prop :=
  ∀ i (_ : i < L.length), ∃ b off a' c', a = some ⟨b, off, none⟩ ∧ b < w.heap.size ∧ w.cell? ⟨b, off + i, none⟩ = some (.slice a' L[i].length c') ∧ SlOk a' L[i].length c' ∧ IntsC w a' L[i]

theorem lt_of_cell {w : World} {a : Addr} {v : Value} (h : w.cell? a = some v) : a.block < w.heap.size := World.block_lt_of_cell? w a h
theorem cell_below {w W : World} (hb : Below w.heap.size w W) {b off : Nat} {v : Value} (h : w.cell? ⟨b, off, none⟩ = some v) : W.cell? ⟨b, off, none⟩ = some v :=
  (hb.cell (p := ⟨b, off, none⟩) (lt_of_cell h)).trans h

theorem IntsC.mono {w W : World} {a : Option Addr} {l : List Int} (h : IntsC w a l) (hb : Below w.heap.size w W) : IntsC W a l := fun i hi => by
  obtain ⟨b, off, e, hlt, hc⟩ := h i hi
  exact ⟨b, off, e, Nat.lt_of_lt_of_le hlt hb.size, cell_below hb hc⟩
theorem StrsC.mono {w W : World} {a : Option Addr} {l : List ByteArray} (h : StrsC w a l) (hb : Below w.heap.size w W) : StrsC W a l := fun i hi => by
  obtain ⟨b, off, e, hlt, hc⟩ := h i hi
  exact ⟨b, off, e, Nat.lt_of_lt_of_le hlt hb.size, cell_below hb hc⟩
theorem RowsC.mono {w W : World} {a : Option Addr} {L : List (List Int)} (h : RowsC w a L) (hb : Below w.heap.size w W) : RowsC W a L := fun i hi => by
  obtain ⟨b, off, a', c', e, hlt, hc, h1, h3⟩ := h i hi
  exact ⟨b, off, a', c', e, Nat.lt_of_lt_of_le hlt hb.size, cell_below hb hc, h1, h3.mono hb⟩

theorem IntsC.nil (w : World) (a : Option Addr) : IntsC w a [] := fun i hi => absurd hi (Nat.not_lt_zero i)
theorem StrsC.nil (w : World) (a : Option Addr) : StrsC w a [] := fun i hi => absurd hi (Nat.not_lt_zero i)
theorem RowsC.nil (w : World) (a : Option Addr) : RowsC w a [] := fun i hi => absurd hi (Nat.not_lt_zero i)

/-- The first elements of a slice of strings. -/
theorem StrsC.take {w : World} {a : Option Addr} {l : List ByteArray} (h : StrsC w a l) (k : Nat) : StrsC w a (l.take k) := fun i hi => by
  have hi' : i < l.length := by simp at hi; omega
  obtain ⟨b, off, e, hlt, hc⟩ := h i hi'
  exact ⟨b, off, e, hlt, by rw [hc]; simp⟩

/-- A slice value that holds a list of ints. -/
def IntsV (w : World) (v : Value) (l : List Int) : Prop := ∃ a c, v = .slice a l.length c ∧ SlOk a l.length c ∧ IntsC w a l
def StrsV (w : World) (v : Value) (l : List ByteArray) : Prop := ∃ a c, v = .slice a l.length c ∧ SlOk a l.length c ∧ StrsC w a l
def RowsV (w : World) (v : Value) (L : List (List Int)) : Prop := ∃ a c, v = .slice a L.length c ∧ SlOk a L.length c ∧ RowsC w a L
theorem IntsV.mono {w W : World} {v : Value} {l : List Int} (h : IntsV w v l) (hb : Below w.heap.size w W) : IntsV W v l := by
  obtain ⟨a, c, e, h1, h3⟩ := h; exact ⟨a, c, e, h1, h3.mono hb⟩
theorem RowsV.mono {w W : World} {v : Value} {L : List (List Int)} (h : RowsV w v L) (hb : Below w.heap.size w W) : RowsV W v L := by
  obtain ⟨a, c, e, h1, h3⟩ := h; exact ⟨a, c, e, h1, h3.mono hb⟩

theorem ints_own {w : World} {base : Nat} {e : TypeId} {g cap n : Nat} {l : List Int} {xs : List Value} (h : w.ownsRow base e 1 (.slice (some ⟨g, 0, none⟩) n cap) n xs) (hx : xs = l.map (Value.int .i64)) :
    n = l.length ∧ IntsC w (some ⟨g, 0, none⟩) l ∧ SlOk (some ⟨g, 0, none⟩) l.length cap ∧ base ≤ g ∧ g < w.heap.size := by
  subst hx
  have hn : n = l.length := by have := h.1; simp at this; omega
  subst hn
  have hm : maxLen = 9223372036854775807 := rfl
  rcases h.2 with ⟨hv, _⟩ | ⟨g', cap', cur, hv, hb, hg, h1, h2, h3, h4⟩
  · cases hv
  · cases hv
    refine ⟨rfl, fun i hi => ⟨g, 0, rfl, (Array.getElem?_eq_some_iff.1 hg).1, ?_⟩, ⟨h1, by omega, fun h => by cases h⟩, hb, (Array.getElem?_eq_some_iff.1 hg).1⟩
    have := h.cells (g := g) rfl i (.int .i64 l[i]) (by simp [hi])
    simpa [Addr.add_lit] using this

/-- What the call has collected by append reads as a list of ints. -/
theorem IntsV.of_own {w : World} {base : Nat} {e : TypeId} {v : Value} {n : Nat} {l : List Int} (h : w.ownsRow base e 1 v n (l.map (Value.int .i64))) : IntsV w v l := by
  have hn : l.length = n := by simpa using h.1
  subst hn
  rcases h.2 with ⟨rfl, h0⟩ | ⟨g, cap, cur, rfl, _, hg, h1, h2, h3, h4⟩
  · have : l = [] := List.eq_nil_of_length_eq_zero h0
    subst this
    exact ⟨none, 0, rfl, ⟨Nat.le_refl _, by omega, fun _ => rfl⟩, IntsC.nil _ _⟩
  · have hm : maxLen = 9223372036854775807 := rfl
    refine ⟨some ⟨g, 0, none⟩, cap, rfl, ⟨h1, by omega, fun h => by cases h⟩, fun i hi => ⟨g, 0, rfl, (Array.getElem?_eq_some_iff.1 hg).1, ?_⟩⟩
    have := h.cells (g := g) rfl i (.int .i64 l[i]) (by simp [hi])
    simpa [Addr.add_lit] using this

/-- A block that the call laid for a parameter or a variable. -/
theorem box_cell {w W : World} {cs : Array Value} {t : TypeId} (h : Below (w.heap.size + 1) (w.alloc (.cells cs t)) W) (j : Nat) (v : Value) (hj : cs[j]? = some v) : W.cell? ⟨w.heap.size, j, none⟩ = some v := by
  rw [h.cell (p := ⟨w.heap.size, j, none⟩) (by simp)]
  simp only [World.cell?, heap_alloc_new]
  simpa using hj
theorem box_old {w W : World} {o : Obj} (h : Below (w.heap.size + 1) (w.alloc o) W) : Below w.heap.size w W :=
  ((Below.refl _ w).alloc (Nat.le_refl _) o).trans (h.mono (by omega))
theorem box_size {w W : World} {o : Obj} (h : Below (w.heap.size + 1) (w.alloc o) W) : w.heap.size < W.heap.size := by
  have := h.size
  simp at this
  omega

theorem box_four {w W : World} {v0 v1 v2 v3 : Value} {t : TypeId} (h : Below (w.heap.size + 1) (w.alloc (.cells #[v0, v1, v2, v3] t)) W) :
    W.cell? ⟨w.heap.size, 0, none⟩ = some v0 ∧ W.cell? ⟨w.heap.size, 1, none⟩ = some v1 ∧ W.cell? ⟨w.heap.size, 2, none⟩ = some v2 ∧ W.cell? ⟨w.heap.size, 3, none⟩ = some v3 :=
  ⟨box_cell h 0 _ rfl, box_cell h 1 _ rfl, box_cell h 2 _ rfl, box_cell h 3 _ rfl⟩

/-- What the call has collected by append reads as a list of strings. -/
theorem strs_own {w : World} {base : Nat} {e : TypeId} {v : Value} {n : Nat} {l : List ByteArray} (h : w.ownsRow base e 1 v n (l.map Value.string)) :
    n = l.length ∧ ∃ a c, v = .slice a l.length c ∧ SlOk a l.length c ∧ StrsC w a l := by
  have hn : l.length = n := by simpa using h.1
  subst hn
  refine ⟨rfl, ?_⟩
  rcases h.2 with ⟨rfl, h0⟩ | ⟨g, cap, cur, rfl, _, hg, h1, h2, h3, h4⟩
  · have : l = [] := List.eq_nil_of_length_eq_zero h0
    subst this
    exact ⟨none, 0, rfl, ⟨Nat.le_refl _, by omega, fun _ => rfl⟩, StrsC.nil _ _⟩
  · have hm : maxLen = 9223372036854775807 := rfl
    refine ⟨some ⟨g, 0, none⟩, cap, rfl, ⟨h1, by omega, fun h => by cases h⟩, fun i hi => ⟨g, 0, rfl, (Array.getElem?_eq_some_iff.1 hg).1, ?_⟩⟩
    have := h.cells (g := g) rfl i (.string l[i]) (by simp [hi])
    simpa [Addr.add_lit] using this
end Go.Proofs.YtklconegomgjaaaGreat
namespace Go.Proofs.YtklconegomgjaaaGreat
open Go Go.RowKit
/-- A turn of memory that leaves all cells: it grows, or a block turns that holds none (a map). -/
def Keeps (w W : World) : Prop := w.heap.size ≤ W.heap.size ∧ ∀ a v, w.cell? a = some v → W.cell? a = some v
theorem Keeps.refl (w : World) : Keeps w w := ⟨Nat.le_refl _, fun _ _ h => h⟩
theorem Keeps.trans {a b c : World} (h : Keeps a b) (k : Keeps b c) : Keeps a c := ⟨Nat.le_trans h.1 k.1, fun x v e => k.2 x v (h.2 x v e)⟩
theorem Keeps.of_below {w W : World} (h : Below w.heap.size w W) : Keeps w W := ⟨h.size, fun a v e => (h.cell (p := a) (lt_of_cell e)).trans e⟩
theorem Keeps.of_grown {w W : World} {b : Nat} {es : Array MapEntry} {c : Nat} (h : w.grownBy W (some b)) (hb : w.heap[b]? = some (.map es c)) : Keeps w W :=
  ⟨h.size, fun a v e => h.cell e (fun he => by cases he; simp [World.cell?, hb] at e)⟩

theorem StrsC.keep {w W : World} {a : Option Addr} {l : List ByteArray} (h : StrsC w a l) (hb : Keeps w W) : StrsC W a l := fun i hi => by
  obtain ⟨b, off, e, hlt, h1⟩ := h i hi
  exact ⟨b, off, e, Nat.lt_of_lt_of_le hlt hb.1, hb.2 _ _ h1⟩
theorem IntsC.keep {w W : World} {a : Option Addr} {l : List Int} (h : IntsC w a l) (hb : Keeps w W) : IntsC W a l := fun i hi => by
  obtain ⟨b, off, e, hlt, h1⟩ := h i hi
  exact ⟨b, off, e, Nat.lt_of_lt_of_le hlt hb.1, hb.2 _ _ h1⟩
theorem IntsV.keep {w W : World} {v : Value} {l : List Int} (h : IntsV w v l) (hb : Keeps w W) : IntsV W v l := by
  obtain ⟨a, c, e, h1, h3⟩ := h; exact ⟨a, c, e, h1, h3.keep hb⟩
end Go.Proofs.YtklconegomgjaaaGreat
namespace Go.Proofs.YtklconegomgjaaaGreat

/-- 'In'. -/
def inB (n lo hi : Int) : Bool := decide (lo ≤ n) && decide (n ≤ hi)
theorem inB_iff {n lo hi : Int} : inB n lo hi = true ↔ lo ≤ n ∧ n ≤ hi := by simp [inB]
theorem inB_no {n lo hi : Int} : inB n lo hi = false ↔ n < lo ∨ hi < n := by
  cases h : inB n lo hi
  · have : ¬ (lo ≤ n ∧ n ≤ hi) := fun h' => by rw [inB_iff.2 h'] at h; cases h
    simp; omega
  · have := inB_iff.1 h
    simp; omega

/-- 'Has'. -/
def hasB (l : List Int) (n : Int) : Bool := l.any (· == n)
theorem hasB_iff {l : List Int} {n : Int} : hasB l n = true ↔ n ∈ l := by
  simp [hasB]
theorem hasB_snoc (l : List Int) (k : Nat) (h : k < l.length) (n : Int) : hasB (l.take (k+1)) n = (hasB (l.take k) n || (l[k] == n)) := by
  unfold hasB
  rw [List.take_succ_eq_append_getElem h, List.any_append]
  simp

/-- 'Less': lists of numbers, the first number that differs decides. -/
def less : List Int → List Int → Bool
  | _, [] => false
  | [], _ :: _ => true
  | x :: xs, y :: ys => if x = y then less xs ys else decide (x < y)
theorem less_drop (a b : List Int) (k : Nat) (ha : k < a.length) (hb : k < b.length) :
    less (a.drop k) (b.drop k) = if a[k] = b[k] then less (a.drop (k+1)) (b.drop (k+1)) else decide (a[k] < b[k]) := by
  rw [List.drop_eq_getElem_cons ha, List.drop_eq_getElem_cons hb, less]
theorem less_end (a b : List Int) (k : Nat) (hb : b.length ≤ k) : less (a.drop k) (b.drop k) = false := by
  rw [List.drop_of_length_le hb]; cases a.drop k <;> rfl
theorem less_short (a b : List Int) (k : Nat) (ha : a.length ≤ k) (hb : k < b.length) : less (a.drop k) (b.drop k) = true := by
  rw [List.drop_of_length_le ha, List.drop_eq_getElem_cons hb]; rfl
theorem less_irrefl (a : List Int) : less a a = false := by
  induction a with
  | nil => rfl
  | cons x xs ih => simp [less, ih]
theorem less_total : ∀ (a b : List Int), a.length = b.length → less a b = false → less b a = false → a = b
  | [], [], _, _, _ => rfl
  | x :: xs, y :: ys, hl, h1, h2 => by
    simp only [less] at h1 h2
    by_cases e : x = y
    · subst e
      simp only [if_true] at h1 h2
      rw [less_total xs ys (by simpa using hl) h1 h2]
    · rw [if_neg e] at h1
      rw [if_neg (fun h => e h.symm)] at h2
      simp at h1 h2
      omega
theorem less_asymm : ∀ (a b : List Int), less a b = true → less b a = false
  | [], [], h => by simp [less] at h
  | [], y :: ys, _ => rfl
  | x :: xs, [], h => by simp [less] at h
  | x :: xs, y :: ys, h => by
    simp only [less] at h ⊢
    by_cases e : x = y
    · subst e
      simp only [if_true] at h ⊢
      exact less_asymm xs ys h
    · rw [if_neg e] at h
      rw [if_neg (fun h => e h.symm)]
      simp at h ⊢
      omega
theorem less_trans : ∀ (a b c : List Int), less a b = true → less b c = true → less a c = true
  | [], [], _, h, _ => by simp [less] at h
  | x :: xs, [], _, h, _ => by simp [less] at h
  | _, y :: ys, [], _, h => by simp [less] at h
  | [], y :: ys, z :: zs, _, _ => rfl
  | x :: xs, y :: ys, z :: zs, h, k => by
    simp only [less] at h k ⊢
    by_cases e : x = y
    · subst e
      simp only [if_true] at h
      by_cases f : x = z
      · subst f
        simp only [if_true] at k ⊢
        exact less_trans xs ys zs h k
      · rw [if_neg f] at k ⊢
        exact k
    · rw [if_neg e] at h
      simp at h
      by_cases f : y = z
      · subst f
        rw [if_neg e]
        simpa using h
      · rw [if_neg f] at k
        simp at k
        rw [if_neg (by omega)]
        simp
        omega

/-- 'Ints'. -/
def intsB (a b : List Int) : Bool := decide (a.length = b.length) && !less a b && !less b a
theorem intsB_iff {a b : List Int} : intsB a b = true ↔ a = b := by
  constructor
  · intro h
    simp [intsB] at h
    exact less_total a b h.1.1 h.1.2 h.2
  · rintro rfl
    simp [intsB, less_irrefl]

/-- 'Fewer'. -/
def fewer (a b : List Int) : Bool := if a.length = b.length then less a b else decide (a.length < b.length)

/-- 'Rising': ascending numbers from behind 'last' to below 'below'. -/
def risingFrom (last below : Int) : List Int → Bool
  | [] => true
  | x :: xs => decide (last < x) && decide (x < below) && risingFrom x below xs
def rising (l : List Int) (below : Int) : Bool := risingFrom (-1) below l

/-- 'Bit'. -/
def bitB (n : Int) (k : Nat) : Bool := n.toNat.testBit k
theorem bit_zero (n : Int) : bitB n 0 = decide (n.tmod 2 = 1) := by
  unfold bitB
  rw [Nat.testBit_zero]
  by_cases h : 0 ≤ n
  · obtain ⟨m, rfl⟩ := Int.eq_ofNat_of_zero_le h
    simp only [Int.toNat_natCast]
    have : ((m : Int).tmod 2) = ((m % 2 : Nat) : Int) := by rw [Int.tmod_eq_emod_of_nonneg (by omega)]; omega
    rw [this]
    by_cases h : m % 2 = 1 <;> simp [h] <;> omega
  · have h0 : n.toNat = 0 := by omega
    rw [h0]
    have : n.tmod 2 ≤ 0 := by
      have := Int.tmod_nonneg 2 (a := -n) (by omega)
      rw [Int.neg_tmod] at this
      omega
    simp
    omega
theorem bit_succ (n : Int) (k : Nat) : bitB n (k+1) = bitB (n.tdiv 2) k := by
  unfold bitB
  by_cases h : 0 ≤ n
  · obtain ⟨m, rfl⟩ := Int.eq_ofNat_of_zero_le h
    have : ((m : Int).tdiv 2) = ((m / 2 : Nat) : Int) := by rw [Int.tdiv_eq_ediv_of_nonneg (by omega)]; omega
    rw [this]
    simp only [Int.toNat_natCast, Nat.testBit_succ]
  · have h0 : n.toNat = 0 := by omega
    have h1 : (n.tdiv 2).toNat = 0 := by
      have : n.tdiv 2 ≤ 0 := by
        have := Int.tdiv_nonneg (a := -n) (b := 2) (by omega) (by omega)
        rw [Int.neg_tdiv] at this
        omega
      omega
    rw [h0, h1]
    simp

theorem half_bd (x : Int) (h1 : -9223372036854775808 ≤ x) (h2 : x ≤ 9223372036854775807) : -9223372036854775808 ≤ x.tdiv 2 ∧ x.tdiv 2 ≤ 9223372036854775807 := by
  by_cases h : 0 ≤ x
  · rw [Int.tdiv_eq_ediv_of_nonneg h]
    omega
  · have := Int.neg_tdiv x 2
    rw [Int.tdiv_eq_ediv_of_nonneg (show 0 ≤ -x by omega)] at this
    omega

/-- 'Where'. -/
def whereFrom (l : List ByteArray) (s : ByteArray) (k : Nat) : Int :=
  match l with
  | [] => -1
  | x :: xs => if x = s then k else whereFrom xs s (k+1)
def whereI (l : List ByteArray) (s : ByteArray) : Int := whereFrom l s 0

/-- A name's bytes: from 'a' to 'z', or, not at the beginning, a dot or a digit. -/
def low (c : UInt8) : Bool := decide (97 ≤ c.toNat) && decide (c.toNat ≤ 122)
def late (c : UInt8) : Bool := c.toNat == 46 || (decide (48 ≤ c.toNat) && decide (c.toNat ≤ 57))
def nameFrom (k : Nat) : List UInt8 → Bool
  | [] => true
  | c :: cs => (low c || (decide (0 < k) && late c)) && nameFrom (k+1) cs
def nameB (s : ByteArray) : Bool := decide (1 ≤ s.size) && decide (s.size ≤ 16) && nameFrom 0 s.data.toList

/-- 'Fresh': the error of a name that must not be one of some before it (6: no name; 5: it is there already). -/
def hasS (l : List ByteArray) (s : ByteArray) : Bool := l.any fun x => decide (x = s)
def fresh (s : ByteArray) (before : List ByteArray) : Int := if nameB s then (if hasS before s then 5 else 0) else 6

/-- 'Choices', round by round. -/
def choiceStep (below : Int) (first : Bool) (l : List Int) : List (List Int) :=
  let least : Int := if first then 0 else l.getLast?.getD 0 + 1
  (List.range (below - least).toNat).map fun (j : Nat) => l ++ [least + (j : Int)]
def choicesTo (below : Int) : Nat → List (List Int)
  | 0 => [[]]
  | i + 1 => (choicesTo below i).flatMap (choiceStep below (i == 0))
def choices (below many : Int) : List (List Int) := choicesTo below many.toNat
end Go.Proofs.YtklconegomgjaaaGreat
namespace Go.Proofs.YtklconegomgjaaaGreat
/-- The first index below n at which f is not 0. -/
def firstErr (n : Nat) (f : Nat → Int) : Option Nat := (List.range n).find? fun i => f i != 0
theorem firstErr_none {n : Nat} {f : Nat → Int} (h : ∀ i, i < n → f i = 0) : firstErr n f = none := by
  unfold firstErr
  rw [List.find?_eq_none]
  intro i hi
  simp at hi
  simp [h i hi]
theorem firstErr_some {n k : Nat} {f : Nat → Int} (hk : k < n) (h : ∀ i, i < k → f i = 0) (hf : f k ≠ 0) : firstErr n f = some k := by
  unfold firstErr
  rw [List.find?_eq_some_iff_append]
  refine ⟨by simpa using hf, List.range k, (List.range' (k+1) (n - k - 1)), ?_, ?_⟩
  · rw [List.range_eq_range', List.range_eq_range', ← List.range'_succ, show n = k + (n - k - 1 + 1) from by omega, ← List.range'_append]
    congr 2 <;> omega
  · intro i hi
    simp at hi
    simp [h i hi]
theorem firstErr_zero {n : Nat} {f : Nat → Int} (h : firstErr n f = none) : ∀ i, i < n → f i = 0 := by
  intro i hi
  unfold firstErr at h
  rw [List.find?_eq_none] at h
  have := h i (by simpa using hi)
  simpa using this

/-- The bits of so many claimants. -/
def allBits (n : Nat) : Int := 2 ^ n - 1

/-- One part of the check: too many (3), or the first with an error. -/
def checkPart (part : Int) (len most : Nat) (f : Nat → Int) (next : Int × Int × Int) : Int × Int × Int :=
  if most < len then (part, 0, 3) else match firstErr len f with | some i => (part, i, f i) | none => next
theorem checkPart_long {part : Int} {len most : Nat} {f : Nat → Int} {next : Int × Int × Int} (h : most < len) : checkPart part len most f next = (part, 0, 3) := by unfold checkPart; rw [if_pos h]
theorem checkPart_err {part : Int} {len most k : Nat} {f : Nat → Int} {next : Int × Int × Int} (h : len ≤ most) (hk : k < len) (h0 : ∀ i, i < k → f i = 0) (hf : f k ≠ 0) : checkPart part len most f next = (part, (k : Int), f k) := by
  unfold checkPart; rw [if_neg (by omega), firstErr_some hk h0 hf]
theorem checkPart_ok {part : Int} {len most : Nat} {f : Nat → Int} {next : Int × Int × Int} (h : len ≤ most) (h0 : ∀ i, i < len → f i = 0) : checkPart part len most f next = next := by
  unfold checkPart; rw [if_neg (by omega), firstErr_none h0]

/-- The index and the error of the first thing with one, of at most so many. -/
def failOf (n most : Nat) (f : Nat → Int) : Int × Int := if most < n then (0, 3) else match firstErr n f with | some i => ((i : Int), f i) | none => (0, 0)
theorem failOf_long {n most : Nat} {f : Nat → Int} (h : most < n) : failOf n most f = (0, 3) := if_pos h
theorem failOf_err {n most k : Nat} {f : Nat → Int} (h : n ≤ most) (hk : k < n) (h0 : ∀ i, i < k → f i = 0) (hf : f k ≠ 0) : failOf n most f = ((k : Int), f k) := by
  unfold failOf; rw [if_neg (by omega), firstErr_some hk h0 hf]
theorem failOf_ok {n most : Nat} {f : Nat → Int} (h : n ≤ most) (h0 : ∀ i, i < n → f i = 0) : failOf n most f = (0, 0) := by
  unfold failOf; rw [if_neg (by omega), firstErr_none h0]

theorem checkPart_zero {part : Int} {len most : Nat} {f : Nat → Int} {next : Int × Int × Int} (h : (checkPart part len most f next).2.2 = 0) : len ≤ most ∧ (∀ i, i < len → f i = 0) ∧ next.2.2 = 0 := by
  unfold checkPart at h
  by_cases hl : most < len
  · rw [if_pos hl] at h; simp at h
  · rw [if_neg hl] at h
    cases hf : firstErr len f with
    | none => rw [hf] at h; exact ⟨by omega, firstErr_zero hf, h⟩
    | some i =>
      rw [hf] at h
      have hi : i ∈ List.range len ∧ (f i != 0) = true := by
        unfold firstErr at hf
        have h2 := List.find?_some (p := fun i => f i != 0) hf
        exact ⟨List.mem_of_find?_eq_some hf, h2⟩
      simp at h
      simp [h] at hi

/-- The first of lists that is so, the fewest numbers first. -/
def searchOne (so : List Int → Bool) (below : Int) (k : Nat) : Option (List Int) := (choicesTo below k).find? so
def searchFrom (so : List Int → Bool) (below : Int) (k : Nat) : Nat → Option (List Int)
  | 0 => none
  | fuel + 1 => match searchOne so below k with | some l => some l | none => searchFrom so below (k+1) fuel
theorem none_succ {α : Type} {so : α → Bool} {L : List α} {k : Nat} (h0 : ∀ j (_ : j < k) (h : j < L.length), so L[j] = false) (hk : k < L.length) (h : so L[k] = false) : ∀ j (_ : j < k + 1) (h : j < L.length), so L[j] = false := by
  intro j hj h2
  by_cases hjk : j < k
  · exact h0 j hjk h2
  · have : j = k := by omega
    subst this
    exact h
theorem any_hit {α : Type} {so : α → Bool} {L : List α} {i : Nat} (hi : i < L.length) (h : so L[i] = true) : L.any so = true := by
  rw [List.any_eq_true]; exact ⟨_, List.getElem_mem hi, h⟩
theorem any_none {α : Type} {so : α → Bool} {L : List α} (h : ∀ i (_ : i < L.length), so L[i] = false) : L.any so = false := by
  rw [List.any_eq_false]
  intro x hx
  obtain ⟨i, hi, rfl⟩ := List.getElem_of_mem hx
  simp [h i hi]
theorem find_hit {α : Type} {so : α → Bool} {L : List α} {i : Nat} (hi : i < L.length) (h0 : ∀ j (_ : j < i) (h : j < L.length), so L[j] = false) (h : so L[i] = true) : L.find? so = some L[i] := by
  rw [List.find?_eq_some_iff_append]
  refine ⟨h, L.take i, L.drop (i+1), ?_, ?_⟩
  · rw [← List.drop_eq_getElem_cons hi, List.take_append_drop]
  · intro x hx
    obtain ⟨j, hj, rfl⟩ := List.getElem_of_mem hx
    rw [List.length_take] at hj
    simp [h0 j (by omega) (by omega)]
theorem find_none {α : Type} {so : α → Bool} {L : List α} (h : ∀ i (_ : i < L.length), so L[i] = false) : L.find? so = none := by
  rw [List.find?_eq_none]
  intro x hx
  obtain ⟨i, hi, rfl⟩ := List.getElem_of_mem hx
  simp [h i hi]

theorem search_none {so : List Int → Bool} {n : Int} {k f : Nat} (h : (choicesTo n k).find? so = none) : searchFrom so n k (f + 1) = searchFrom so n (k + 1) f := by
  rw [searchFrom, searchOne, h]
theorem search_some {so : List Int → Bool} {n : Int} {k f : Nat} {l : List Int} (h : (choicesTo n k).find? so = some l) : searchFrom so n k (f + 1) = some l := by
  rw [searchFrom, searchOne, h]
theorem choices_all (n : Nat) (h : n ≤ 5) : 0 < (choicesTo n n).length := by
  rcases n with _ | _ | _ | _ | _ | _ | n
  · decide
  · decide
  · decide
  · decide
  · decide
  · decide
  · omega
end Go.Proofs.YtklconegomgjaaaGreat
