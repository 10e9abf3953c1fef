/- What is proved here: how a room of layer 12 lies in memory, and that it stays while memory grows, or turns in a block that holds no cells. No condition. -/
import Derived.Test.YtmhbjohpggghgaaSeGround
import Derived.Test.YtmhbjohpggghgaaSePlain
import Derived.RangeFuncOwn
set_option linter.unusedVariables false
set_option linter.unusedSimpArgs false
namespace Go.Proofs.Ytmhbjohpggghgaa
open Go Go.RowKit

def LeaksC (w : World) (a : Option Addr) (l : List SeLeak) : Prop :=
  ∀ i (_ : i < l.length), ∃ b off, a = some ⟨b, off, none⟩ ∧ b < w.heap.size ∧ w.cell? ⟨b, off + i * 3, none⟩ = some (.int .i64 l[i].src) ∧ w.cell? ⟨b, off + i * 3 + 1, none⟩ = some (.int .i64 l[i].dst) ∧
    w.cell? ⟨b, off + i * 3 + 2, none⟩ = some (.bool l[i].sure)
def LettersC (w : World) (a : Option Addr) (l : List SeLetter) : Prop :=
  ∀ i (_ : i < l.length), ∃ b off, a = some ⟨b, off, none⟩ ∧ b < w.heap.size ∧ w.cell? ⟨b, off + i * 3, none⟩ = some (.int .i64 l[i].day) ∧ w.cell? ⟨b, off + i * 3 + 1, none⟩ = some (.int .i64 l[i].secrets) ∧
    w.cell? ⟨b, off + i * 3 + 2, none⟩ = some (.int .i64 l[i].writer)
def HeardC (w : World) (a : Option Addr) (l : List SeHeard) : Prop :=
  ∀ i (_ : i < l.length), ∃ b off, a = some ⟨b, off, none⟩ ∧ b < w.heap.size ∧ w.cell? ⟨b, off + i * 4, none⟩ = some (.int .i64 l[i].writer) ∧ w.cell? ⟨b, off + i * 4 + 1, none⟩ = some (.int .i64 l[i].secret) ∧
    w.cell? ⟨b, off + i * 4 + 2, none⟩ = some (.int .i64 l[i].day) ∧ w.cell? ⟨b, off + i * 4 + 3, none⟩ = some (.bool l[i].knew)

/-- A turn of memory that leaves all cells: it grows, or a block turns that holds none (a map). -/
def Keeps (w W : World) : Prop := w.heap.size ≤ W.heap.size ∧ ∀ a v, w.cell? a = some v → W.cell? a = some v
theorem Keeps.refl (w : World) : Keeps w w := ⟨Nat.le_refl _, fun _ _ h => h⟩
theorem Keeps.trans {a b c : World} (h : Keeps a b) (k : Keeps b c) : Keeps a c := ⟨Nat.le_trans h.1 k.1, fun x v e => k.2 x v (h.2 x v e)⟩
theorem Keeps.of_below {w W : World} (h : Below w.heap.size w W) : Keeps w W := ⟨h.size, fun a v e => (h.cell (p := a) (lt_of_cell e)).trans e⟩
theorem Keeps.of_grown {w W : World} {b : Nat} {es : Array MapEntry} {c : Nat} (h : w.grownBy W (some b)) (hb : w.heap[b]? = some (.map es c)) : Keeps w W :=
  ⟨h.size, fun a v e => h.cell e (fun he => by cases he; simp [World.cell?, hb] at e)⟩

theorem StrsC.keep {w W : World} {a : Option Addr} {l : List ByteArray} (h : StrsC w a l) (hb : Keeps w W) : StrsC W a l := fun i hi => by
  obtain ⟨b, off, e, hlt, h1⟩ := h i hi
  exact ⟨b, off, e, Nat.lt_of_lt_of_le hlt hb.1, hb.2 _ _ h1⟩
theorem IntsC.keep {w W : World} {a : Option Addr} {l : List Int} (h : IntsC w a l) (hb : Keeps w W) : IntsC W a l := fun i hi => by
  obtain ⟨b, off, e, hlt, h1⟩ := h i hi
  exact ⟨b, off, e, Nat.lt_of_lt_of_le hlt hb.1, hb.2 _ _ h1⟩
theorem IntsV.keep {w W : World} {v : Value} {l : List Int} (h : IntsV w v l) (hb : Keeps w W) : IntsV W v l := by
  obtain ⟨a, c, e, h1, h3⟩ := h; exact ⟨a, c, e, h1, h3.keep hb⟩
theorem LeaksC.keep {w W : World} {a : Option Addr} {l : List SeLeak} (h : LeaksC w a l) (hb : Keeps w W) : LeaksC W a l := fun i hi => by
  obtain ⟨b, off, e, hlt, h1, h2, h3⟩ := h i hi
  exact ⟨b, off, e, Nat.lt_of_lt_of_le hlt hb.1, hb.2 _ _ h1, hb.2 _ _ h2, hb.2 _ _ h3⟩
theorem LettersC.keep {w W : World} {a : Option Addr} {l : List SeLetter} (h : LettersC w a l) (hb : Keeps w W) : LettersC W a l := fun i hi => by
  obtain ⟨b, off, e, hlt, h1, h2, h3⟩ := h i hi
  exact ⟨b, off, e, Nat.lt_of_lt_of_le hlt hb.1, hb.2 _ _ h1, hb.2 _ _ h2, hb.2 _ _ h3⟩
theorem HeardC.keep {w W : World} {a : Option Addr} {l : List SeHeard} (h : HeardC w a l) (hb : Keeps w W) : HeardC W a l := fun i hi => by
  obtain ⟨b, off, e, hlt, h1, h2, h3, h4⟩ := h i hi
  exact ⟨b, off, e, Nat.lt_of_lt_of_le hlt hb.1, hb.2 _ _ h1, hb.2 _ _ h2, hb.2 _ _ h3, hb.2 _ _ h4⟩

/-- A room of layer 12 in memory: five slices. -/
structure RoomC (w : World) (a1 a2 a3 a4 a5 : Option Addr) (k1 k2 k3 k4 k5 : Nat) (r : SeRoom) : Prop where
  ok1 : SlOk a1 r.writers.length k1
  ok2 : SlOk a2 r.kept.length k2
  ok3 : SlOk a3 r.leaks.length k3
  ok4 : SlOk a4 r.letters.length k4
  ok5 : SlOk a5 r.heard.length k5
  writers : StrsC w a1 r.writers
  kept : IntsC w a2 r.kept
  leaks : LeaksC w a3 r.leaks
  letters : LettersC w a4 r.letters
  heard : HeardC w a5 r.heard
  wsize : ∀ s ∈ r.writers, s.size ≤ 9223372036854775807
theorem RoomC.keep {w W : World} {a1 a2 a3 a4 a5 : Option Addr} {k1 k2 k3 k4 k5 : Nat} {r : SeRoom} (h : RoomC w a1 a2 a3 a4 a5 k1 k2 k3 k4 k5 r) (hb : Keeps w W) : RoomC W a1 a2 a3 a4 a5 k1 k2 k3 k4 k5 r :=
  ⟨h.ok1, h.ok2, h.ok3, h.ok4, h.ok5, h.writers.keep hb, h.kept.keep hb, h.leaks.keep hb, h.letters.keep hb, h.heard.keep hb, h.wsize⟩
theorem RoomC.mono {w W : World} {a1 a2 a3 a4 a5 : Option Addr} {k1 k2 k3 k4 k5 : Nat} {r : SeRoom} (h : RoomC w a1 a2 a3 a4 a5 k1 k2 k3 k4 k5 r) (hb : Below w.heap.size w W) : RoomC W a1 a2 a3 a4 a5 k1 k2 k3 k4 k5 r := h.keep (.of_below hb)

/-- The value of a room. -/
@[reducible] def roomV (a1 a2 a3 a4 a5 : Option Addr) (k1 k2 k3 k4 k5 : Nat) (r : SeRoom) : Value := (.agg #[.slice a1 r.writers.length k1, .slice a2 r.kept.length k2, .slice a3 r.leaks.length k3, .slice a4 r.letters.length k4, .slice a5 r.heard.length k5])
def RoomV (w : World) (v : Value) (r : SeRoom) : Prop := ∃ a1 a2 a3 a4 a5 k1 k2 k3 k4 k5, v = roomV a1 a2 a3 a4 a5 k1 k2 k3 k4 k5 r ∧ RoomC w a1 a2 a3 a4 a5 k1 k2 k3 k4 k5 r
end Go.Proofs.Ytmhbjohpggghgaa
