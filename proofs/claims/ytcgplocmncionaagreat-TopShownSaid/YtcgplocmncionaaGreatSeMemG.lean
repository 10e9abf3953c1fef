/- What is proved here: a turn of memory that leaves all cells: lists of strings, of ints stay. No condition. -/
/- What is proved here: how a room of layer 12 lies in memory, and that it stays while memory grows, or turns in a block that holds no cells. No condition. -/
/- What is proved here: how a room that is looked at lies in memory, with the map in which it remembers what it has found; arrays of four days. No condition. -/
/- What is proved here: how a room that is looked at lies in memory and stays: while memory grows, while its map learns. No condition. -/
/- What is proved here: the contract of nobody, and of a round of leaks. No condition but that the room is valid. -/
import Derived.Test.YtcgplocmncionaaGreatSeGround
import Derived.RangeFuncOwn
import Derived.Test.YtcgplocmncionaaGreatSePlain
import Derived.Test.YtcgplocmncionaaGreatSePlainB
import Derived.WideKeyArr
import Derived.Shelf.RegionOpen
import Derived.TacticsInMore
import Derived.OwnWalkIn
import Derived.LoopIn
import Derived.LoopNIn
import Derived.WalkMore
set_option linter.unusedVariables false
set_option linter.unusedSimpArgs false
namespace Go.Proofs.YtcgplocmncionaaGreat
open Go Go.RowKit
/-- A turn of memory that leaves all cells: it grows, or a block turns that holds none (a map). -/
def Keeps (w W : World) : Prop := w.heap.size ≤ W.heap.size ∧ ∀ a v, w.cell? a = some v → W.cell? a = some v
theorem Keeps.refl (w : World) : Keeps w w := ⟨Nat.le_refl _, fun _ _ h => h⟩
theorem Keeps.trans {a b c : World} (h : Keeps a b) (k : Keeps b c) : Keeps a c := ⟨Nat.le_trans h.1 k.1, fun x v e => k.2 x v (h.2 x v e)⟩
theorem Keeps.of_below {w W : World} (h : Below w.heap.size w W) : Keeps w W := ⟨h.size, fun a v e => (h.cell (p := a) (lt_of_cell e)).trans e⟩
theorem Keeps.of_grown {w W : World} {b : Nat} {es : Array MapEntry} {c : Nat} (h : w.grownBy W (some b)) (hb : w.heap[b]? = some (.map es c)) : Keeps w W :=
  ⟨h.size, fun a v e => h.cell e (fun he => by cases he; simp [World.cell?, hb] at e)⟩

theorem StrsC.keep {w W : World} {a : Option Addr} {l : List ByteArray} (h : StrsC w a l) (hb : Keeps w W) : StrsC W a l := fun i hi => by
  obtain ⟨b, off, e, hlt, h1⟩ := h i hi
  exact ⟨b, off, e, Nat.lt_of_lt_of_le hlt hb.1, hb.2 _ _ h1⟩
theorem IntsC.keep {w W : World} {a : Option Addr} {l : List Int} (h : IntsC w a l) (hb : Keeps w W) : IntsC W a l := fun i hi => by
  obtain ⟨b, off, e, hlt, h1⟩ := h i hi
  exact ⟨b, off, e, Nat.lt_of_lt_of_le hlt hb.1, hb.2 _ _ h1⟩
theorem IntsV.keep {w W : World} {v : Value} {l : List Int} (h : IntsV w v l) (hb : Keeps w W) : IntsV W v l := by
  obtain ⟨a, c, e, h1, h3⟩ := h; exact ⟨a, c, e, h1, h3.keep hb⟩
end Go.Proofs.YtcgplocmncionaaGreat
namespace Go.Proofs.YtcgplocmncionaaGreat
open Go Go.RowKit

def LeaksC (w : World) (a : Option Addr) (l : List SeLeak) : Prop :=
  ∀ i (_ : i < l.length), ∃ b off, a = some ⟨b, off, none⟩ ∧ b < w.heap.size ∧ w.cell? ⟨b, off + i * 3, none⟩ = some (.int .i64 l[i].src) ∧ w.cell? ⟨b, off + i * 3 + 1, none⟩ = some (.int .i64 l[i].dst) ∧
    w.cell? ⟨b, off + i * 3 + 2, none⟩ = some (.bool l[i].sure)
def LettersC (w : World) (a : Option Addr) (l : List SeLetter) : Prop :=
  ∀ i (_ : i < l.length), ∃ b off, a = some ⟨b, off, none⟩ ∧ b < w.heap.size ∧ w.cell? ⟨b, off + i * 3, none⟩ = some (.int .i64 l[i].day) ∧ w.cell? ⟨b, off + i * 3 + 1, none⟩ = some (.int .i64 l[i].secrets) ∧
    w.cell? ⟨b, off + i * 3 + 2, none⟩ = some (.int .i64 l[i].writer)
def HeardC (w : World) (a : Option Addr) (l : List SeHeard) : Prop :=
  ∀ i (_ : i < l.length), ∃ b off, a = some ⟨b, off, none⟩ ∧ b < w.heap.size ∧ w.cell? ⟨b, off + i * 4, none⟩ = some (.int .i64 l[i].writer) ∧ w.cell? ⟨b, off + i * 4 + 1, none⟩ = some (.int .i64 l[i].secret) ∧
    w.cell? ⟨b, off + i * 4 + 2, none⟩ = some (.int .i64 l[i].day) ∧ w.cell? ⟨b, off + i * 4 + 3, none⟩ = some (.bool l[i].knew)

theorem LeaksC.keep {w W : World} {a : Option Addr} {l : List SeLeak} (h : LeaksC w a l) (hb : Keeps w W) : LeaksC W a l := fun i hi => by
  obtain ⟨b, off, e, hlt, h1, h2, h3⟩ := h i hi
  exact ⟨b, off, e, Nat.lt_of_lt_of_le hlt hb.1, hb.2 _ _ h1, hb.2 _ _ h2, hb.2 _ _ h3⟩
theorem LettersC.keep {w W : World} {a : Option Addr} {l : List SeLetter} (h : LettersC w a l) (hb : Keeps w W) : LettersC W a l := fun i hi => by
  obtain ⟨b, off, e, hlt, h1, h2, h3⟩ := h i hi
  exact ⟨b, off, e, Nat.lt_of_lt_of_le hlt hb.1, hb.2 _ _ h1, hb.2 _ _ h2, hb.2 _ _ h3⟩
theorem HeardC.keep {w W : World} {a : Option Addr} {l : List SeHeard} (h : HeardC w a l) (hb : Keeps w W) : HeardC W a l := fun i hi => by
  obtain ⟨b, off, e, hlt, h1, h2, h3, h4⟩ := h i hi
  exact ⟨b, off, e, Nat.lt_of_lt_of_le hlt hb.1, hb.2 _ _ h1, hb.2 _ _ h2, hb.2 _ _ h3, hb.2 _ _ h4⟩

/-- A room of layer 12 in memory: five slices. -/
structure RoomC (w : World) (a1 a2 a3 a4 a5 : Option Addr) (k1 k2 k3 k4 k5 : Nat) (r : SeRoom) : Prop where
  ok1 : SlOk a1 r.writers.length k1
  ok2 : SlOk a2 r.kept.length k2
  ok3 : SlOk a3 r.leaks.length k3
  ok4 : SlOk a4 r.letters.length k4
  ok5 : SlOk a5 r.heard.length k5
  writers : StrsC w a1 r.writers
  kept : IntsC w a2 r.kept
  leaks : LeaksC w a3 r.leaks
  letters : LettersC w a4 r.letters
  heard : HeardC w a5 r.heard
  wsize : ∀ s ∈ r.writers, s.size ≤ 9223372036854775807
theorem RoomC.keep {w W : World} {a1 a2 a3 a4 a5 : Option Addr} {k1 k2 k3 k4 k5 : Nat} {r : SeRoom} (h : RoomC w a1 a2 a3 a4 a5 k1 k2 k3 k4 k5 r) (hb : Keeps w W) : RoomC W a1 a2 a3 a4 a5 k1 k2 k3 k4 k5 r :=
  ⟨h.ok1, h.ok2, h.ok3, h.ok4, h.ok5, h.writers.keep hb, h.kept.keep hb, h.leaks.keep hb, h.letters.keep hb, h.heard.keep hb, h.wsize⟩
theorem RoomC.mono {w W : World} {a1 a2 a3 a4 a5 : Option Addr} {k1 k2 k3 k4 k5 : Nat} {r : SeRoom} (h : RoomC w a1 a2 a3 a4 a5 k1 k2 k3 k4 k5 r) (hb : Below w.heap.size w W) : RoomC W a1 a2 a3 a4 a5 k1 k2 k3 k4 k5 r := h.keep (.of_below hb)

/-- The value of a room. -/
@[reducible] def roomV (a1 a2 a3 a4 a5 : Option Addr) (k1 k2 k3 k4 k5 : Nat) (r : SeRoom) : Value := (.agg #[.slice a1 r.writers.length k1, .slice a2 r.kept.length k2, .slice a3 r.leaks.length k3, .slice a4 r.letters.length k4, .slice a5 r.heard.length k5])
end Go.Proofs.YtcgplocmncionaaGreat
namespace Go.Proofs.YtcgplocmncionaaGreat
open Go Go.RowKit

theorem alloc_at (w : World) (o : Obj) {n : Nat} (h : n = w.heap.size) : (w.alloc o).heap[n]? = some o := by subst h; exact heap_alloc_new w o
theorem drew_heap (Y : World) : Y.drew.heap = Y.heap := rfl
def BlkI (W : World) (b : Nat) (t : TypeId) (L : List Int) : Prop := W.heap[b]? = some (.cells ((L.map (Value.int .i64)).toArray) t (0, 0))
theorem BlkI.cell {W : World} {b : Nat} {t : TypeId} {L : List Int} (h : BlkI W b t L) (j : Nat) (hj : j < L.length) : W.cell? ⟨b, j, none⟩ = some (.int .i64 L[j]) :=
  blk_cell j h (by simp [hj])
theorem BlkI.free {W : World} {b : Nat} {t : TypeId} {L : List Int} (h : BlkI W b t L) (j : Nat) : W.frozen? ⟨b, j, none⟩ = false := blk_free j h
theorem BlkI.set {W : World} {b : Nat} {t : TypeId} {L : List Int} (h : BlkI W b t L) (j : Nat) (x : Int) : BlkI (W.setCell ⟨b, j, none⟩ (.int .i64 x)) b t (L.set j x) := by
  have := blk_set j (.int .i64 x) h
  unfold BlkI
  rw [this]
  simp
theorem BlkI.lt {W : World} {b : Nat} {t : TypeId} {L : List Int} (h : BlkI W b t L) : b < W.heap.size := lt_of_block h
theorem BlkI.same {W W' : World} {b : Nat} {t : TypeId} {L : List Int} (h : BlkI W b t L) (e : W'.heap[b]? = W.heap[b]?) : BlkI W' b t L := e.trans h

/-- Four days. -/
def dl (d : Nat → Int) : List Int := [d 0, d 1, d 2, d 3]
@[reducible] def arr4 (d : Nat → Int) : Value := .agg #[.int .i64 (d 0), .int .i64 (d 1), .int .i64 (d 2), .int .i64 (d 3)]
theorem dl_set (d : Nat → Int) (i : Nat) (x : Int) (h : i < 4) : (dl d).set i x = dl fun w => if w = i then x else d w := by
  obtain rfl | rfl | rfl | rfl : i = 0 ∨ i = 1 ∨ i = 2 ∨ i = 3 := by omega
  all_goals rfl
theorem dl_cell {W : World} {b : Nat} {t : TypeId} {d : Nat → Int} (h : BlkI W b t (dl d)) (i : Nat) (hi : i < 4) : W.cell? ⟨b, i, none⟩ = some (.int .i64 (d i)) := by
  have := h.cell i (by simpa [dl] using hi)
  rw [this]
  obtain rfl | rfl | rfl | rfl : i = 0 ∨ i = 1 ∨ i = 2 ∨ i = 3 := by omega
  all_goals rfl
theorem dl_four {W : World} {b : Nat} {t : TypeId} {d : Nat → Int} (h : BlkI W b t (dl d)) :
    W.cell? ⟨b, 0, none⟩ = some (.int .i64 (d 0)) ∧ W.cell? ⟨b, 1, none⟩ = some (.int .i64 (d 1)) ∧ W.cell? ⟨b, 2, none⟩ = some (.int .i64 (d 2)) ∧ W.cell? ⟨b, 3, none⟩ = some (.int .i64 (d 3)) ∧ b < W.heap.size :=
  ⟨dl_cell h 0 (by omega), dl_cell h 1 (by omega), dl_cell h 2 (by omega), dl_cell h 3 (by omega), h.lt⟩
theorem dl_free {W : World} {b : Nat} {t : TypeId} {d : Nat → Int} (h : BlkI W b t (dl d)) :
    W.frozen? ⟨b, 0, none⟩ = false ∧ W.frozen? ⟨b, 1, none⟩ = false ∧ W.frozen? ⟨b, 2, none⟩ = false ∧ W.frozen? ⟨b, 3, none⟩ = false := ⟨h.free 0, h.free 1, h.free 2, h.free 3⟩

/-- What is asked: a set of leaks, a secret. -/
@[reducible] def askV (set s : Nat) : Value := .agg #[.int .i64 (set : Int), .int .i64 (s : Int)]
theorem key_asked : Maps.Keyed Tryz.prog 70 := Maps.Keyed.of_law (deep_law (m := 2) (by omega) (by kernel_rfl) (by kernel_rfl) (by kernel_rfl))
theorem key_known : Tryz.prog.underlying 113 = some (.map 70 67) := by kernel_rfl
theorem zero_since (w : World) : (zeroValue 67).run Tryz.prog w = .ok (.agg #[.int .i64 0, .int .i64 0, .int .i64 0, .int .i64 0]) w := by kernel_rfl
theorem okI_nat (n : Nat) (h : n < 64) : (Lit.int .i64 (n : Int)).wf = true := by
  unfold Lit.wf
  have e1 : IntKind.min .i64 = -9223372036854775808 := by decide
  have e2 : IntKind.max .i64 = 9223372036854775807 := by decide
  simp only [e1, e2, Bool.and_eq_true, decide_eq_true_eq]
  omega
set_option maxRecDepth 100000 in
set_option maxHeartbeats 1000000 in
theorem key_ask (a b : Nat) (ha : a < 64) (hb : b < 64) : ∃ l, keyOf Tryz.prog 70 (askV a b) = some l := by
  have wa := okI_nat a ha
  have wb := okI_nat b hb
  have h1 : (match Tryz.prog.underlying 70 with | some (.struct fs) => (fs.toList.map fun f => (f.type, f.offset)) == [(3, 0), (3, 1)] && fs.all (fun f => f.name != "_") | _ => false) = true := by kernel_rfl
  have h2 : Tryz.prog.keyType 70 = true := by kernel_rfl
  have h3 : Value.formed Tryz.prog 70 (askV a b) = true := by kernel_rfl
  have h4 : Tryz.prog.underlying 3 = some (.int .i64) := by kernel_rfl
  have h5 : Tryz.prog.cellsOf 3 = 1 := by kernel_rfl
  have h6 : Tryz.prog.cellsOf 70 = 2 := by kernel_rfl
  obtain ⟨n, h7⟩ : ∃ n, Tryz.prog.types.size = n + 1 := ⟨Tryz.prog.types.size - 1, by kernel_rfl⟩
  cases hu : Tryz.prog.underlying 70 with
  | none => rw [hu] at h1; cases h1
  | some kd =>
    rw [hu] at h1
    cases kd with
    | struct fs =>
      simp only [Bool.and_eq_true, beq_iff_eq] at h1
      obtain ⟨g1, g2⟩ := h1
      have e1 : ∀ x : Nat, x < 64 → Tryz.prog.keyLits (n + 1) 3 [.int .i64 (x : Int)] = some [.int .i64 (x : Int)] := fun x hx => by
        unfold Program.keyLits
        simp only [h4, okI_nat x hx, and_self, if_true]
      unfold keyOf
      rw [hu]
      simp only [h2, h3, Bool.and_self, if_true, h7]
      unfold Program.keyLits
      rw [hu]
      have g3 : (askV a b).cells.toList = [.int .i64 (a : Int), .int .i64 (b : Int)] := rfl
      rw [g3]
      obtain ⟨L⟩ := fs
      simp only at g1 g2 ⊢
      match L, g1 with
      | [f0, f1], g1 =>
        simp only [List.map_cons, List.map_nil, List.cons.injEq, Prod.mk.injEq, and_true] at g1
        obtain ⟨⟨t0, o0⟩, t1, o1⟩ := g1
        simp only [h6, List.length_cons, List.length_nil, Nat.zero_add, Nat.reduceAdd, g2, and_self, if_true, List.mapM_cons, List.mapM_nil, t0, o0, t1, o1, h5, List.drop_zero, List.drop_succ_cons, List.take_succ_cons, List.take_zero, e1 a ha, e1 b hb]
        exact ⟨_, rfl⟩
    | _ => simp at h1
end Go.Proofs.YtcgplocmncionaaGreat
namespace Go.Proofs.YtcgplocmncionaaGreat
open Go Go.RowKit

/-- The block of a room that is looked at. -/
def RBlk (W : World) (bm bo : Nat) (a1 a2 a3 a4 a5 : Option Addr) (k1 k2 k3 k4 k5 : Nat) (r : SeRoom) (sure but : Nat) : Prop :=
  W.heap[bm]? = some (.cells #[.slice a1 r.writers.length k1, .slice a2 r.kept.length k2, .slice a3 r.leaks.length k3, .slice a4 r.letters.length k4, .slice a5 r.heard.length k5, .int .i64 (sure : Int), .int .i64 (but : Int), .map (some bo)] 115 (0, 0))
theorem RBlk.cells {W : World} {bm bo : Nat} {a1 a2 a3 a4 a5 : Option Addr} {k1 k2 k3 k4 k5 : Nat} {r : SeRoom} {sure but : Nat} (h : RBlk W bm bo a1 a2 a3 a4 a5 k1 k2 k3 k4 k5 r sure but) :
    W.cell? ⟨bm, 0, none⟩ = some (.slice a1 r.writers.length k1) ∧ W.cell? ⟨bm, 1, none⟩ = some (.slice a2 r.kept.length k2) ∧ W.cell? ⟨bm, 2, none⟩ = some (.slice a3 r.leaks.length k3) ∧ W.cell? ⟨bm, 3, none⟩ = some (.slice a4 r.letters.length k4) ∧ W.cell? ⟨bm, 4, none⟩ = some (.slice a5 r.heard.length k5) ∧
    W.cell? ⟨bm, 5, none⟩ = some (.int .i64 (sure : Int)) ∧ W.cell? ⟨bm, 6, none⟩ = some (.int .i64 (but : Int)) ∧ W.cell? ⟨bm, 7, none⟩ = some (.map (some bo)) ∧ bm < W.heap.size :=
  ⟨blk_cell 0 h rfl, blk_cell 1 h rfl, blk_cell 2 h rfl, blk_cell 3 h rfl, blk_cell 4 h rfl, blk_cell 5 h rfl, blk_cell 6 h rfl, blk_cell 7 h rfl, lt_of_block h⟩
theorem RBlk.same {W W' : World} {bm bo : Nat} {a1 a2 a3 a4 a5 : Option Addr} {k1 k2 k3 k4 k5 : Nat} {r : SeRoom} {sure but : Nat} (h : RBlk W bm bo a1 a2 a3 a4 a5 k1 k2 k3 k4 k5 r sure but) (e : W'.heap[bm]? = W.heap[bm]?) : RBlk W' bm bo a1 a2 a3 a4 a5 k1 k2 k3 k4 k5 r sure but := e.trans h
theorem RBlk.free {W : World} {bm bo : Nat} {a1 a2 a3 a4 a5 : Option Addr} {k1 k2 k3 k4 k5 : Nat} {r : SeRoom} {sure but : Nat} (h : RBlk W bm bo a1 a2 a3 a4 a5 k1 k2 k3 k4 k5 r sure but) (j : Nat) : W.frozen? ⟨bm, j, none⟩ = false := blk_free j h

/-- What a room remembers: days of some sets of leaks and secrets, each once. -/
def MemoOk (r : SeRoom) (T : List (Value × Value)) : Prop := ∃ E : List (Nat × Nat), T = E.map (fun p => (askV p.1 p.2, arr4 (sinceP r p.1 p.2))) ∧ E.Nodup ∧ ∀ p ∈ E, p.1 < 16 ∧ p.2 < 4
theorem nodup_lt : ∀ (n : Nat) (l : List Nat), l.Nodup → (∀ x ∈ l, x < n) → l.length ≤ n
  | 0, l, _, h => by
    cases l with
    | nil => simp
    | cons a l => exact absurd (h a (by simp)) (by omega)
  | n + 1, l, hn, h => by
    have h1 := nodup_lt n (l.filter fun x => decide (x < n)) (List.filter_sublist.nodup hn) (fun x hx => by have := (List.mem_filter.1 hx).2; simpa using this)
    have h2 : (l.filter fun x => !decide (x < n)).length ≤ 1 := by
      have hs : ∀ x ∈ l.filter (fun x => !decide (x < n)), x = n := fun x hx => by
        have h3 := (List.mem_filter.1 hx).2
        have h4 := h x (List.mem_filter.1 hx).1
        simp at h3; omega
      have hd : (l.filter fun x => !decide (x < n)).Nodup := List.filter_sublist.nodup hn
      generalize l.filter (fun x => !decide (x < n)) = m at hs hd
      match m with
      | [] => simp
      | [a] => simp
      | a :: b :: m =>
        have ea := hs a (by simp)
        have eb := hs b (by simp)
        subst ea
        rw [List.nodup_cons] at hd
        exact absurd (by rw [eb]; simp) hd.1
    have h3 := List.length_eq_countP_add_countP (fun x => decide (x < n)) (l := l)
    rw [List.countP_eq_length_filter, List.countP_eq_length_filter] at h3
    have h4 : (l.filter fun x => !decide (x < n)) = l.filter (fun a => decide (¬(decide (a < n)) = true)) := List.filter_congr (fun x _ => by by_cases hx : x < n <;> simp [hx])
    rw [← h4] at h3
    omega
theorem MemoOk.len {r : SeRoom} {T : List (Value × Value)} (h : MemoOk r T) : T.length ≤ 64 := by
  obtain ⟨E, rfl, hn, hb⟩ := h
  have h1 := nodup_lt 64 (E.map fun p => p.1 * 4 + p.2) (by
    rw [List.Nodup, List.pairwise_map]
    refine List.Pairwise.imp_of_mem (fun {a b} ha hb' hne e => hne ?_) hn
    have := hb a ha
    have := hb b hb'
    exact Prod.ext (by omega) (by omega)) (fun x hx => by
      obtain ⟨p, hp, rfl⟩ := List.mem_map.1 hx
      have := hb p hp
      omega)
  simpa using h1
theorem memo_nil (r : SeRoom) : MemoOk r [] := ⟨[], rfl, List.nodup_nil, fun p h => by cases h⟩
theorem askV_inj {a b c d : Nat} (h : askV a b = askV c d) : a = c ∧ b = d := by
  simp only [askV, Value.agg.injEq, Array.mk.injEq, List.cons.injEq, Value.int.injEq, true_and, and_true] at h
  omega
theorem MemoOk.more {r : SeRoom} {T : List (Value × Value)} (h : MemoOk r T) (set s : Nat) (h1 : set < 16) (h2 : s < 4) (hnew : ∀ p ∈ T, p.1 ≠ askV set s) : MemoOk r (T ++ [(askV set s, arr4 (sinceP r set s))]) := by
  obtain ⟨E, rfl, hn, hb⟩ := h
  refine ⟨E ++ [(set, s)], by simp, ?_, fun p hp => ?_⟩
  · rw [List.nodup_append]
    refine ⟨hn, by simp, fun a ha b hb' => ?_⟩
    have : b = (set, s) := by simpa using hb'
    subst this
    intro e
    subst e
    exact hnew _ (List.mem_map.2 ⟨_, ha, rfl⟩) rfl
  · rcases List.mem_append.1 hp with hp | hp
    · exact hb p hp
    · have : p = (set, s) := by simpa using hp
      subst this
      exact ⟨h1, h2⟩
theorem MemoOk.get {r : SeRoom} {T : List (Value × Value)} (h : MemoOk r T) {set s : Nat} {v : Value} (hv : (askV set s, v) ∈ T) : v = arr4 (sinceP r set s) := by
  obtain ⟨E, rfl, hn, hb⟩ := h
  obtain ⟨p, hp, e⟩ := List.mem_map.1 hv
  have e1 := askV_inj (congrArg Prod.fst e)
  have e2 : arr4 (sinceP r p.1 p.2) = v := congrArg Prod.snd e
  rw [← e2, e1.1, e1.2]

/-- A room that is looked at. -/
structure RoomW (W : World) (bm bo : Nat) (a1 a2 a3 a4 a5 : Option Addr) (k1 k2 k3 k4 k5 : Nat) (r : SeRoom) (but : Nat) : Prop where
  room : RoomC W a1 a2 a3 a4 a5 k1 k2 k3 k4 k5 r
  blk : RBlk W bm bo a1 a2 a3 a4 a5 k1 k2 k3 k4 k5 r (sureTo r r.leaks.length) but
  map : ∃ T, MapV W Tryz.prog 70 bo T ∧ MemoOk r T
theorem RoomW.bo_lt {W : World} {bm bo : Nat} {a1 a2 a3 a4 a5 : Option Addr} {k1 k2 k3 k4 k5 : Nat} {r : SeRoom} {but : Nat} (h : RoomW W bm bo a1 a2 a3 a4 a5 k1 k2 k3 k4 k5 r but) : bo < W.heap.size := by
  obtain ⟨T, hT, _⟩ := h.map
  exact hT.lt
theorem RoomW.bm_lt {W : World} {bm bo : Nat} {a1 a2 a3 a4 a5 : Option Addr} {k1 k2 k3 k4 k5 : Nat} {r : SeRoom} {but : Nat} (h : RoomW W bm bo a1 a2 a3 a4 a5 k1 k2 k3 k4 k5 r but) : bm < W.heap.size := lt_of_block h.blk
theorem RoomW.ne {W : World} {bm bo : Nat} {a1 a2 a3 a4 a5 : Option Addr} {k1 k2 k3 k4 k5 : Nat} {r : SeRoom} {but : Nat} (h : RoomW W bm bo a1 a2 a3 a4 a5 k1 k2 k3 k4 k5 r but) : bm ≠ bo := by
  obtain ⟨T, ⟨es, c, hb, _⟩, _⟩ := h.map
  intro e
  have := h.blk
  unfold RBlk at this
  rw [e, hb] at this
  cases this
/-- A block of cells is not the map. -/
theorem RoomW.other {W : World} {bm bo : Nat} {a1 a2 a3 a4 a5 : Option Addr} {k1 k2 k3 k4 k5 : Nat} {r : SeRoom} {but : Nat} (h : RoomW W bm bo a1 a2 a3 a4 a5 k1 k2 k3 k4 k5 r but) {b : Nat} {cs : Array Value} {t : TypeId} {x : Nat × Nat} (hb : W.heap[b]? = some (.cells cs t x)) : b ≠ bo := by
  obtain ⟨T, ⟨es, c, hm, _⟩, _⟩ := h.map
  intro e
  rw [e, hm] at hb
  cases hb
theorem RoomW.cellne {W : World} {bm bo : Nat} {a1 a2 a3 a4 a5 : Option Addr} {k1 k2 k3 k4 k5 : Nat} {r : SeRoom} {but : Nat} (h : RoomW W bm bo a1 a2 a3 a4 a5 k1 k2 k3 k4 k5 r but) {b o : Nat} {v : Value} (hb : W.cell? ⟨b, o, none⟩ = some v) : b ≠ bo := by
  obtain ⟨T, ⟨es, c, hm, _⟩, _⟩ := h.map
  intro e
  simp [World.cell?, e, hm] at hb
theorem RoomW.below {W W' : World} {bm bo : Nat} {a1 a2 a3 a4 a5 : Option Addr} {k1 k2 k3 k4 k5 : Nat} {r : SeRoom} {but : Nat} (h : RoomW W bm bo a1 a2 a3 a4 a5 k1 k2 k3 k4 k5 r but) (hb : Below W.heap.size W W') : RoomW W' bm bo a1 a2 a3 a4 a5 k1 k2 k3 k4 k5 r but := by
  obtain ⟨T, hT, hM⟩ := h.map
  exact ⟨h.room.mono hb, h.blk.same (hb.block _ h.bm_lt), T, hT.below hb hT.lt, hM⟩
/-- Memory grows, the map may turn: what cells hold stays. -/
theorem RoomW.keeps {W W' : World} {bm bo : Nat} {a1 a2 a3 a4 a5 : Option Addr} {k1 k2 k3 k4 k5 : Nat} {r : SeRoom} {but : Nat} (h : RoomW W bm bo a1 a2 a3 a4 a5 k1 k2 k3 k4 k5 r but) (hg : W.grownBy W' (some bo)) : Keeps W W' := by
  obtain ⟨T, ⟨es, c, hm, _⟩, _⟩ := h.map
  exact .of_grown hg hm
theorem RoomW.learn {W W' : World} {bm bo : Nat} {a1 a2 a3 a4 a5 : Option Addr} {k1 k2 k3 k4 k5 : Nat} {r : SeRoom} {but : Nat} (h : RoomW W bm bo a1 a2 a3 a4 a5 k1 k2 k3 k4 k5 r but) (hg : W.grownBy W' (some bo)) {T : List (Value × Value)} (hT : MapV W' Tryz.prog 70 bo T) (hM : MemoOk r T) : RoomW W' bm bo a1 a2 a3 a4 a5 k1 k2 k3 k4 k5 r but :=
  ⟨h.room.keep (h.keeps hg), h.blk.same (hg.block _ h.bm_lt (fun e => h.ne (Option.some.inj e))), T, hT, hM⟩
theorem grown_set {w V : World} {row : Option Nat} (h : w.grownBy V row) (b j : Nat) (v : Value) (hb : w.heap.size ≤ b) : w.grownBy (V.setCell ⟨b, j, none⟩ v) row :=
  ⟨h.os, h.tape, h.output, by simpa using h.size, fun i hi hr => (Below.heap_setCell _ _ _ _ (fun e => by simp only at e; omega)).trans (h.block i hi hr)⟩
theorem map_set {V : World} {P : Program} {k : TypeId} {bo : Nat} {T : List (Value × Value)} (h : MapV V P k bo T) (b j : Nat) (v : Value) (hb : bo ≠ b) : MapV (V.setCell ⟨b, j, none⟩ v) P k bo T := h.same (Below.heap_setCell _ _ _ _ hb)
theorem grown_below {W W' : World} {row : Option Nat} (h : Below W.heap.size W W') : W.grownBy W' row := ⟨h.os, h.tape, h.output, h.size, fun i hi _ => h.block i hi⟩
theorem grown_trans {A B C : World} {bo : Nat} (h : A.grownBy B (some bo)) (k : B.grownBy C (some bo)) : A.grownBy C (some bo) := h.andThen k (fun j e => .inr (by simpa using e))
end Go.Proofs.YtcgplocmncionaaGreat
namespace Go.Proofs.YtcgplocmncionaaGreat
open Go Go.RowKit

theorem nob_step (k : Nat) (hk : k < 4) : (dl fun j => if j < k then 10 else 0).set k 10 = dl fun j => if j < k + 1 then 10 else 0 := by
  obtain rfl | rfl | rfl | rfl : k = 0 ∨ k = 1 ∨ k = 2 ∨ k = 3 := by omega
  all_goals rfl
set_option maxHeartbeats 1000000 in
theorem SNobody_any (w : World) : Calls Tryz.prog 56 #[] w fun e w' => e = .returned (arr4 noDay) ∧ Below w.heap.size w w' := by
  go_enter Tryz.func56, Tryz.ntmps56
  go_wp2
  go_loopw [2] (fun i wr => ∃ k : Nat, k ≤ 4 ∧ i = .int .i64 k ∧ BlkI wr w.heap.size 67 (dl fun j => if j < k then 10 else 0) ∧ Below w.heap.size w wr) (fun i _ => 4 - (intOf i).toNat)
  case atStart => exact ⟨0, Nat.zero_le _, rfl, alloc_at _ _ rfl, (Below.refl _ _).alloc (Nat.le_refl _) _⟩
  case round =>
    obtain ⟨k, hk, rfl, hL, hbr⟩ := hrel
    by_cases hlt : k < 4
    · have hk4 : (k : Int) < 4 := by omega
      have z0 := hL.lt
      have c0 := dl_cell hL k hlt
      have f0 := hL.free k
      have hS := Lib.hid (hL.set k 10)
      rw [nob_step k hlt] at hS
      go_wp2
      go_roundw
      case rel => exact ⟨k + 1, by omega, by go_num, hS.out, hbr.setCell (Nat.le_refl _) _⟩
      case measure => simp [intOf]; omega
    · obtain rfl : k = 4 := by omega
      obtain ⟨e0, e1, e2, e3, z⟩ := dl_four hL
      obtain ⟨f0, f1, f2, f3⟩ := dl_free hL
      simp only [Nat.lt_add_one, Nat.reduceLT, if_true] at e0 e1 e2 e3
      go_wp2
      (try simp only [Exit.inBlock, Exit.then])
      refine bodyPost_ret (v := .agg #[.int .i64 10, .int .i64 10, .int .i64 10, .int .i64 10]) ?_ rfl ⟨rfl, ?_⟩
      · rw [results_one rfl]
        go_simp
      · exact (((hbr.setCell (Nat.le_refl _) _).setCell (Nat.le_refl _) _).setCell (Nat.le_refl _) _).setCell (Nat.le_refl _) _
end Go.Proofs.YtcgplocmncionaaGreat
