/- What is proved here: how a room that is looked at lies in memory, with the map in which it remembers what it has found; arrays of four days. No condition. -/
import Derived.Test.YtmhbjohpggghgaaSeRep
import Derived.Test.YtmhbjohpggghgaaSePlainB
import Derived.Test.YtmhbjohpggghgaaSeGround
import Derived.WideKeyArr
import Derived.Shelf.RegionOpen
import Derived.TacticsInMore
import Derived.OwnWalkIn
import Derived.LoopIn
import Derived.LoopNIn
import Derived.WalkMore
set_option linter.unusedVariables false
set_option linter.unusedSimpArgs false
namespace Go.Proofs.Ytmhbjohpggghgaa
open Go Go.RowKit

theorem alloc_at (w : World) (o : Obj) {n : Nat} (h : n = w.heap.size) : (w.alloc o).heap[n]? = some o := by subst h; exact heap_alloc_new w o
theorem drew_heap (Y : World) : Y.drew.heap = Y.heap := rfl
def BlkI (W : World) (b : Nat) (t : TypeId) (L : List Int) : Prop := W.heap[b]? = some (.cells ((L.map (Value.int .i64)).toArray) t (0, 0))
theorem BlkI.cell {W : World} {b : Nat} {t : TypeId} {L : List Int} (h : BlkI W b t L) (j : Nat) (hj : j < L.length) : W.cell? ⟨b, j, none⟩ = some (.int .i64 L[j]) :=
  blk_cell j h (by simp [hj])
theorem BlkI.free {W : World} {b : Nat} {t : TypeId} {L : List Int} (h : BlkI W b t L) (j : Nat) : W.frozen? ⟨b, j, none⟩ = false := blk_free j h
theorem BlkI.set {W : World} {b : Nat} {t : TypeId} {L : List Int} (h : BlkI W b t L) (j : Nat) (x : Int) : BlkI (W.setCell ⟨b, j, none⟩ (.int .i64 x)) b t (L.set j x) := by
  have := blk_set j (.int .i64 x) h
  unfold BlkI
  rw [this]
  simp
theorem BlkI.lt {W : World} {b : Nat} {t : TypeId} {L : List Int} (h : BlkI W b t L) : b < W.heap.size := lt_of_block h
theorem BlkI.same {W W' : World} {b : Nat} {t : TypeId} {L : List Int} (h : BlkI W b t L) (e : W'.heap[b]? = W.heap[b]?) : BlkI W' b t L := e.trans h

/-- Four days. -/
def dl (d : Nat → Int) : List Int := [d 0, d 1, d 2, d 3]
@[reducible] def arr4 (d : Nat → Int) : Value := .agg #[.int .i64 (d 0), .int .i64 (d 1), .int .i64 (d 2), .int .i64 (d 3)]
theorem dl_set (d : Nat → Int) (i : Nat) (x : Int) (h : i < 4) : (dl d).set i x = dl fun w => if w = i then x else d w := by
  obtain rfl | rfl | rfl | rfl : i = 0 ∨ i = 1 ∨ i = 2 ∨ i = 3 := by omega
  all_goals rfl
theorem dl_cell {W : World} {b : Nat} {t : TypeId} {d : Nat → Int} (h : BlkI W b t (dl d)) (i : Nat) (hi : i < 4) : W.cell? ⟨b, i, none⟩ = some (.int .i64 (d i)) := by
  have := h.cell i (by simpa [dl] using hi)
  rw [this]
  obtain rfl | rfl | rfl | rfl : i = 0 ∨ i = 1 ∨ i = 2 ∨ i = 3 := by omega
  all_goals rfl
theorem dl_four {W : World} {b : Nat} {t : TypeId} {d : Nat → Int} (h : BlkI W b t (dl d)) :
    W.cell? ⟨b, 0, none⟩ = some (.int .i64 (d 0)) ∧ W.cell? ⟨b, 1, none⟩ = some (.int .i64 (d 1)) ∧ W.cell? ⟨b, 2, none⟩ = some (.int .i64 (d 2)) ∧ W.cell? ⟨b, 3, none⟩ = some (.int .i64 (d 3)) ∧ b < W.heap.size :=
  ⟨dl_cell h 0 (by omega), dl_cell h 1 (by omega), dl_cell h 2 (by omega), dl_cell h 3 (by omega), h.lt⟩
theorem dl_free {W : World} {b : Nat} {t : TypeId} {d : Nat → Int} (h : BlkI W b t (dl d)) :
    W.frozen? ⟨b, 0, none⟩ = false ∧ W.frozen? ⟨b, 1, none⟩ = false ∧ W.frozen? ⟨b, 2, none⟩ = false ∧ W.frozen? ⟨b, 3, none⟩ = false := ⟨h.free 0, h.free 1, h.free 2, h.free 3⟩

/-- What is asked: a set of leaks, a secret. -/
@[reducible] def askV (set s : Nat) : Value := .agg #[.int .i64 (set : Int), .int .i64 (s : Int)]
theorem key_asked : Maps.Keyed Try.prog 113 := Maps.Keyed.of_law (deep_law (m := 2) (by omega) (by kernel_rfl) (by kernel_rfl) (by kernel_rfl))
theorem key_known : Try.prog.underlying 140 = some (.map 113 110) := by kernel_rfl
theorem zero_since (w : World) : (zeroValue 110).run Try.prog w = .ok (.agg #[.int .i64 0, .int .i64 0, .int .i64 0, .int .i64 0]) w := by kernel_rfl
theorem okI_nat (n : Nat) (h : n < 64) : (Lit.int .i64 (n : Int)).wf = true := by
  unfold Lit.wf
  have e1 : IntKind.min .i64 = -9223372036854775808 := by decide
  have e2 : IntKind.max .i64 = 9223372036854775807 := by decide
  simp only [e1, e2, Bool.and_eq_true, decide_eq_true_eq]
  omega
set_option maxRecDepth 100000 in
set_option maxHeartbeats 1000000 in
theorem key_ask (a b : Nat) (ha : a < 64) (hb : b < 64) : ∃ l, keyOf Try.prog 113 (askV a b) = some l := by
  have wa := okI_nat a ha
  have wb := okI_nat b hb
  have h1 : (match Try.prog.underlying 113 with | some (.struct fs) => (fs.toList.map fun f => (f.type, f.offset)) == [(3, 0), (3, 1)] && fs.all (fun f => f.name != "_") | _ => false) = true := by kernel_rfl
  have h2 : Try.prog.keyType 113 = true := by kernel_rfl
  have h3 : Value.formed Try.prog 113 (askV a b) = true := by kernel_rfl
  have h4 : Try.prog.underlying 3 = some (.int .i64) := by kernel_rfl
  have h5 : Try.prog.cellsOf 3 = 1 := by kernel_rfl
  have h6 : Try.prog.cellsOf 113 = 2 := by kernel_rfl
  obtain ⟨n, h7⟩ : ∃ n, Try.prog.types.size = n + 1 := ⟨Try.prog.types.size - 1, by kernel_rfl⟩
  cases hu : Try.prog.underlying 113 with
  | none => rw [hu] at h1; cases h1
  | some kd =>
    rw [hu] at h1
    cases kd with
    | struct fs =>
      simp only [Bool.and_eq_true, beq_iff_eq] at h1
      obtain ⟨g1, g2⟩ := h1
      have e1 : ∀ x : Nat, x < 64 → Try.prog.keyLits (n + 1) 3 [.int .i64 (x : Int)] = some [.int .i64 (x : Int)] := fun x hx => by
        unfold Program.keyLits
        simp only [h4, okI_nat x hx, and_self, if_true]
      unfold keyOf
      rw [hu]
      simp only [h2, h3, Bool.and_self, if_true, h7]
      unfold Program.keyLits
      rw [hu]
      have g3 : (askV a b).cells.toList = [.int .i64 (a : Int), .int .i64 (b : Int)] := rfl
      rw [g3]
      obtain ⟨L⟩ := fs
      simp only at g1 g2 ⊢
      match L, g1 with
      | [f0, f1], g1 =>
        simp only [List.map_cons, List.map_nil, List.cons.injEq, Prod.mk.injEq, and_true] at g1
        obtain ⟨⟨t0, o0⟩, t1, o1⟩ := g1
        simp only [h6, List.length_cons, List.length_nil, Nat.zero_add, Nat.reduceAdd, g2, and_self, if_true, List.mapM_cons, List.mapM_nil, t0, o0, t1, o1, h5, List.drop_zero, List.drop_succ_cons, List.take_succ_cons, List.take_zero, e1 a ha, e1 b hb]
        exact ⟨_, rfl⟩
    | _ => simp at h1
end Go.Proofs.Ytmhbjohpggghgaa
