/- What is proved here: how a hall that is looked at lies in memory and stays: while memory grows, while its map learns. No condition. -/
import Derived.Test.YtchnpekgmkhacaaDeStand
import Derived.Shelf.RegionOpen
import Derived.TacticsInMore
import Derived.OwnWalkIn
import Derived.LoopIn
import Derived.LoopNIn
import Derived.WalkMore
import Derived.Deep.DeepCutAuto
set_option linter.unusedVariables false
set_option linter.unusedSimpArgs false
namespace Go.Proofs.Ytchnpekgmkhacaa
open Go Go.RowKit

theorem alloc_at (w : World) (o : Obj) {n : Nat} (h : n = w.heap.size) : (w.alloc o).heap[n]? = some o := by subst h; exact heap_alloc_new w o
theorem drew_heap (Y : World) : Y.drew.heap = Y.heap := rfl
def BlkI (W : World) (b : Nat) (t : TypeId) (L : List Int) : Prop := W.heap[b]? = some (.cells ((L.map (Value.int .i64)).toArray) t (0, 0))
theorem BlkI.cell {W : World} {b : Nat} {t : TypeId} {L : List Int} (h : BlkI W b t L) (j : Nat) (hj : j < L.length) : W.cell? ⟨b, j, none⟩ = some (.int .i64 L[j]) :=
  blk_cell j h (by simp [hj])
theorem BlkI.free {W : World} {b : Nat} {t : TypeId} {L : List Int} (h : BlkI W b t L) (j : Nat) : W.frozen? ⟨b, j, none⟩ = false := blk_free j h
theorem BlkI.set {W : World} {b : Nat} {t : TypeId} {L : List Int} (h : BlkI W b t L) (j : Nat) (x : Int) : BlkI (W.setCell ⟨b, j, none⟩ (.int .i64 x)) b t (L.set j x) := by
  have := blk_set j (.int .i64 x) h
  unfold BlkI
  rw [this]
  simp
theorem BlkI.lt {W : World} {b : Nat} {t : TypeId} {L : List Int} (h : BlkI W b t L) : b < W.heap.size := lt_of_block h
theorem BlkI.same {W W' : World} {b : Nat} {t : TypeId} {L : List Int} (h : BlkI W b t L) (e : W'.heap[b]? = W.heap[b]?) : BlkI W' b t L := e.trans h
theorem below_set (W : World) (B b j : Nat) (v : Value) (h : B ≤ b) : Below B W (W.setCell ⟨b, j, none⟩ v) := (Below.refl B W).setCell (by exact h) v
theorem below_put (W : World) (B b : Nat) (o : Obj) (h : B ≤ b) : Below B W (W.putObj b o) := ⟨rfl, rfl, rfl, by simp [World.putObj], fun i hi => World.putObj_heap_other (by omega)⟩
theorem above_set (B : Nat) (W : World) (b j : Nat) (v : Value) (hb : b < B) : Above B W (W.setCell ⟨b, j, none⟩ v) := ⟨rfl, rfl, rfl, by simp, fun i hi _ => Below.heap_setCell _ _ _ _ (fun e => by simp only at e; omega)⟩
theorem grown_set {w V : World} {row : Option Nat} (h : w.grownBy V row) (b j : Nat) (v : Value) (hb : w.heap.size ≤ b) : w.grownBy (V.setCell ⟨b, j, none⟩ v) row :=
  ⟨h.os, h.tape, h.output, by simpa using h.size, fun i hi hr => (Below.heap_setCell _ _ _ _ (fun e => by simp only at e; omega)).trans (h.block i hi hr)⟩
theorem map_set {V : World} {P : Program} {k : TypeId} {bo : Nat} {T : List (Value × Value)} (h : MapV V P k bo T) (b j : Nat) (v : Value) (hb : bo ≠ b) : MapV (V.setCell ⟨b, j, none⟩ v) P k bo T := h.same (Below.heap_setCell _ _ _ _ hb)
theorem grown_below {W W' : World} {row : Option Nat} (h : Below W.heap.size W W') : W.grownBy W' row := ⟨h.os, h.tape, h.output, h.size, fun i hi _ => h.block i hi⟩
theorem grown_trans {A B C : World} {bo : Nat} (h : A.grownBy B (some bo)) (k : B.grownBy C (some bo)) : A.grownBy C (some bo) := h.andThen k (fun j e => .inr (by simpa using e))
theorem grown_belowB {w A A' : World} {row : Option Nat} {B : Nat} (h : w.grownBy A row) (hb : Below B A A') (hB : w.heap.size ≤ B) : w.grownBy A' row :=
  ⟨hb.os.trans h.os, hb.tape.trans h.tape, hb.output.trans h.output, Nat.le_trans h.size hb.size, fun i hi hr => (hb.block i (by omega)).trans (h.block i hi hr)⟩
theorem grown_keep {A A' : World} {bo b : Nat} {o : Obj} (hg : A.grownBy A' (some bo)) (h : A.heap[b]? = some o) (hne : b ≠ bo) : A'.heap[b]? = some o :=
  (hg.block b (lt_of_block h) (fun e => hne (Option.some.inj e))).trans h

/-- The numbers of a stand, in a block. -/
@[reducible] def stL (x : DeSt) : List Int := [(x.writer : Int), (x.done : Int), minuteAt x 0, minuteAt x 1, minuteAt x 2]
@[reducible] def StB (W : World) (b : Nat) (x : DeSt) : Prop := BlkI W b 105 (stL x)
theorem StB.cells {W : World} {b : Nat} {x : DeSt} (h : StB W b x) :
    W.cell? ⟨b, 0, none⟩ = some (.int .i64 (x.writer : Int)) ∧ W.cell? ⟨b, 1, none⟩ = some (.int .i64 (x.done : Int)) ∧ W.cell? ⟨b, 2, none⟩ = some (.int .i64 (minuteAt x 0)) ∧ W.cell? ⟨b, 3, none⟩ = some (.int .i64 (minuteAt x 1)) ∧ W.cell? ⟨b, 4, none⟩ = some (.int .i64 (minuteAt x 2)) ∧ b < W.heap.size :=
  ⟨h.cell 0 (by simp), h.cell 1 (by simp), h.cell 2 (by simp), h.cell 3 (by simp), h.cell 4 (by simp), h.lt⟩
theorem StB.frees {W : World} {b : Nat} {x : DeSt} (h : StB W b x) :
    W.frozen? ⟨b, 0, none⟩ = false ∧ W.frozen? ⟨b, 1, none⟩ = false ∧ W.frozen? ⟨b, 2, none⟩ = false ∧ W.frozen? ⟨b, 3, none⟩ = false ∧ W.frozen? ⟨b, 4, none⟩ = false :=
  ⟨h.free 0, h.free 1, h.free 2, h.free 3, h.free 4⟩
/-- A minute, wherever it lies. -/
theorem StB.minute {W : World} {b : Nat} {x : DeSt} (h : StB W b x) (i : Nat) (hi : i < 3) : W.cell? ⟨b, 2 + i, none⟩ = some (.int .i64 (minuteAt x i)) := by
  have := h.cell (2 + i) (by simp; omega)
  obtain rfl | rfl | rfl : i = 0 ∨ i = 1 ∨ i = 2 := by omega
  all_goals exact this

/-- The block of a hall that is looked at. -/
def HBlk (W : World) (bm bo : Nat) (aw ac : Option Addr) (kw kc : Nat) (h : DeH) (wm cm : Nat) : Prop :=
  W.heap[bm]? = some (.cells #[.int .i64 h.wax, .slice aw h.writers.length kw, .slice ac h.customers.length kc, .int .i64 (wm : Int), .int .i64 (cm : Int), .map (some bo)] 110 (0, 0))
theorem HBlk.cells {W : World} {bm bo : Nat} {aw ac : Option Addr} {kw kc : Nat} {h : DeH} {wm cm : Nat} (k : HBlk W bm bo aw ac kw kc h wm cm) :
    W.cell? ⟨bm, 0, none⟩ = some (.int .i64 h.wax) ∧ W.cell? ⟨bm, 1, none⟩ = some (.slice aw h.writers.length kw) ∧ W.cell? ⟨bm, 2, none⟩ = some (.slice ac h.customers.length kc) ∧ W.cell? ⟨bm, 3, none⟩ = some (.int .i64 (wm : Int)) ∧ W.cell? ⟨bm, 4, none⟩ = some (.int .i64 (cm : Int)) ∧ W.cell? ⟨bm, 5, none⟩ = some (.map (some bo)) ∧ bm < W.heap.size :=
  ⟨blk_cell 0 k rfl, blk_cell 1 k rfl, blk_cell 2 k rfl, blk_cell 3 k rfl, blk_cell 4 k rfl, blk_cell 5 k rfl, lt_of_block k⟩
theorem HBlk.same {W W' : World} {bm bo : Nat} {aw ac : Option Addr} {kw kc : Nat} {h : DeH} {wm cm : Nat} (k : HBlk W bm bo aw ac kw kc h wm cm) (e : W'.heap[bm]? = W.heap[bm]?) : HBlk W' bm bo aw ac kw kc h wm cm := e.trans k
theorem HBlk.free {W : World} {bm bo : Nat} {aw ac : Option Addr} {kw kc : Nat} {h : DeH} {wm cm : Nat} (k : HBlk W bm bo aw ac kw kc h wm cm) (j : Nat) : W.frozen? ⟨bm, j, none⟩ = false := blk_free j k
/-- A hall that is looked at. -/
structure HallW (W : World) (bm bo : Nat) (aw ac : Option Addr) (kw kc : Nat) (h : DeH) (wm cm : Nat) : Prop where
  hall : HallC W aw ac kw kc h
  blk : HBlk W bm bo aw ac kw kc h wm cm
  map : ∃ T, MapV W Try.prog 105 bo T ∧ MemoD h wm cm T
variable {W W' : World} {bm bo : Nat} {aw ac : Option Addr} {kw kc : Nat} {h : DeH} {wm cm : Nat}
theorem HallW.bo_lt (k : HallW W bm bo aw ac kw kc h wm cm) : bo < W.heap.size := by
  obtain ⟨T, hT, _⟩ := k.map
  exact hT.lt
theorem HallW.bm_lt (k : HallW W bm bo aw ac kw kc h wm cm) : bm < W.heap.size := lt_of_block k.blk
theorem HallW.ne (k : HallW W bm bo aw ac kw kc h wm cm) : bm ≠ bo := by
  obtain ⟨T, ⟨es, c, hb, _⟩, _⟩ := k.map
  intro e
  have := k.blk
  unfold HBlk at this
  rw [e, hb] at this
  cases this
/-- A block of cells is not the map. -/
theorem HallW.other (k : HallW W bm bo aw ac kw kc h wm cm) {b : Nat} {cs : Array Value} {t : TypeId} {x : Nat × Nat} (hb : W.heap[b]? = some (.cells cs t x)) : b ≠ bo := by
  obtain ⟨T, ⟨es, c, hm, _⟩, _⟩ := k.map
  intro e
  rw [e, hm] at hb
  cases hb
theorem HallW.below (k : HallW W bm bo aw ac kw kc h wm cm) (hb : Below W.heap.size W W') : HallW W' bm bo aw ac kw kc h wm cm := by
  obtain ⟨T, hT, hM⟩ := k.map
  exact ⟨k.hall.mono hb, k.blk.same (hb.block _ k.bm_lt), T, hT.below hb hT.lt, hM⟩
/-- Memory grows, the map may turn: what cells hold stays. -/
theorem HallW.keeps (k : HallW W bm bo aw ac kw kc h wm cm) (hg : W.grownBy W' (some bo)) : Keeps W W' := by
  obtain ⟨T, ⟨es, c, hm, _⟩, _⟩ := k.map
  exact .of_grown hg hm
theorem HallW.learn (k : HallW W bm bo aw ac kw kc h wm cm) (hg : W.grownBy W' (some bo)) {T : List (Value × Value)} (hT : MapV W' Try.prog 105 bo T) (hM : MemoD h wm cm T) : HallW W' bm bo aw ac kw kc h wm cm :=
  ⟨k.hall.keep (k.keeps hg), k.blk.same (hg.block _ k.bm_lt (fun e => k.ne (Option.some.inj e))), T, hT, hM⟩
/-- From w on memory has grown, and the map has turned at most, which is in order. -/
def HallG (w W : World) (bo : Nat) (h : DeH) (wm cm : Nat) : Prop := w.grownBy W (some bo) ∧ ∃ T, MapV W Try.prog 105 bo T ∧ MemoD h wm cm T
variable {w : World}
theorem HallG.below {B : Nat} (k : HallG w W bo h wm cm) (hb : Below B W W') (hB : w.heap.size ≤ B) (hbo : bo < B) : HallG w W' bo h wm cm := by
  obtain ⟨hg, T, hT, hM⟩ := k
  exact ⟨grown_belowB hg hb hB, T, hT.below hb hbo, hM⟩
theorem HallG.room (k : HallG w W bo h wm cm) (hm : HallW w bm bo aw ac kw kc h wm cm) : HallW W bm bo aw ac kw kc h wm cm := by
  obtain ⟨hg, T, hT, hM⟩ := k
  exact hm.learn hg hT hM
theorem HallG.step (k : HallG w W bo h wm cm) (hg : W.grownBy W' (some bo)) (hR : HallW W' bm bo aw ac kw kc h wm cm) : HallG w W' bo h wm cm := ⟨grown_trans k.1 hg, hR.map⟩
theorem HallW.start (hm : HallW w bm bo aw ac kw kc h wm cm) : HallG w w bo h wm cm := ⟨World.grownBy.refl _ _, hm.map⟩
theorem HallG.block (k : HallG w W bo h wm cm) {b : Nat} (hb : b < w.heap.size) (hne : b ≠ bo) : W.heap[b]? = w.heap[b]? := k.1.block b hb (fun e => hne (Option.some.inj e))
theorem HallG.set (k : HallG w W bo h wm cm) (b j : Nat) (v : Value) (hb : w.heap.size ≤ b) (hne : bo ≠ b) : HallG w (W.setCell ⟨b, j, none⟩ v) bo h wm cm := by
  obtain ⟨hg, T, hT, hM⟩ := k
  exact ⟨grown_set hg b j v hb, T, map_set hT b j v hne, hM⟩
theorem HallG.put (k : HallG w W bo h wm cm) (b : Nat) (o : Obj) (hb : w.heap.size ≤ b) (hne : bo ≠ b) : HallG w (W.putObj b o) bo h wm cm := by
  obtain ⟨hg, T, hT, hM⟩ := k
  exact ⟨⟨hg.os, hg.tape, hg.output, by simpa [World.putObj] using hg.size, fun i hi hr => (World.putObj_heap_other (by omega)).trans (hg.block i hi hr)⟩, T, hT.same (World.putObj_heap_other hne), hM⟩
end Go.Proofs.Ytchnpekgmkhacaa
