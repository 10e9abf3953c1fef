/- What is proved here: how a hall that is looked at lies in memory and stays: while memory grows, while its map learns. No condition. -/
/- What is proved here: the contracts of can, of begin, of next and of look. Conditions: the hall is looked at and valid. -/
/- What is proved here: the contract of each: whether something is so of any customer in a plan. Conditions: the plan lies in memory; a function that answers as a plain one does. -/
/- What is proved here: contracts of what a plan cannot be like, but for the last. Conditions: the plan and the hall lie in memory; the plan is not long. -/
import Derived.Test.YtelmponkmmfffaaGreatDeStandG
import Derived.Shelf.RegionOpen
import Derived.TacticsInMore
import Derived.OwnWalkIn
import Derived.LoopIn
import Derived.LoopNIn
import Derived.WalkMore
import Derived.Deep.DeepCutAuto
import Derived.Test.YtelmponkmmfffaaGreatCmpG
import Derived.Test.YtelmponkmmfffaaGreatDeFailG
import Derived.BigQuiet
import Derived.Test.YtelmponkmmfffaaGreatBlkG
set_option linter.unusedVariables false
set_option linter.unusedSimpArgs false
namespace Go.Proofs.YtelmponkmmfffaaGreat
open Go Go.RowKit

theorem alloc_at (w : World) (o : Obj) {n : Nat} (h : n = w.heap.size) : (w.alloc o).heap[n]? = some o := by subst h; exact heap_alloc_new w o
theorem drew_heap (Y : World) : Y.drew.heap = Y.heap := rfl
def BlkI (W : World) (b : Nat) (t : TypeId) (L : List Int) : Prop := W.heap[b]? = some (.cells ((L.map (Value.int .i64)).toArray) t (0, 0))
theorem BlkI.cell {W : World} {b : Nat} {t : TypeId} {L : List Int} (h : BlkI W b t L) (j : Nat) (hj : j < L.length) : W.cell? ⟨b, j, none⟩ = some (.int .i64 L[j]) :=
  blk_cell j h (by simp [hj])
theorem BlkI.free {W : World} {b : Nat} {t : TypeId} {L : List Int} (h : BlkI W b t L) (j : Nat) : W.frozen? ⟨b, j, none⟩ = false := blk_free j h
theorem BlkI.set {W : World} {b : Nat} {t : TypeId} {L : List Int} (h : BlkI W b t L) (j : Nat) (x : Int) : BlkI (W.setCell ⟨b, j, none⟩ (.int .i64 x)) b t (L.set j x) := by
  have := blk_set j (.int .i64 x) h
  unfold BlkI
  rw [this]
  simp
theorem BlkI.lt {W : World} {b : Nat} {t : TypeId} {L : List Int} (h : BlkI W b t L) : b < W.heap.size := lt_of_block h
theorem BlkI.same {W W' : World} {b : Nat} {t : TypeId} {L : List Int} (h : BlkI W b t L) (e : W'.heap[b]? = W.heap[b]?) : BlkI W' b t L := e.trans h
theorem below_set (W : World) (B b j : Nat) (v : Value) (h : B ≤ b) : Below B W (W.setCell ⟨b, j, none⟩ v) := (Below.refl B W).setCell (by exact h) v
theorem below_put (W : World) (B b : Nat) (o : Obj) (h : B ≤ b) : Below B W (W.putObj b o) := ⟨rfl, rfl, rfl, by simp [World.putObj], fun i hi => World.putObj_heap_other (by omega)⟩
theorem above_set (B : Nat) (W : World) (b j : Nat) (v : Value) (hb : b < B) : Above B W (W.setCell ⟨b, j, none⟩ v) := ⟨rfl, rfl, rfl, by simp, fun i hi _ => Below.heap_setCell _ _ _ _ (fun e => by simp only at e; omega)⟩
theorem grown_set {w V : World} {row : Option Nat} (h : w.grownBy V row) (b j : Nat) (v : Value) (hb : w.heap.size ≤ b) : w.grownBy (V.setCell ⟨b, j, none⟩ v) row :=
  ⟨h.os, h.tape, h.output, by simpa using h.size, fun i hi hr => (Below.heap_setCell _ _ _ _ (fun e => by simp only at e; omega)).trans (h.block i hi hr)⟩
theorem map_set {V : World} {P : Program} {k : TypeId} {bo : Nat} {T : List (Value × Value)} (h : MapV V P k bo T) (b j : Nat) (v : Value) (hb : bo ≠ b) : MapV (V.setCell ⟨b, j, none⟩ v) P k bo T := h.same (Below.heap_setCell _ _ _ _ hb)
theorem grown_below {W W' : World} {row : Option Nat} (h : Below W.heap.size W W') : W.grownBy W' row := ⟨h.os, h.tape, h.output, h.size, fun i hi _ => h.block i hi⟩
theorem grown_trans {A B C : World} {bo : Nat} (h : A.grownBy B (some bo)) (k : B.grownBy C (some bo)) : A.grownBy C (some bo) := h.andThen k (fun j e => .inr (by simpa using e))
theorem grown_belowB {w A A' : World} {row : Option Nat} {B : Nat} (h : w.grownBy A row) (hb : Below B A A') (hB : w.heap.size ≤ B) : w.grownBy A' row :=
  ⟨hb.os.trans h.os, hb.tape.trans h.tape, hb.output.trans h.output, Nat.le_trans h.size hb.size, fun i hi hr => (hb.block i (by omega)).trans (h.block i hi hr)⟩
theorem grown_keep {A A' : World} {bo b : Nat} {o : Obj} (hg : A.grownBy A' (some bo)) (h : A.heap[b]? = some o) (hne : b ≠ bo) : A'.heap[b]? = some o :=
  (hg.block b (lt_of_block h) (fun e => hne (Option.some.inj e))).trans h

/-- The numbers of a stand, in a block. -/
@[reducible] def stL (x : DeSt) : List Int := [(x.writer : Int), (x.done : Int), minuteAt x 0, minuteAt x 1, minuteAt x 2]
@[reducible] def StB (W : World) (b : Nat) (x : DeSt) : Prop := BlkI W b 115 (stL x)
theorem StB.cells {W : World} {b : Nat} {x : DeSt} (h : StB W b x) :
    W.cell? ⟨b, 0, none⟩ = some (.int .i64 (x.writer : Int)) ∧ W.cell? ⟨b, 1, none⟩ = some (.int .i64 (x.done : Int)) ∧ W.cell? ⟨b, 2, none⟩ = some (.int .i64 (minuteAt x 0)) ∧ W.cell? ⟨b, 3, none⟩ = some (.int .i64 (minuteAt x 1)) ∧ W.cell? ⟨b, 4, none⟩ = some (.int .i64 (minuteAt x 2)) ∧ b < W.heap.size :=
  ⟨h.cell 0 (by simp), h.cell 1 (by simp), h.cell 2 (by simp), h.cell 3 (by simp), h.cell 4 (by simp), h.lt⟩
/-- A minute, wherever it lies. -/
theorem StB.minute {W : World} {b : Nat} {x : DeSt} (h : StB W b x) (i : Nat) (hi : i < 3) : W.cell? ⟨b, 2 + i, none⟩ = some (.int .i64 (minuteAt x i)) := by
  have := h.cell (2 + i) (by simp; omega)
  obtain rfl | rfl | rfl : i = 0 ∨ i = 1 ∨ i = 2 := by omega
  all_goals exact this

/-- The block of a hall that is looked at. -/
def HBlk (W : World) (bm bo : Nat) (aw ac : Option Addr) (kw kc : Nat) (h : DeH) (wm cm : Nat) : Prop :=
  W.heap[bm]? = some (.cells #[.int .i64 h.wax, .slice aw h.writers.length kw, .slice ac h.customers.length kc, .int .i64 (wm : Int), .int .i64 (cm : Int), .map (some bo)] 120 (0, 0))
theorem HBlk.cells {W : World} {bm bo : Nat} {aw ac : Option Addr} {kw kc : Nat} {h : DeH} {wm cm : Nat} (k : HBlk W bm bo aw ac kw kc h wm cm) :
    W.cell? ⟨bm, 0, none⟩ = some (.int .i64 h.wax) ∧ W.cell? ⟨bm, 1, none⟩ = some (.slice aw h.writers.length kw) ∧ W.cell? ⟨bm, 2, none⟩ = some (.slice ac h.customers.length kc) ∧ W.cell? ⟨bm, 3, none⟩ = some (.int .i64 (wm : Int)) ∧ W.cell? ⟨bm, 4, none⟩ = some (.int .i64 (cm : Int)) ∧ W.cell? ⟨bm, 5, none⟩ = some (.map (some bo)) ∧ bm < W.heap.size :=
  ⟨blk_cell 0 k rfl, blk_cell 1 k rfl, blk_cell 2 k rfl, blk_cell 3 k rfl, blk_cell 4 k rfl, blk_cell 5 k rfl, lt_of_block k⟩
theorem HBlk.same {W W' : World} {bm bo : Nat} {aw ac : Option Addr} {kw kc : Nat} {h : DeH} {wm cm : Nat} (k : HBlk W bm bo aw ac kw kc h wm cm) (e : W'.heap[bm]? = W.heap[bm]?) : HBlk W' bm bo aw ac kw kc h wm cm := e.trans k
theorem HBlk.free {W : World} {bm bo : Nat} {aw ac : Option Addr} {kw kc : Nat} {h : DeH} {wm cm : Nat} (k : HBlk W bm bo aw ac kw kc h wm cm) (j : Nat) : W.frozen? ⟨bm, j, none⟩ = false := blk_free j k
/-- A hall that is looked at. -/
structure HallW (W : World) (bm bo : Nat) (aw ac : Option Addr) (kw kc : Nat) (h : DeH) (wm cm : Nat) : Prop where
  hall : HallC W aw ac kw kc h
  blk : HBlk W bm bo aw ac kw kc h wm cm
  map : ∃ T, MapV W Tryz.prog 115 bo T ∧ MemoD h wm cm T
variable {W W' : World} {bm bo : Nat} {aw ac : Option Addr} {kw kc : Nat} {h : DeH} {wm cm : Nat}
theorem HallW.bo_lt (k : HallW W bm bo aw ac kw kc h wm cm) : bo < W.heap.size := by
  obtain ⟨T, hT, _⟩ := k.map
  exact hT.lt
theorem HallW.bm_lt (k : HallW W bm bo aw ac kw kc h wm cm) : bm < W.heap.size := lt_of_block k.blk
theorem HallW.ne (k : HallW W bm bo aw ac kw kc h wm cm) : bm ≠ bo := by
  obtain ⟨T, ⟨es, c, hb, _⟩, _⟩ := k.map
  intro e
  have := k.blk
  unfold HBlk at this
  rw [e, hb] at this
  cases this
/-- A block of cells is not the map. -/
theorem HallW.other (k : HallW W bm bo aw ac kw kc h wm cm) {b : Nat} {cs : Array Value} {t : TypeId} {x : Nat × Nat} (hb : W.heap[b]? = some (.cells cs t x)) : b ≠ bo := by
  obtain ⟨T, ⟨es, c, hm, _⟩, _⟩ := k.map
  intro e
  rw [e, hm] at hb
  cases hb
theorem HallW.below (k : HallW W bm bo aw ac kw kc h wm cm) (hb : Below W.heap.size W W') : HallW W' bm bo aw ac kw kc h wm cm := by
  obtain ⟨T, hT, hM⟩ := k.map
  exact ⟨k.hall.mono hb, k.blk.same (hb.block _ k.bm_lt), T, hT.below hb hT.lt, hM⟩
/-- Memory grows, the map may turn: what cells hold stays. -/
theorem HallW.keeps (k : HallW W bm bo aw ac kw kc h wm cm) (hg : W.grownBy W' (some bo)) : Keeps W W' := by
  obtain ⟨T, ⟨es, c, hm, _⟩, _⟩ := k.map
  exact .of_grown hg hm
theorem HallW.learn (k : HallW W bm bo aw ac kw kc h wm cm) (hg : W.grownBy W' (some bo)) {T : List (Value × Value)} (hT : MapV W' Tryz.prog 115 bo T) (hM : MemoD h wm cm T) : HallW W' bm bo aw ac kw kc h wm cm :=
  ⟨k.hall.keep (k.keeps hg), k.blk.same (hg.block _ k.bm_lt (fun e => k.ne (Option.some.inj e))), T, hT, hM⟩
/-- From w on memory has grown, and the map has turned at most, which is in order. -/
def HallG (w W : World) (bo : Nat) (h : DeH) (wm cm : Nat) : Prop := w.grownBy W (some bo) ∧ ∃ T, MapV W Tryz.prog 115 bo T ∧ MemoD h wm cm T
variable {w : World}
theorem HallG.below {B : Nat} (k : HallG w W bo h wm cm) (hb : Below B W W') (hB : w.heap.size ≤ B) (hbo : bo < B) : HallG w W' bo h wm cm := by
  obtain ⟨hg, T, hT, hM⟩ := k
  exact ⟨grown_belowB hg hb hB, T, hT.below hb hbo, hM⟩
theorem HallG.room (k : HallG w W bo h wm cm) (hm : HallW w bm bo aw ac kw kc h wm cm) : HallW W bm bo aw ac kw kc h wm cm := by
  obtain ⟨hg, T, hT, hM⟩ := k
  exact hm.learn hg hT hM
theorem HallG.step (k : HallG w W bo h wm cm) (hg : W.grownBy W' (some bo)) (hR : HallW W' bm bo aw ac kw kc h wm cm) : HallG w W' bo h wm cm := ⟨grown_trans k.1 hg, hR.map⟩
theorem HallW.start (hm : HallW w bm bo aw ac kw kc h wm cm) : HallG w w bo h wm cm := ⟨World.grownBy.refl _ _, hm.map⟩
theorem HallG.block (k : HallG w W bo h wm cm) {b : Nat} (hb : b < w.heap.size) (hne : b ≠ bo) : W.heap[b]? = w.heap[b]? := k.1.block b hb (fun e => hne (Option.some.inj e))
theorem HallG.set (k : HallG w W bo h wm cm) (b j : Nat) (v : Value) (hb : w.heap.size ≤ b) (hne : bo ≠ b) : HallG w (W.setCell ⟨b, j, none⟩ v) bo h wm cm := by
  obtain ⟨hg, T, hT, hM⟩ := k
  exact ⟨grown_set hg b j v hb, T, map_set hT b j v hne, hM⟩
theorem HallG.put (k : HallG w W bo h wm cm) (b : Nat) (o : Obj) (hb : w.heap.size ≤ b) (hne : bo ≠ b) : HallG w (W.putObj b o) bo h wm cm := by
  obtain ⟨hg, T, hT, hM⟩ := k
  exact ⟨⟨hg.os, hg.tape, hg.output, by simpa [World.putObj] using hg.size, fun i hi hr => (World.putObj_heap_other (by omega)).trans (hg.block i hi hr)⟩, T, hT.same (World.putObj_heap_other hne), hM⟩
end Go.Proofs.YtelmponkmmfffaaGreat
namespace Go.Proofs.YtelmponkmmfffaaGreat
open Go Go.RowKit Go.Shelf

theorem can_bits {h : DeH} {w c : Nat} (hw : w < h.writers.length) (hc : c < h.customers.length) : canD h w c = h.writers[w].kinds.toNat.testBit h.customers[c].kind.toNat := by
  unfold canD bitB writerAt customerAt
  rw [List.getElem?_eq_getElem hw, List.getElem?_eq_getElem hc]
  rfl
set_option maxRecDepth 100000 in
set_option maxHeartbeats 1000000 in
theorem DCan_any (aw ac : Option Addr) (kw kc : Nat) (h : DeH) (bm bo wm cm u c : Nat) (w : World) (hm : HallW w bm bo aw ac kw kc h wm cm) (hv : DeValid h) (hwm : wm < 8) (hu : u < h.writers.length) (hc : c < h.customers.length) :
    Calls Tryz.prog 110 #[.pointer (some ⟨bm, 0, none⟩), .int .i64 (u : Int), .int .i64 (c : Int)] w fun e w' => e = .returned (.bool (wm.testBit u && canD h u c)) ∧ ∃ q, w' = w.drewN q := by
  have l1 := hm.hall.okw.len
  have l1c := hm.hall.okw.1
  have l2 := hm.hall.okc.len
  have l2c := hm.hall.okc.1
  have hnw := hv.nw
  have hnc := hv.nc
  obtain ⟨y0, y1, y2, y3, y4, y5, y6⟩ := hm.blk.cells
  obtain ⟨b1, o1, rfl, z1, -, h1, -, -⟩ := hm.hall.writers u hu
  obtain ⟨b2, o2, rfl, z2, -, h2, -, -, -⟩ := hm.hall.custs c hc
  have hw := hv.w u hu
  have hc' := hv.c c hc
  rw [can_bits hu hc]
  generalize h.writers[u].kinds = K at h1 hw ⊢
  generalize h.customers[c].kind = k at h2 hc' ⊢
  obtain ⟨K, rfl⟩ : ∃ n : Nat, K = n := ⟨K.toNat, by omega⟩
  obtain ⟨k, rfl⟩ : ∃ n : Nat, k = n := ⟨k.toNat, by omega⟩
  simp only [Int.toNat_natCast]
  have g1 := bit_and wm (by omega) u (by omega)
  have g2 := bit_and K (by omega) k (by omega)
  have hk64 : (k : Int) < 64 := by omega
  have hu64 : (u : Int) < 64 := by omega
  have hul : (u : Int) < h.writers.length := by omega
  have hcl : (c : Int) < h.customers.length := by omega
  clear hw hc' hm
  cases hb : wm.testBit u
  · rw [hb] at g1
    clear hb
    go_enter Tryz.func110, Tryz.ntmps110
    go_upto_region 1 with (fail)
    go_quiet (fail)
    go_wp2
    go_ret
    exact ⟨rfl, _, rfl⟩
  · rw [hb] at g1
    clear hb
    go_enter Tryz.func110, Tryz.ntmps110
    go_upto_region 1 with (fail)
    go_quiet (fail)
    go_wp2
    go_ret
    exact ⟨ret_bool (by simp), _, rfl⟩

/-- The begin of stands, of the first writers. -/
def beginL (h : DeH) (k : Nat) : List Int := [0, 0, if 0 < k then (writerAt h 0).hi else 0, if 1 < k then (writerAt h 1).hi else 0, if 2 < k then (writerAt h 2).hi else 0]
theorem beginL_set (h : DeH) (k : Nat) (hk : k < 3) : (beginL h k).set (2 + k) (writerAt h k).hi = beginL h (k + 1) := by
  obtain rfl | rfl | rfl : k = 0 ∨ k = 1 ∨ k = 2 := by omega
  all_goals rfl
theorem beginL_all {h : DeH} (hv : DeValid h) : beginL h h.writers.length = stL (beginD h) := by
  have hn := hv.nw
  unfold beginL stL
  rw [begin_minute hn, begin_minute hn, begin_minute hn]
  rfl
set_option maxRecDepth 100000 in
set_option maxHeartbeats 1000000 in
theorem DBegin_any (aw ac : Option Addr) (kw kc : Nat) (h : DeH) (bm bo wm cm : Nat) (w : World) (hm : HallW w bm bo aw ac kw kc h wm cm) (hv : DeValid h) :
    Calls Tryz.prog 54 #[.pointer (some ⟨bm, 0, none⟩)] w fun e w' => e = .returned (standV (beginD h)) ∧ Below w.heap.size w w' := by
  have l1 := hm.hall.okw.len
  have l1c := hm.hall.okw.1
  have hnw := hv.nw
  have HBS := Lib.hid (fun k hk => beginL_set h k hk)
  have HBA := Lib.hid (beginL_all hv)
  generalize hst : beginD h = st at HBA ⊢
  clear hst
  obtain ⟨Y, hY⟩ : ∃ Y : World, Y = (w.alloc (.cells #[.int .i64 0, .int .i64 0, .int .i64 0, .int .i64 0, .int .i64 0] 115)).alloc (.cells #[.int .i64 0, .int .i64 0, .int .i64 0, .int .i64 0, .int .i64 0] 115) := ⟨_, rfl⟩
  have hYs : Y.heap.size = w.heap.size + 1 + 1 := by rw [hY]; simp
  have hYb : Below w.heap.size w Y := by rw [hY]; exact ((Below.refl _ w).alloc (Nat.le_refl _) _).alloc (by simp) _
  have hR : BlkI Y w.heap.size 115 [0, 0, 0, 0, 0] := by rw [hY]; exact (heap_alloc_old _ _ (by simp)).trans (alloc_at _ _ rfl)
  have hS : BlkI Y (w.heap.size + 1) 115 (beginL h 0) := by rw [hY]; exact alloc_at _ _ (by simp)
  go_enter Tryz.func54, Tryz.ntmps54
  go_upto_region 2 with (fail)
  rw [← hY]
  clear hY
  obtain ⟨y0, y1, y2, y3, y4, y5, y6⟩ := (hm.below hYb).blk.cells
  replace hYs := Lib.hid hYs
  go_wp2
  go_loopw [12] (fun i wr => ∃ k : Nat, k ≤ h.writers.length ∧ i = .int .i64 k ∧ BlkI wr (w.heap.size + 1) 115 (beginL h k) ∧ BlkI wr w.heap.size 115 [0, 0, 0, 0, 0] ∧ Below w.heap.size w wr) (fun i _ => h.writers.length - (intOf i).toNat)
  case atStart => exact ⟨0, Nat.zero_le _, rfl, hS, hR, hYb⟩
  case round =>
    clear hS hR hYb y0 y1 y2 y3 y4 y5 y6
    obtain ⟨k, hk, rfl, hS, hR, hb⟩ := hrel
    have hz := hb.size
    have hrl := hR.lt
    by_cases hlt : k < h.writers.length
    · have HB := Lib.hid (HBS.out k (by omega))
      obtain ⟨b, off, rfl, hbb, h1, h2, h3, h4⟩ := (hm.hall.writers.mono hb) k hlt
      have e : (writerAt h k).hi = h.writers[k].hi := by unfold writerAt; rw [List.getElem?_eq_getElem hlt]; rfl
      rw [e] at HB
      clear e
      generalize h.writers[k] = x at HB h1 h2 h3 h4
      obtain ⟨name, kinds, lo, hi⟩ := x
      simp only at HB h1 h2 h3 h4
      have hk3 : (k : Int) < 3 := by omega
      have hkn : (k : Int) < h.writers.length := by omega
      have sf := hS.free (2 + k)
      have sc := hS.cell (2 + k) (by simp [beginL]; omega)
      have sz := hS.lt
      have HSET := Lib.hid (hS.set (2 + k) hi)
      go_wp2
      go_roundw
      case rel => exact ⟨k + 1, by omega, by go_num, by rw [← HB.out]; exact HSET.out.same (heap_alloc_old _ _ (by simpa using sz)), (hR.same (Below.heap_setCell _ _ _ _ (by simp))).same (heap_alloc_old _ _ (by simpa using hrl)), (hb.setCell (by simp) _).alloc (by simpa using hz) _⟩
      case measure => simp [intOf]; omega
    · obtain rfl : k = h.writers.length := by omega
      rw [HBA.out] at hS
      obtain ⟨e0, e1, e2, e3, e4, ez⟩ := StB.cells hS
      have r0 := hR.cell 0 (by simp)
      have r1 := hR.cell 1 (by simp)
      have r2 := hR.cell 2 (by simp)
      have r3 := hR.cell 3 (by simp)
      have r4 := hR.cell 4 (by simp)
      simp only [List.getElem_cons_zero, List.getElem_cons_succ] at r0 r1 r2 r3 r4
      have f0 := hR.free 0
      have f1 := hR.free 1
      have f2 := hR.free 2
      have f3 := hR.free 3
      have f4 := hR.free 4
      go_wp2
      (try simp only [Exit.inBlock, Exit.then])
      refine bodyPost_ret (v := standV st) ?_ rfl ⟨rfl, (by (repeat' (first | assumption | exact Below.refl _ _ | refine below_drew' ?_ | refine Below.setCell ?_ (by first | omega | (simp <;> omega)) _ | refine Below.alloc ?_ (by first | omega | (simp <;> omega)) _)))⟩
      rw [results_one rfl]
      go_simp
theorem DNext_any (bm : Nat) (x : DeSt) (w : World) : Calls Tryz.prog 57 #[.pointer (some ⟨bm, 0, none⟩), standV x] w fun e w' => e = .returned (.func (.func 109) #[] #[.pointer (some ⟨w.heap.size + 1, 0, none⟩), .pointer (some ⟨w.heap.size, 0, none⟩)]) ∧ w' = (w.alloc (.cells #[.pointer (some ⟨bm, 0, none⟩)] 109)).alloc (.cells ((stL x).map (Value.int .i64)).toArray 115) := by
  go_enter Tryz.func57, Tryz.ntmps57
  go_wp2
  go_ret
  exact ⟨by simp, by simp⟩
theorem less_one5 : ∀ n : Nat, n ≤ 5 → wrap64 (wrap64 (2 ^ n) - 1) = ((2 ^ n - 1 : Nat) : Int) := by decide +kernel
set_option maxRecDepth 100000 in
set_option maxHeartbeats 1000000 in
theorem DLookN_any (aw ac : Option Addr) (kw kc : Nat) (h : DeH) (w : World) (hm : HallC w aw ac kw kc h) (hv : DeValid h) :
    Calls Tryz.prog 53 #[(.agg #[.int .i64 h.wax, .slice aw h.writers.length kw, .slice ac h.customers.length kc])] w fun e w' => ∃ bm bo : Nat, e = .returned (.pointer (some ⟨bm, 0, none⟩)) ∧ HBlk w' bm bo aw ac kw kc h (fullW h) (fullC h) ∧ MapV w' Tryz.prog 115 bo [] ∧ Below w.heap.size w w' ∧ w.heap.size < bo ∧ w.heap.size < bm := by
  have l1 := hm.okw.len
  have l2 := hm.okc.len
  have hnw := hv.nw
  have hnc := hv.nc
  have p1 := less_one5 h.writers.length (by omega)
  have p2 := less_one5 h.customers.length (by omega)
  have hmm := @run_makeMap Tryz.prog
  have hQ := Below.refl (w.heap.size + 1) (w.alloc (.cells #[.int .i64 h.wax, .slice aw h.writers.length kw, .slice ac h.customers.length kc] 28))
  have x0 := box_cell hQ 0 _ rfl
  have x1 := box_cell hQ 1 _ rfl
  have x2 := box_cell hQ 2 _ rfl
  have xz := box_size hQ
  have hM0 : MapV ((w.alloc (.cells #[.int .i64 h.wax, .slice aw h.writers.length kw, .slice ac h.customers.length kc] 28)).drew.alloc (.map #[] 0)) Tryz.prog 115 (w.heap.size + 1) [] := by have := MapV.made (w.alloc (.cells #[.int .i64 h.wax, .slice aw h.writers.length kw, .slice ac h.customers.length kc] 28)).drew Tryz.prog 115; simpa [drew_heap] using this
  replace hM0 := fun (V : World) (e : V.heap[w.heap.size + 1]? = ((w.alloc (.cells #[.int .i64 h.wax, .slice aw h.writers.length kw, .slice ac h.customers.length kc] 28)).drew.alloc (.map #[] 0)).heap[w.heap.size + 1]?) => hM0.same e
  replace hM0 := Lib.hid hM0
  have hn64 : (h.writers.length : Int) < 64 := by omega
  have hc64 : (h.customers.length : Int) < 64 := by omega
  go_enter Tryz.func53, Tryz.ntmps53
  go_upto_region 1 with (fail)
  (focus go_region)
  all_goals
    go_wp2
    go_ret
    rw [p1, p2]
    refine (fun hb => ⟨w.heap.size + 1 + 1, w.heap.size + 1, rfl, ?_, hM0.out _ ?_, hb, by omega, by omega⟩ : Below w.heap.size w _ → _) (by (repeat' (first | assumption | exact Below.refl _ _ | refine below_drew' ?_ | refine Below.setCell ?_ (by first | omega | (simp <;> omega)) _ | refine Below.alloc ?_ (by first | omega | (simp <;> omega)) _)))
    · exact alloc_at _ _ (by simp)
    · exact heap_alloc_old _ _ (by simp)
theorem DLook_any (aw ac : Option Addr) (kw kc : Nat) (h : DeH) (w : World) (hm : HallC w aw ac kw kc h) (hv : DeValid h) :
    Calls Tryz.prog 53 #[(.agg #[.int .i64 h.wax, .slice aw h.writers.length kw, .slice ac h.customers.length kc])] w fun e w' => ∃ bm bo : Nat, e = .returned (.pointer (some ⟨bm, 0, none⟩)) ∧ HallW w' bm bo aw ac kw kc h (fullW h) (fullC h) ∧ Below w.heap.size w w' ∧ w.heap.size < bo ∧ w.heap.size < bm :=
  (DLookN_any aw ac kw kc h w hm hv).mono fun e w' ⟨bm, bo, h1, h2, h3, h4, h5, h6⟩ => ⟨bm, bo, h1, ⟨hm.mono h4, h2, [], h3, memoD_nil h _ _⟩, h4, h5, h6⟩
end Go.Proofs.YtelmponkmmfffaaGreat
namespace Go.Proofs.YtelmponkmmfffaaGreat
open Go Go.RowKit Go.Shelf

/-- The customers of a plan, with their writers, in order. -/
def pairsFrom : Nat → List (List Int) → List (Nat × Int)
  | _, [] => []
  | w, l :: p => l.map (fun c => (w, c)) ++ pairsFrom (w + 1) p
def eachB (so : Nat → Int → List Int → Bool) : List (Nat × Int) → List Int → Bool
  | [], _ => false
  | x :: L, before => so x.1 x.2 before || eachB so L (before ++ [x.2])
/-- What is to come, and what has been. -/
def restP (p : List (List Int)) (u i : Nat) : List (Nat × Int) := ((p[u]?.getD []).drop i).map (fun c => (u, c)) ++ pairsFrom (u + 1) (p.drop (u + 1))
def befP (p : List (List Int)) (u i : Nat) : List Int := (p.take u).flatten ++ (p[u]?.getD []).take i
theorem rest_next {p : List (List Int)} {u i : Nat} (hu : u < p.length) (hi : i < p[u].length) : restP p u i = (u, p[u][i]) :: restP p u (i + 1) := by
  unfold restP
  rw [List.getElem?_eq_getElem hu, Option.getD_some, List.drop_eq_getElem_cons hi]
  rfl
theorem bef_next {p : List (List Int)} {u i : Nat} (hu : u < p.length) (hi : i < p[u].length) : befP p u (i + 1) = befP p u i ++ [p[u][i]] := by
  unfold befP
  rw [List.getElem?_eq_getElem hu, Option.getD_some, List.take_succ_eq_append_getElem hi, List.append_assoc]
theorem rest_row {p : List (List Int)} {u : Nat} (hu : u < p.length) : restP p u p[u].length = pairsFrom (u + 1) (p.drop (u + 1)) := by
  unfold restP
  rw [List.getElem?_eq_getElem hu, Option.getD_some, List.drop_length]
  rfl
theorem rest_zero {p : List (List Int)} {u : Nat} (hu : u < p.length) : restP p u 0 = pairsFrom u (p.drop u) := by
  unfold restP
  rw [List.getElem?_eq_getElem hu, Option.getD_some, List.drop_zero, List.drop_eq_getElem_cons hu]
  rfl
theorem bef_zero {p : List (List Int)} {u : Nat} : befP p u 0 = (p.take u).flatten := by
  unfold befP; rw [List.take_zero, List.append_nil]
theorem bef_row {p : List (List Int)} {u : Nat} (hu : u < p.length) : befP p u p[u].length = (p.take (u + 1)).flatten := by
  unfold befP
  rw [List.getElem?_eq_getElem hu, Option.getD_some, List.take_length, List.take_succ_eq_append_getElem hu, List.flatten_append]
  simp
theorem flat_take_le (p : List (List Int)) (u : Nat) : ((p.take u).flatten).length ≤ p.flatten.length := by
  conv => rhs; rw [← List.take_append_drop u p]
  rw [List.flatten_append, List.length_append]
  omega
theorem bef_le {p : List (List Int)} {u i : Nat} (hu : u < p.length) : (befP p u i).length ≤ p.flatten.length := by
  have h1 := flat_take_le p (u + 1)
  rw [← bef_row hu] at h1
  refine Nat.le_trans ?_ h1
  unfold befP
  rw [List.getElem?_eq_getElem hu, Option.getD_some, List.take_length]
  simp
  omega
theorem each_all (so : Nat → Int → List Int → Bool) (p : List (List Int)) : eachB so (pairsFrom p.length (p.drop p.length)) ((p.take p.length).flatten) = false := by
  rw [List.drop_length]; rfl

theorem wpList_app_big {P : Program} {w : World} {ops : Array Oper} {rest : List Oper} {o : Oper} {a : Act} {Q : Exit → Act → World → Prop} (s x : Operand) {t e : TypeId} {z : Value} {size bytes : Nat}
    (hE : ElemInfo P t e z size bytes) (hgd : o.guard = none) (ho : o.op = .call { callee := .builtin .append, args := #[s, x], argTypes := #[t, t] })
    {v y : Value} (hs : a.eval s = v) (hx : a.eval x = y)
    (base n m : Nat) (xs news : List Value) (hown : w.ownsRow base e size v n xs) (hsrc : SrcAt w y m size news)
    (hnm : n + m ≤ 9223372036854775807) (hbt : (n + m) * bytes ≤ 140737488355328) (hbase : base ≤ w.heap.size)
    (h : ∀ v' w', w'.ownsRow base e size v' (n + m) (xs ++ news) → w.grownBy w' v.ownBlock → (v'.ownBlock = v.ownBlock ∨ v'.ownBlock = some w.heap.size) → wpList P ops Q rest (a.put o.dst v') w') :
    wpList P ops Q (o :: rest) a w := by
  obtain ⟨i, hi, hz, hsz, hby⟩ := info_parts hE.info
  obtain ⟨h1, h2, h3⟩ := hsrc
  rcases h3 with ⟨rfl, rfl⟩ | ⟨ad, c, rfl, hc⟩
  · have hn : news = [] := List.eq_nil_of_length_eq_zero (by simpa using h1)
    subst hn
    refine wpList_append_own_none hgd s x t ho base e i size hE.und hi v n xs hs hown hx ?_
    exact h v w (by simpa using hown) ⟨rfl, rfl, rfl, Nat.le_refl _, fun _ _ _ => rfl⟩ (.inl rfl)
  · exact wpList_append_own_at w hgd s x t ho base e i z size bytes hE.und hi hz hsz hby hE.zsz hE.pos v n xs hs hown ad m c news hx h1 hc h2 hnm hbt hbase
      fun v' w' h2 h3 _ h5 => h v' w' h2 h3 h5

set_option maxRecDepth 100000 in
set_option maxHeartbeats 2000000 in
theorem DEach_any (ad : Option Addr) (p : List (List Int)) (cp F : Nat) (caps : Array Value) (so : Nat → Int → List Int → Bool) (w : World) (hl : p.length ≤ 3) (hc : SlOk ad p.length cp) (hsz : p.flatten.length ≤ 1048576) (hi : RowsC w ad p)
    (hCF : ∀ (xs : Array Value) (W : World), (callFunc F xs).run Tryz.prog W = .ok (.enter F xs) W)
    (HS : ∀ (u i : Nat) (hu : u < p.length) (hi : i < p[u].length) (ab : Option Addr) (cb : Nat) (V : World), Below w.heap.size w V → SlOk ab (befP p u i).length cb → IntsC V ab (befP p u i) →
      Calls Tryz.prog F (#[.int .i64 (u : Int), .int .i64 p[u][i], .slice ab (befP p u i).length cb] ++ caps) V fun e w' => e = .returned (.bool (so u p[u][i] (befP p u i))) ∧ Below V.heap.size V w') :
    Calls Tryz.prog 141 #[.slice ad p.length cp, .func (.func F) #[] caps] w fun e w' => e = .returned (.bool (eachB so (pairsFrom 0 p) [])) ∧ Below w.heap.size w w' := by
  obtain ⟨res, hres⟩ : ∃ r, r = eachB so (pairsFrom 0 p) [] := ⟨_, rfl⟩
  rw [← hres]
  have HR0 := Lib.hid hres
  clear hres
  have HS := Lib.hid HS
  have hcc := hc.1
  have HFL := Lib.hid (fun (u i : Nat) (hu : u < p.length) => bef_le (p := p) (i := i) hu)
  have HFT := Lib.hid (fun (u : Nat) => flat_take_le p u)
  go_enter Tryz.func141, Tryz.ntmps141
  go_wp2
  go_loopw [5, 12] (fun o i wr => ∃ u : Nat, u ≤ p.length ∧ i = .int .i64 u ∧ wr.ownsRow w.heap.size 3 1 o ((p.take u).flatten).length (((p.take u).flatten).map (Value.int .i64)) ∧ Below w.heap.size w wr ∧ Hid (res = eachB so (pairsFrom u (p.drop u)) ((p.take u).flatten))) (fun _ i _ => p.length - (intOf i).toNat)
  case atStart => exact ⟨0, Nat.zero_le _, rfl, World.ownsRow_nil _ _ _ _, Below.refl _ _, HR0⟩
  case round =>
    obtain ⟨u, hu, rfl, hown, hb, HR⟩ := hrel
    have hbz := hb.size
    by_cases hlt : u < p.length
    · obtain ⟨b, off, ar, cr, rfl, hbb0, h10, h2, h3⟩ := hi u hlt
      have h1 := cell_below hb h10
      have hbb := lt_of_cell h1
      clear h10 hbb0
      have hucp : (u : Int) < p.length := by omega
      have h2c := h2.1
      have h2l := h2.len
      have HR2 : Hid (res = eachB so (restP p u 0) (befP p u 0)) := Lib.hid (by rw [HR.out, rest_zero hlt, bef_zero])
      have hown2 : wr.ownsRow w.heap.size 3 1 u5 (befP p u 0).length ((befP p u 0).map (Value.int .i64)) := by rw [bef_zero]; exact hown
      go_wp2
      go_loopw [5, 19] (fun o i V => ∃ k : Nat, k ≤ p[u].length ∧ i = .int .i64 k ∧ V.ownsRow w.heap.size 3 1 o (befP p u k).length ((befP p u k).map (Value.int .i64)) ∧ Below w.heap.size w V ∧ Hid (res = eachB so (restP p u k) (befP p u k))) (fun _ i _ => p[u].length - (intOf i).toNat)
      case atStart => exact ⟨0, Nat.zero_le _, rfl, hown2, hb, HR2⟩
      case round =>
        rename World => V
        obtain ⟨k, hk, rfl, hown, hb, HR⟩ := hrel
        have hbz := hb.size
        by_cases hlk : k < p[u].length
        · have hS := HS.out u k hlt hlk
          have hkcr : (k : Int) < cr := by omega
          have hkl : (k : Int) < p[u].length := by omega
          have HN := Lib.hid (rest_next hlt hlk)
          have HB := Lib.hid (bef_next hlt hlk)
          have hbl := Nat.le_trans (HFL.out u k hlt) hsz
          have hc3 := (h3.mono hb) k hlk
          generalize befP p u k = bf at hown HR hS HB hbl
          generalize p[u][k] = x at hc3 hS HN HB
          obtain ⟨bx, ox, rfl, hbx, hx⟩ := hc3
          obtain ⟨a3, c3, rfl, o3, i3⟩ := ints_ownV hown
          have hS := Lib.hid (hS a3 c3 V hb o3 i3)
          have HS2 := Lib.hid (show (so u x bf = true → res = true) ∧ (so u x bf = false → res = eachB so (restP p u (k + 1)) (befP p u (k + 1))) by
            rw [HR.out, HN.out, HB.out]
            exact ⟨fun h => by show (so u x bf || _) = true; rw [h]; rfl, fun h => by show (so u x bf || _) = _; rw [h]; rfl⟩)
          generalize so u x bf = br at hS HS2
          cases br
          · go_wp2_with (first
              | (at_builtin; go_must (refine wpList_app_big (.tmp 28) (.tmp 30) E_int rfl rfl rfl rfl w.heap.size bf.length 1 (bf.map (Value.int .i64)) [.int .i64 x] (hown2.alloc _) (SrcAt.one _ _ _ rfl) (by omega) (by omega) (by simp; omega) ?_; intro v2 w3 ho2 hg2 _; (have hb3 := app_next hb2 (Nat.le_refl _) (Nat.le_refl _) hown2 hg2); clear hg2; simp only [Act.put, List.setIfInBounds_toArray, List.set_cons_succ, List.set_cons_zero]))
              | ((with_reducible refine hS.out.mono ?_); rintro e w2 ⟨rfl, hb2'⟩; have hown2 := own_below hown hb2'; have hb2 := hb.trans (hb2'.mono hbz); have hb2z := hb2.size; dsimp only))
            go_roundw
            case rel => exact ⟨k + 1, by omega, by go_num, by rw [HB.out]; simpa using ho2, hb3, Lib.hid (HS2.out.2 (by trivial))⟩
            case measure => simp [intOf]; omega
          · go_wp2_with ((with_reducible refine hS.out.mono ?_); rintro e w2 ⟨rfl, hb2'⟩; have hb2 := hb.trans (hb2'.mono hbz); dsimp only)
            go_ret
            exact ⟨ret_bool (HS2.out.1 (by trivial)).symm, hb2⟩
        · obtain rfl : k = p[u].length := by omega
          rw [bef_row hlt] at hown HR
          rw [rest_row hlt] at HR
          go_wp2
          go_roundw
          case rel => exact ⟨u + 1, by omega, by go_num, hown, hb, HR⟩
          case measure => simp [intOf]; omega
    · obtain rfl : u = p.length := by omega
      have HF := Lib.hid (HR.out.trans (each_all so p))
      go_wp2
      go_ret
      exact ⟨ret_bool HF.out.symm, hb⟩
end Go.Proofs.YtelmponkmmfffaaGreat
namespace Go.Proofs.YtelmponkmmfffaaGreat
open Go Go.RowKit Go.Shelf

theorem eachB_any (f : Nat → Int → Bool) : ∀ (L : List (Nat × Int)) (bef : List Int), eachB (fun w c _ => f w c) L bef = L.any fun x => f x.1 x.2
  | [], _ => rfl
  | x :: L, bef => by
    show (f x.1 x.2 || eachB (fun w c _ => f w c) L (bef ++ [x.2])) = _
    rw [eachB_any f L]; rfl
theorem pairs_any (f : Int → Bool) : ∀ (p : List (List Int)) (w : Nat), (pairsFrom w p).any (fun x => f x.2) = p.flatten.any f
  | [], _ => rfl
  | l :: p, w => by
    rw [pairsFrom, List.any_append, pairs_any f p, List.flatten_cons, List.any_append, List.any_map]
    rfl
theorem pairs_wrong (h : DeH) : ∀ (p : List (List Int)) (w : Nat), (pairsFrom w p).any (fun x => !canD h x.1 x.2.toNat) = wrongB h w p
  | [], _ => rfl
  | l :: p, w => by
    rw [pairsFrom, List.any_append, pairs_wrong h p, List.any_map, wrongB]
    rfl
theorem pairs_snd : ∀ (p : List (List Int)) (w : Nat), (pairsFrom w p).map (·.2) = p.flatten
  | [], _ => rfl
  | l :: p, w => by
    rw [pairsFrom, List.map_append, pairs_snd p, List.flatten_cons, List.map_map]
    congr 1
    exact List.map_id _
theorem each_twice : ∀ (L : List (Nat × Int)) (bef : List Int), bef.Nodup → (eachB (fun _ c bef => hasB bef c) L bef = false ↔ (bef ++ L.map (·.2)).Nodup)
  | [], bef, hb => by simpa [eachB] using hb
  | x :: L, bef, hb => by
    show (hasB bef x.2 || eachB (fun _ c bef => hasB bef c) L (bef ++ [x.2])) = false ↔ _
    have e : bef ++ (x :: L).map (·.2) = (bef ++ [x.2]) ++ L.map (·.2) := by simp
    rw [e, Bool.or_eq_false_iff]
    by_cases hx : x.2 ∈ bef
    · have h1 : hasB bef x.2 = true := by unfold hasB; rw [List.any_eq_true]; exact ⟨_, hx, by simp⟩
      constructor
      · rintro ⟨h2, _⟩; rw [h1] at h2; cases h2
      · intro hn
        have := (List.nodup_append.1 (List.nodup_append.1 hn).1).2.2 x.2 hx x.2 (by simp)
        exact absurd rfl this
    · have h1 : hasB bef x.2 = false := by
        unfold hasB; rw [List.any_eq_false]
        intro y hy
        simp only [beq_iff_eq]
        intro e
        exact hx (e ▸ hy)
      have hb2 : (bef ++ [x.2]).Nodup := by
        rw [List.nodup_append]
        refine ⟨hb, by simp, fun a ha b hb' => ?_⟩
        rw [List.mem_singleton] at hb'
        subst hb'
        intro e
        exact hx (e ▸ ha)
      rw [each_twice L _ hb2]
      exact ⟨fun hh => hh.2, fun hh => ⟨h1, hh⟩⟩
theorem each_twiceB (p : List (List Int)) : eachB (fun _ c bef => hasB bef c) (pairsFrom 0 p) [] = twiceB p.flatten := by
  have h1 := each_twice (pairsFrom 0 p) [] List.nodup_nil
  rw [List.nil_append, pairs_snd, ← twice_iff] at h1
  rw [Bool.eq_iff_iff]
  rw [← Bool.not_eq_false, ← Bool.not_eq_false, h1]
theorem any_not_all (l : List Int) (f : Int → Bool) : (l.any fun c => !f c) = !l.all f := by
  induction l with
  | nil => rfl
  | cons x l ih => rw [List.any_cons, List.all_cons, ih, Bool.not_and]

set_option maxHeartbeats 1000000 in
theorem DIndexI_any (a : Option Addr) (l : List Int) (c : Nat) (s : Int) (w : World) (hl : l.length ≤ 9223372036854775807) (hc : l.length ≤ c) (hi : IntsC w a l) :
    Calls Tryz.prog 153 #[.slice a l.length c, .int .i64 s] w fun e w' => ∃ k : Int, e = .returned (.int .i64 k) ∧ Hid (decide (0 ≤ k) = hasB l s) ∧ w' = w := by
  go_enter Tryz.func153, Tryz.ntmps153
  go_wp2
  go_loop [8] (fun i => ∃ k : Nat, k ≤ l.length ∧ i = .int .i64 k ∧ Hid (∀ j (_ : j < k) (h : j < l.length), (l[j] == s) = false)) (fun i => l.length - (intOf i).toNat)
  case atStart => exact ⟨0, Nat.zero_le _, rfl, Lib.hid (fun j h => absurd h (Nat.not_lt_zero j))⟩
  case round =>
    obtain ⟨k, hk, rfl, HR⟩ := hrel
    by_cases hlt : k < l.length
    · obtain ⟨b, off, rfl, hb, hx⟩ := hi k hlt
      have HT := Lib.hid (fun (h : (l[k] == s) = true) => (any_lt (f := fun x => x == s) hlt h : l.any (fun x => x == s) = true))
      have HN := Lib.hid (fun (h : (l[k] == s) = false) => show ∀ j (_ : j < k + 1) (h : j < l.length), (l[j] == s) = false from fun j hj hjl => if hjk : j < k then HR.out j hjk hjl else (by have e : j = k := (by omega); subst e; exact h))
      have hkc : (k : Int) < c := by omega
      have hkl : (k : Int) < l.length := by omega
      generalize l[k] = x at hx HT HN
      by_cases he : x = s
      · replace HT := Lib.hid (HT.out (by simp [he]))
        have g := eqi_t he.symm
        clear HN
        go_wp2
        go_ret
        exact ⟨_, rfl, Lib.hid (by show _ = l.any _; rw [HT.out]; simp), rfl⟩
      · replace HN := Lib.hid (HN.out (by simp [he]))
        have g := eqi_f (Ne.symm he)
        clear HT
        go_wp2
        go_round
        case rel => exact ⟨k + 1, by omega, by go_num, HN⟩
        case measure => simp [intOf]; omega
    · obtain rfl : k = l.length := by omega
      go_wp2
      go_ret
      exact ⟨_, rfl, Lib.hid (by show _ = l.any _; rw [any_not (f := fun x => x == s) (fun j h => HR.out j h h)]; simp), rfl⟩
set_option maxHeartbeats 1000000 in
theorem DContainsI_any (a : Option Addr) (l : List Int) (c : Nat) (s : Int) (w : World) (hl : l.length ≤ 9223372036854775807) (hc : l.length ≤ c) (hi : IntsC w a l) :
    Calls Tryz.prog 145 #[.slice a l.length c, .int .i64 s] w fun e w' => e = .returned (.bool (hasB l s)) ∧ w' = w := by
  have I := Lib.hid (DIndexI_any a l c s w hl hc hi)
  generalize hasB l s = r at I ⊢
  cases r
  · go_enter Tryz.func145, Tryz.ntmps145
    go_wp2_with (go_at_call 153; go_must (refine I.out.mono ?_; rintro e w2 ⟨k, rfl, hk, hw2⟩; obtain rfl := hw2.symm; have hk2 : ¬ 0 ≤ k := of_decide_eq_false hk.out; dsimp only))
    go_ret
    exact ⟨rfl, rfl⟩
  · go_enter Tryz.func145, Tryz.ntmps145
    go_wp2_with (go_at_call 153; go_must (refine I.out.mono ?_; rintro e w2 ⟨k, rfl, hk, hw2⟩; obtain rfl := hw2.symm; have hk2 : 0 ≤ k := of_decide_eq_true hk.out; dsimp only))
    go_ret
    exact ⟨rfl, rfl⟩

theorem DFlaw1_any (aw ac : Option Addr) (kw kc : Nat) (h : DeH) (bm bo wm cm : Nat) (ad : Option Addr) (p : List (List Int)) (cp : Nat) (w : World) (hm : HallW w bm bo aw ac kw kc h wm cm) (hl : p.length ≤ 9223372036854775807) :
    Calls Tryz.prog 139 #[.pointer (some ⟨bm, 0, none⟩), .slice ad p.length cp] w fun e w' => e = .returned (.bool (decide (p.length ≠ h.writers.length))) ∧ Below w.heap.size w w' := by
  have l1 := hm.hall.okw.len
  obtain ⟨y0, y1, y2, y3, y4, y5, y6⟩ := hm.blk.cells
  clear hm
  generalize h.writers.length = n at *
  by_cases e : p.length = n
  · have g := nei_f (show (p.length : Int) = (n : Int) by omega)
    go_enter Tryz.func139, Tryz.ntmps139
    go_wp2
    go_ret
    exact ⟨ret_bool (by simp [e]), Below.refl _ _⟩
  · have g := nei_t (show (p.length : Int) ≠ (n : Int) by omega)
    go_enter Tryz.func139, Tryz.ntmps139
    go_wp2
    go_ret
    exact ⟨ret_bool (by simp [e]), Below.refl _ _⟩
theorem DOut_any (aw ac : Option Addr) (kw kc : Nat) (h : DeH) (bm bo wm cm q : Nat) (u : Nat) (c : Int) (vb : Value) (w : World) (hm : HallW w bm bo aw ac kw kc h wm cm) (hq : w.cell? ⟨q, 0, none⟩ = some (.pointer (some ⟨bm, 0, none⟩))) :
    Calls Tryz.prog 142 #[.int .i64 (u : Int), .int .i64 c, vb, .pointer (some ⟨q, 0, none⟩)] w fun e w' => e = .returned (.bool (!inB c 0 ((h.customers.length : Int) - 1))) ∧ Below w.heap.size w w' := by
  have l2 := hm.hall.okc.len
  obtain ⟨y0, y1, y2, y3, y4, y5, y6⟩ := hm.blk.cells
  have zq := lt_of_cell hq
  have B1 := Lib.hid (fun (a : Nat) (W : World) hc => MBeyondOne_any c 0 ((h.customers.length : Int) - 1) a W hc)
  clear hm
  go_enter Tryz.func142, Tryz.ntmps142
  go_wp2_with (go_at_call 89; go_must ((with_reducible refine (B1.out _ _ ?_).mono ?_); (simp); rintro e w2 ⟨rfl, hb2⟩; dsimp only))
  go_ret
  exact ⟨rfl, ((Below.refl _ w).alloc (Nat.le_refl _) (.cells #[.int .i64 c] 3)).trans (hb2.mono (by simp))⟩
theorem ptr_box (w : World) (bm : Nat) (t : TypeId) : Below w.heap.size w (w.alloc (.cells #[.pointer (some ⟨bm, 0, none⟩)] t)) ∧ (w.alloc (.cells #[.pointer (some ⟨bm, 0, none⟩)] t)).cell? ⟨w.heap.size, 0, none⟩ = some (.pointer (some ⟨bm, 0, none⟩)) :=
  ⟨(Below.refl _ w).alloc (Nat.le_refl _) _, blk_cell 0 (alloc_at w _ rfl) rfl⟩
theorem DFlaw2_any (aw ac : Option Addr) (kw kc : Nat) (h : DeH) (bm bo wm cm : Nat) (ad : Option Addr) (p : List (List Int)) (cp : Nat) (w : World) (hm : HallW w bm bo aw ac kw kc h wm cm) (hl : p.length ≤ 3) (hc : SlOk ad p.length cp) (hsz : p.flatten.length ≤ 1048576) (hi : RowsC w ad p) :
    Calls Tryz.prog 140 #[.pointer (some ⟨bm, 0, none⟩), .slice ad p.length cp] w fun e w' => e = .returned (.bool (!p.flatten.all fun c => inB c 0 ((h.customers.length : Int) - 1))) ∧ Below w.heap.size w w' := by
  obtain ⟨hb, hq⟩ := ptr_box w bm 109
  have EA := DEach_any ad p cp 142 #[.pointer (some ⟨w.heap.size, 0, none⟩)] (fun _ c _ => !inB c 0 ((h.customers.length : Int) - 1)) _ hl hc hsz (hi.mono hb) (enters_of Tryz.func142 (by kernel_rfl) rfl)
    (fun u i hu hi ab cb V hV ho hI => DOut_any aw ac kw kc h bm bo wm cm w.heap.size u _ _ V ((hm.below hb).below hV) (cell_below hV hq))
  rw [eachB_any, pairs_any (fun c => !inB c 0 ((h.customers.length : Int) - 1)), any_not_all] at EA
  replace EA := Lib.hid EA
  clear hm hi
  go_enter Tryz.func140, Tryz.ntmps140
  go_wp2_with (go_at_call 141; go_must ((with_reducible refine EA.out.mono ?_); rintro e w2 ⟨rfl, hb2⟩; dsimp only))
  go_ret
  exact ⟨rfl, hb.trans (hb2.mono hb.size)⟩
theorem DTwice_any (u : Nat) (c : Int) (ab : Option Addr) (l : List Int) (cb : Nat) (w : World) (ho : SlOk ab l.length cb) (hi : IntsC w ab l) :
    Calls Tryz.prog 144 #[.int .i64 (u : Int), .int .i64 c, .slice ab l.length cb] w fun e w' => e = .returned (.bool (hasB l c)) ∧ Below w.heap.size w w' := by
  have C := Lib.hid (DContainsI_any ab l cb c w ho.len ho.1 hi)
  go_enter Tryz.func144, Tryz.ntmps144
  go_wp2_with (go_at_call 145; go_must ((with_reducible refine C.out.mono ?_); rintro e w2 ⟨rfl, hw2⟩; obtain rfl := hw2.symm; dsimp only))
  go_ret
  exact ⟨rfl, Below.refl _ _⟩
theorem DFlaw3_any (bm : Nat) (ad : Option Addr) (p : List (List Int)) (cp : Nat) (w : World) (hl : p.length ≤ 3) (hc : SlOk ad p.length cp) (hsz : p.flatten.length ≤ 1048576) (hi : RowsC w ad p) :
    Calls Tryz.prog 143 #[.pointer (some ⟨bm, 0, none⟩), .slice ad p.length cp] w fun e w' => e = .returned (.bool (twiceB p.flatten)) ∧ Below w.heap.size w w' := by
  have EA := DEach_any ad p cp 144 #[] (fun _ c bef => hasB bef c) w hl hc hsz hi (enters_of Tryz.func144 (by kernel_rfl) rfl)
    (fun u i hu hi ab cb V hV ho hI => DTwice_any u _ ab _ cb V ho hI)
  rw [each_twiceB] at EA
  replace EA := Lib.hid EA
  clear hi
  go_enter Tryz.func143, Tryz.ntmps143
  go_wp2_with (go_at_call 141; go_must ((with_reducible refine EA.out.mono ?_); rintro e w2 ⟨rfl, hb2⟩; dsimp only))
  go_ret
  exact ⟨rfl, hb2⟩
theorem DWrong_any (aw ac : Option Addr) (kw kc : Nat) (h : DeH) (bm bo wm cm q : Nat) (u c : Nat) (vb : Value) (w : World) (hm : HallW w bm bo aw ac kw kc h wm cm) (hv : DeValid h) (hwm : wm < 8) (hu : u < h.writers.length) (hb : wm.testBit u = true) (hc : c < h.customers.length) (hq : w.cell? ⟨q, 0, none⟩ = some (.pointer (some ⟨bm, 0, none⟩))) :
    Calls Tryz.prog 147 #[.int .i64 (u : Int), .int .i64 (c : Int), vb, .pointer (some ⟨q, 0, none⟩)] w fun e w' => e = .returned (.bool (!canD h u c)) ∧ Below w.heap.size w w' := by
  have zq := lt_of_cell hq
  have C := DCan_any aw ac kw kc h bm bo wm cm u c w hm hv hwm hu hc
  rw [hb, Bool.true_and] at C
  replace C := Lib.hid C
  clear hm
  go_enter Tryz.func147, Tryz.ntmps147
  go_wp2_with (go_at_call 110; go_must ((with_reducible refine C.out.mono ?_); rintro e w2 ⟨rfl, nq, rfl⟩; dsimp only))
  go_ret
  exact ⟨rfl, below_draws _ _ _⟩
theorem DFlaw4_any (aw ac : Option Addr) (kw kc : Nat) (h : DeH) (bm bo wm cm : Nat) (ad : Option Addr) (p : List (List Int)) (cp : Nat) (w : World) (hm : HallW w bm bo aw ac kw kc h wm cm) (hv : DeValid h) (hwm : wm < 8) (hwb : ∀ u, u < h.writers.length → wm.testBit u = true) (hp : p.length = h.writers.length) (hr : (p.flatten.all fun c => inB c 0 ((h.customers.length : Int) - 1)) = true) (hc : SlOk ad p.length cp) (hsz : p.flatten.length ≤ 1048576) (hi : RowsC w ad p) :
    Calls Tryz.prog 146 #[.pointer (some ⟨bm, 0, none⟩), .slice ad p.length cp] w fun e w' => e = .returned (.bool (wrongB h 0 p)) ∧ Below w.heap.size w w' := by
  obtain ⟨hb, hq⟩ := ptr_box w bm 109
  have EA := DEach_any ad p cp 147 #[.pointer (some ⟨w.heap.size, 0, none⟩)] (fun u c _ => !canD h u c.toNat) _ (by rw [hp]; exact hv.nw) hc hsz (hi.mono hb) (enters_of Tryz.func147 (by kernel_rfl) rfl)
    (fun u i hu hi ab cb V hV ho hI => by
      have h1 := inB_iff.1 (List.all_eq_true.1 hr p[u][i] (List.mem_flatten.2 ⟨p[u], List.getElem_mem hu, List.getElem_mem hi⟩))
      obtain ⟨c, e⟩ : ∃ c : Nat, p[u][i] = c := ⟨p[u][i].toNat, by omega⟩
      rw [e] at h1 ⊢
      rw [Int.toNat_natCast]
      exact DWrong_any aw ac kw kc h bm bo wm cm w.heap.size u c _ V ((hm.below hb).below hV) hv hwm (by omega) (hwb u (by omega)) (by omega) (cell_below hV hq))
  rw [eachB_any (fun u c => !canD h u c.toNat), pairs_wrong] at EA
  replace EA := Lib.hid EA
  clear hm hi hr hp
  go_enter Tryz.func146, Tryz.ntmps146
  go_wp2_with (go_at_call 141; go_must ((with_reducible refine EA.out.mono ?_); rintro e w2 ⟨rfl, hb2⟩; dsimp only))
  go_ret
  exact ⟨rfl, hb.trans (hb2.mono hb.size)⟩
end Go.Proofs.YtelmponkmmfffaaGreat
