/- What is proved here: the contract of some; what of a room stays while other memory turns. Conditions: the room is looked at and valid. -/
import Derived.Test.YtmhbjohpggghgaaSeLook
set_option linter.unusedVariables false
set_option linter.unusedSimpArgs false
namespace Go.Proofs.Ytmhbjohpggghgaa
open Go Go.RowKit Go.Shelf
attribute [local go_sem] Oper.semAt_some

/-- From w on memory has grown, and the map has turned at most, which is in order. -/
def RoomG (w W : World) (bo : Nat) (r : SeRoom) : Prop := w.grownBy W (some bo) ∧ ∃ T, MapV W Try.prog 113 bo T ∧ MemoOk r T
theorem grown_belowB {w A A' : World} {row : Option Nat} {B : Nat} (h : w.grownBy A row) (hb : Below B A A') (hB : w.heap.size ≤ B) : w.grownBy A' row :=
  ⟨hb.os.trans h.os, hb.tape.trans h.tape, hb.output.trans h.output, Nat.le_trans h.size hb.size, fun i hi hr => (hb.block i (by omega)).trans (h.block i hi hr)⟩
theorem RoomG.below {w W W' : World} {bo B : Nat} {r : SeRoom} (h : RoomG w W bo r) (hb : Below B W W') (hB : w.heap.size ≤ B) (hbo : bo < B) : RoomG w W' bo r := by
  obtain ⟨hg, T, hT, hM⟩ := h
  exact ⟨grown_belowB hg hb hB, T, hT.below hb hbo, hM⟩
theorem RoomG.room {w W : World} {bm bo : Nat} {a1 a2 a3 a4 a5 : Option Addr} {k1 k2 k3 k4 k5 : Nat} {r : SeRoom} {but : Nat} (h : RoomG w W bo r) (hm : RoomW w bm bo a1 a2 a3 a4 a5 k1 k2 k3 k4 k5 r but) : RoomW W bm bo a1 a2 a3 a4 a5 k1 k2 k3 k4 k5 r but := by
  obtain ⟨hg, T, hT, hM⟩ := h
  exact hm.learn hg hT hM
theorem RoomG.step {w W W' : World} {bm bo : Nat} {a1 a2 a3 a4 a5 : Option Addr} {k1 k2 k3 k4 k5 : Nat} {r : SeRoom} {but : Nat} (h : RoomG w W bo r) (hg : W.grownBy W' (some bo)) (hR : RoomW W' bm bo a1 a2 a3 a4 a5 k1 k2 k3 k4 k5 r but) : RoomG w W' bo r := ⟨grown_trans h.1 hg, hR.map⟩
theorem RoomW.start {w : World} {bm bo : Nat} {a1 a2 a3 a4 a5 : Option Addr} {k1 k2 k3 k4 k5 : Nat} {r : SeRoom} {but : Nat} (hm : RoomW w bm bo a1 a2 a3 a4 a5 k1 k2 k3 k4 k5 r but) : RoomG w w bo r := ⟨World.grownBy.refl _ _, hm.map⟩
theorem RoomG.block {w W : World} {bo : Nat} {r : SeRoom} (h : RoomG w W bo r) {b : Nat} (hb : b < w.heap.size) (hne : b ≠ bo) : W.heap[b]? = w.heap[b]? := h.1.block b hb (fun e => hne (Option.some.inj e))
theorem RoomG.set {w W : World} {bo : Nat} {r : SeRoom} (h : RoomG w W bo r) (b j : Nat) (v : Value) (hb : w.heap.size ≤ b) (hne : bo ≠ b) : RoomG w (W.setCell ⟨b, j, none⟩ v) bo r := by
  obtain ⟨hg, T, hT, hM⟩ := h
  exact ⟨grown_set hg b j v hb, T, map_set hT b j v hne, hM⟩
theorem RoomG.put {w W : World} {bo : Nat} {r : SeRoom} (h : RoomG w W bo r) (b : Nat) (o : Obj) (hb : w.heap.size ≤ b) (hne : bo ≠ b) : RoomG w (W.putObj b o) bo r := by
  obtain ⟨hg, T, hT, hM⟩ := h
  exact ⟨⟨hg.os, hg.tape, hg.output, by simpa [World.putObj] using hg.size, fun i hi hr => (World.putObj_heap_other (by omega)).trans (hg.block i hi hr)⟩, T, hT.same (World.putObj_heap_other hne), hM⟩
theorem above_set (B : Nat) (W : World) (b j : Nat) (v : Value) (hb : b < B) : Above B W (W.setCell ⟨b, j, none⟩ v) := ⟨rfl, rfl, rfl, by simp, fun i hi _ => Below.heap_setCell _ _ _ _ (fun e => by simp only at e; omega)⟩
theorem ne_map {W : World} {bo : Nat} {T : List (Value × Value)} {k : TypeId} {P : Program} (h : MapV W P k bo T) {b : Nat} {cs : Array Value} {t : TypeId} {x : Nat × Nat} (hb : W.heap[b]? = some (.cells cs t x)) : b ≠ bo := by
  obtain ⟨es, c, hm, _⟩ := h
  intro e
  rw [e, hm] at hb
  cases hb
theorem grown_keep {A A' : World} {bo b : Nat} {o : Obj} (hg : A.grownBy A' (some bo)) (h : A.heap[b]? = some o) (hne : b ≠ bo) : A'.heap[b]? = some o :=
  (hg.block b (lt_of_block h) (fun e => hne (Option.some.inj e))).trans h

set_option maxRecDepth 100000 in
set_option maxHeartbeats 2000000 in
theorem SSome_any (a1 a2 a3 a4 a5 : Option Addr) (k1 k2 k3 k4 k5 : Nat) (r : SeRoom) (bm bo but : Nat) (w : World) (hm : RoomW w bm bo a1 a2 a3 a4 a5 k1 k2 k3 k4 k5 r but) (hv : SeValid r) (hbut : but < 64) :
    Calls Try.prog 90 #[.pointer (some ⟨bm, 0, none⟩)] w fun e w' => e = .returned (.bool (decide (0 < (truthsP r but).length))) ∧ w.grownBy w' (some bo) ∧ RoomW w' bm bo a1 a2 a3 a4 a5 k1 k2 k3 k4 k5 r but := by
  have TR := Lib.hid (fun W : World => STruths_any bm W)
  have hlo := hm.bo_lt
  have hSE := STruths_seq a1 a2 a3 a4 a5 k1 k2 k3 k4 k5 r bm bo (w.heap.size + 1) but hv hbut
  refine (callsIn_wide (n := 0)).1 ?_
  refine callsIn_of_wp_marks Try.func90 rfl trivial ?_ rfl
  simp only [Try.ntmps90, List.size_toArray, List.length_cons, List.length_nil, Nat.reduceAdd, Nat.reduceSub, Array.replicate_succ, Array.replicate_zero, List.push_toArray, List.append_toArray, List.nil_append, List.cons_append]
  refine (wpIn_wide (n := 0)).2 ?_
  go_wp2_with (go_at_call 113; go_must ((with_reducible refine (TR.out _).mono ?_); rintro e w3 ⟨rfl, rfl⟩; dsimp only))
  have hsz : ((w.alloc (.cells #[.bool false] 4)).alloc (.cells #[.pointer (some ⟨bm, 0, none⟩)] 105)).heap.size = w.heap.size + 1 + 1 := by simp
  have hb0 : Below w.heap.size w ((w.alloc (.cells #[.bool false] 4)).alloc (.cells #[.pointer (some ⟨bm, 0, none⟩)] 105)) := ((Below.refl _ w).alloc (Nat.le_refl _) _).alloc (by simp) _
  have hR0 : ((w.alloc (.cells #[.bool false] 4)).alloc (.cells #[.pointer (some ⟨bm, 0, none⟩)] 105)).heap[w.heap.size]? = some (.cells #[.bool false] 4 (0, 0)) := (heap_alloc_old _ _ (by simp)).trans (alloc_at _ _ rfl)
  have hC0 : ((w.alloc (.cells #[.bool false] 4)).alloc (.cells #[.pointer (some ⟨bm, 0, none⟩)] 105)).heap[w.heap.size + 1]? = some (.cells #[.pointer (some ⟨bm, 0, none⟩)] 105 (0, 0)) := alloc_at _ _ (by simp)
  refine (wpIn_wide (n := 0)).1 ?_
  refine wpIn_rangeFunc_M (gf := 119) (lb := #[.pointer (some ⟨w.heap.size + 1, 0, none⟩)]) (by go_simp) (enters_of Try.func119 (by kernel_rfl) rfl) hSE (fun _ => rfl)
    (fun A A' h => Above.of_grown h.1 (fun r e => by have := Option.some.inj e; omega))
    (fun pre W => pre = [] ∧ RoomG w W bo r ∧ W.heap[w.heap.size]? = some (.cells #[.bool false] 4 (0, 0)) ∧ W.heap[w.heap.size + 1]? = some (.cells #[.pointer (some ⟨bm, 0, none⟩)] 105 (0, 0)))
    (fun c pre W => c = .ret ∧ 0 < (truthsP r but).length ∧ RoomG w W bo r ∧ W.heap[w.heap.size]? = some (.cells #[.bool true] 4 (0, 0)) ∧ W.heap[w.heap.size + 1]? = some (.cells #[.pointer (some ⟨bm, 0, none⟩)] 105 (0, 0)))
    (fun s A A' h hb => ⟨h.1, h.2.1.below hb (by omega) (by omega), (hb.block _ (by omega)).trans h.2.2.1, (hb.block _ (by omega)).trans h.2.2.2⟩)
    (fun c s A A' h hb => ⟨h.1, h.2.1, h.2.2.1.below hb (by omega) (by omega), (hb.block _ (by omega)).trans h.2.2.2.1, (hb.block _ (by omega)).trans h.2.2.2.2⟩)
    (fun s A A' h hR => ⟨h.1, h.2.1.step hR.1 hR.2, grown_keep hR.1 h.2.2.1 (by omega), grown_keep hR.1 h.2.2.2 (by omega)⟩)
    (fun c s A A' h hR => ⟨h.1, h.2.1, h.2.2.1.step hR.1 hR.2, grown_keep hR.1 h.2.2.2.1 (by omega), grown_keep hR.1 h.2.2.2.2 (by omega)⟩)
    (fun s A h => ⟨h.2.1.room hm, h.2.2.2⟩) (fun c s A h => ⟨h.2.2.1.room hm, h.2.2.2.2⟩)
    ⟨rfl, hm.start.below hb0 (Nat.le_refl _) hlo, hR0, hC0⟩ ?round ?done ?stop
  case round =>
    intro l pre x W hl1 hl2 hI hpre
    have hpos : 0 < (truthsP r but).length := by obtain ⟨t, ht⟩ := hpre; rw [← ht]; simp; omega
    gi_wp2
    refine ⟨Above.refl _ _, hI, ?_⟩
    intro Wb hs2 hblk hIb
    obtain ⟨-, hG, hR, hC⟩ := hIb
    have r0 := blk_cell 0 hR rfl
    simp only [List.getElem_toArray, List.getElem_cons_zero] at r0
    have rf := blk_free 0 hR
    have rz := lt_of_block hR
    gi_wp2
    exact ⟨above_set _ _ _ _ _ (by omega), rfl, hpos, hG.set _ _ _ (Nat.le_refl _) (by omega), blk_set 0 _ hR, (Below.heap_setCell _ _ _ _ (fun e => by simp only at e; omega)).trans hC⟩
  case done =>
    intro D W hD hI hK
    obtain ⟨h0, hG, hR, hC⟩ := hI
    have r0 := blk_cell 0 hR rfl
    simp only [List.getElem_toArray, List.getElem_cons_zero] at r0
    have rf := blk_free 0 hR
    have rz := lt_of_block hR
    have H0 := Lib.hid h0
    clear h0
    have hKs : (W.setCell ⟨w.heap.size, 0, none⟩ (.bool false)).heap[D]? = some (.deferred (some [])) := (Below.heap_setCell _ _ _ _ (fun e => by simp only at e; omega)).trans hK
    have hRs := blk_set 0 (.bool false) hR
    have hGs := (hG.set w.heap.size 0 (.bool false) (Nat.le_refl _) (by omega)).put D (.deferred none) (by omega) (by omega)
    go_wp2
    refine ⟨by simp, .inl ⟨_, _, rfl, run_takeDeferred hKs, ?_⟩⟩
    have c1 : ((W.setCell ⟨w.heap.size, 0, none⟩ (.bool false)).putObj D (.deferred none)).cell? ⟨w.heap.size, 0, none⟩ = some (.bool false) := blk_cell 0 ((World.putObj_heap_other (by omega)).trans hRs) rfl
    refine ⟨.bool false, ?_, ret_bool (by rw [H0.out]; simp), hGs.1, hGs.room hm⟩
    rw [results_one rfl]
    go_simp
  case stop =>
    intro D c pre W hD hI hK
    obtain ⟨rfl, hpos, hG, hR, hC⟩ := hI
    have hGs := hG.put D (.deferred none) (by omega) (by omega)
    gi_wp2
    refine ⟨by simp, .inl ⟨_, _, rfl, run_takeDeferred hK, ?_⟩⟩
    have c1 : (W.putObj D (.deferred none)).cell? ⟨w.heap.size, 0, none⟩ = some (.bool true) := blk_cell 0 ((World.putObj_heap_other (by omega)).trans hR) rfl
    refine ⟨.bool true, ?_, ret_bool (by simp; omega), hGs.1, hGs.room hm⟩
    rw [results_one rfl]
    go_simp
end Go.Proofs.Ytmhbjohpggghgaa
