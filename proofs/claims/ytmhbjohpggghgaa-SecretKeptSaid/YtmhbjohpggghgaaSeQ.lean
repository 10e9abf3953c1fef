/- What is proved here: the contracts of what Told, Knows and Since ask. Conditions: the room is looked at and valid; the captured cells lie in memory. -/
import Derived.Test.YtmhbjohpggghgaaSeAsk
set_option linter.unusedVariables false
set_option linter.unusedSimpArgs false
namespace Go.Proofs.Ytmhbjohpggghgaa
open Go Go.RowKit Go.Shelf

set_option maxHeartbeats 1000000 in
theorem STold1_any (x n p : Nat) (w : World) (hx : x < 64) (hn : n < 7) (c0 : w.cell? ⟨p, 0, none⟩ = some (.int .i64 (n : Int))) :
    Calls Try.prog 85 #[.int .i64 (x : Int), .pointer (some ⟨p, 0, none⟩)] w fun e w' => e = .returned (.bool (x.testBit n)) ∧ w = w' := by
  have hb := bit_and x hx n hn
  have hx64 : (x : Int) < 64 := by omega
  have hn7 : (n : Int) < 64 := by omega
  have hp := lt_of_cell c0
  generalize x.testBit n = b at hb ⊢
  go_enter Try.func85, Try.ntmps85
  go_wp2
  go_ret
  exact ⟨rfl, rfl⟩

/-- What a closure that asks since when reads. -/
def AskS (W V : World) (bo p1 p2 p3 bm s u : Nat) : Prop := W.grownBy V (some bo) ∧ V.cell? ⟨p1, 0, none⟩ = some (.pointer (some ⟨bm, 0, none⟩)) ∧ V.cell? ⟨p2, 0, none⟩ = some (.int .i64 (s : Int)) ∧ V.cell? ⟨p3, 0, none⟩ = some (.int .i64 (u : Int)) ∧ p1 < V.heap.size ∧ p2 < V.heap.size ∧ p3 < V.heap.size
set_option maxRecDepth 100000 in
set_option maxHeartbeats 1000000 in
theorem SKnows1_any (a1 a2 a3 a4 a5 : Option Addr) (k1 k2 k3 k4 k5 : Nat) (r : SeRoom) (bm bo but x s u p1 p2 p3 p4 : Nat) (day : Int) (w : World) (hm : RoomW w bm bo a1 a2 a3 a4 a5 k1 k2 k3 k4 k5 r but) (hv : SeValid r) (hx : x < 16) (hs : s < r.kept.length) (hu : u < 4)
    (c1 : w.cell? ⟨p1, 0, none⟩ = some (.pointer (some ⟨bm, 0, none⟩))) (c2 : w.cell? ⟨p2, 0, none⟩ = some (.int .i64 (s : Int))) (c3 : w.cell? ⟨p3, 0, none⟩ = some (.int .i64 (u : Int))) (c4 : w.cell? ⟨p4, 0, none⟩ = some (.int .i64 day)) :
    Calls Try.prog 84 #[.int .i64 (x : Int), .pointer (some ⟨p1, 0, none⟩), .pointer (some ⟨p2, 0, none⟩), .pointer (some ⟨p3, 0, none⟩), .pointer (some ⟨p4, 0, none⟩)] w fun e w' => e = .returned (.bool (leI (sinceP r x s u) day)) ∧ w.grownBy w' (some bo) ∧ RoomW w' bm bo a1 a2 a3 a4 a5 k1 k2 k3 k4 k5 r but := by
  obtain ⟨d, hd⟩ : ∃ d, d = sinceP r x s := ⟨_, rfl⟩
  have hix := day_index (sinceP r x s) u hu
  have SI := fun (V : World) (hV : RoomW V bm bo a1 a2 a3 a4 a5 k1 k2 k3 k4 k5 r but) => SSince_any _ _ _ _ _ _ _ _ _ _ r bm bo but x s V hV hv hx hs
  rw [← hd] at hix SI ⊢
  clear hd
  unfold askV at SI
  have SI := Lib.hid SI
  have KE : Hid (∀ V, w.grownBy V (some bo) → (w.grownBy V (some bo) ∧ V.cell? ⟨p1, 0, none⟩ = some (.pointer (some ⟨bm, 0, none⟩)) ∧ V.cell? ⟨p2, 0, none⟩ = some (.int .i64 (s : Int)) ∧ V.cell? ⟨p3, 0, none⟩ = some (.int .i64 (u : Int)) ∧ V.cell? ⟨p4, 0, none⟩ = some (.int .i64 day) ∧ p1 < V.heap.size ∧ p2 < V.heap.size ∧ p3 < V.heap.size ∧ p4 < V.heap.size)) := Lib.hid (fun V hg => by
    have hk := hm.keeps hg
    exact ⟨hg, hk.2 _ _ c1, hk.2 _ _ c2, hk.2 _ _ c3, hk.2 _ _ c4, Nat.lt_of_lt_of_le (lt_of_cell c1) hk.1, Nat.lt_of_lt_of_le (lt_of_cell c2) hk.1, Nat.lt_of_lt_of_le (lt_of_cell c3) hk.1, Nat.lt_of_lt_of_le (lt_of_cell c4) hk.1⟩)
  have HM := Lib.hid hm
  go_enter Try.func84, Try.ntmps84
  go_upto_region 1 with (fail)
  apply wp_mid _ (fun V => w.grownBy V (some bo) ∧ RoomW V bm bo a1 a2 a3 a4 a5 k1 k2 k3 k4 k5 r but)
  · have hg0 : w.grownBy w.drew (some bo) := grown_below (below_drew' (Below.refl _ _))
    have hR0 := HM.out.below (below_drew' (Below.refl _ _))
    go_region_held3 (fun V => w.grownBy V (some bo) ∧ V.cell? ⟨p1, 0, none⟩ = some (.pointer (some ⟨bm, 0, none⟩)) ∧ V.cell? ⟨p2, 0, none⟩ = some (.int .i64 (s : Int)) ∧ V.cell? ⟨p3, 0, none⟩ = some (.int .i64 (u : Int)) ∧ V.cell? ⟨p4, 0, none⟩ = some (.int .i64 day) ∧ p1 < V.heap.size ∧ p2 < V.heap.size ∧ p3 < V.heap.size ∧ p4 < V.heap.size) (first | exact KE.out _ hg0 | exact KE.out _ hg1) (first
      | (go_at_call 80; refine (SI.out _ (by assumption)).mono ?_; rintro e w2 ⟨rfl, hgs, hR1⟩; have hg1 := grown_trans hg0 hgs; dsimp only))
    exact ⟨rfl, hg1, hR1⟩
  rintro V ⟨hgV, hRV⟩
  go_wp2
  go_ret
  exact ⟨ret_bool (by unfold leI; rfl), hgV, hRV⟩

/-- Since's own cells: whether it is the first, the days. -/
structure DayC (W : World) (pf pd n : Nat) (lo hi : Int) : Prop where
  f : W.heap[pf]? = some (.cells #[.bool (decide (n = 0))] 4 (0, 0))
  d : W.heap[pd]? = some (.cells #[.int .i64 lo, .int .i64 hi] 34 (0, 0))
theorem DayC.same {W W' : World} {pf pd n : Nat} {lo hi : Int} (h : DayC W pf pd n lo hi) (e1 : W'.heap[pf]? = W.heap[pf]?) (e2 : W'.heap[pd]? = W.heap[pd]?) : DayC W' pf pd n lo hi := ⟨e1.trans h.f, e2.trans h.d⟩
theorem DayC.ne {W : World} {pf pd n : Nat} {lo hi : Int} (h : DayC W pf pd n lo hi) : pf ≠ pd := by
  intro e
  have h1 := h.f
  rw [e, h.d] at h1
  cases h1
/-- The turn of its own cells. -/
structure DayW (W V : World) (pf pd : Nat) : Prop where
  os : V.os = W.os
  tape : V.tape = W.tape
  output : V.output = W.output
  size : V.heap.size = W.heap.size
  other : ∀ b, b ≠ pf → b ≠ pd → V.heap[b]? = W.heap[b]?
theorem DayW.refl (W : World) (pf pd : Nat) : DayW W W pf pd := ⟨rfl, rfl, rfl, rfl, fun _ _ _ => rfl⟩
theorem DayW.setf {W V : World} {pf pd : Nat} (h : DayW W V pf pd) (j : Nat) (v : Value) : DayW W (V.setCell ⟨pf, j, none⟩ v) pf pd :=
  ⟨h.os, h.tape, h.output, by simpa using h.size, fun b h1 h2 => (Below.heap_setCell _ _ _ _ (fun e => h1 e)).trans (h.other b h1 h2)⟩
theorem DayW.setd {W V : World} {pf pd : Nat} (h : DayW W V pf pd) (j : Nat) (v : Value) : DayW W (V.setCell ⟨pd, j, none⟩ v) pf pd :=
  ⟨h.os, h.tape, h.output, by simpa using h.size, fun b h1 h2 => (Below.heap_setCell _ _ _ _ (fun e => h2 e)).trans (h.other b h1 h2)⟩
/-- Its own cells, behind one truth more. -/
def DayN (W : World) (pf pd n : Nat) (lo hi du : Int) : Prop := if 9 < du then DayC W pf pd n lo hi else if n = 0 then DayC W pf pd 1 du du else DayC W pf pd (n + 1) (min lo du) (max hi du)
theorem dayN_skip {W : World} {pf pd n : Nat} {lo hi du : Int} (h : 9 < du) (k : DayC W pf pd n lo hi) : DayN W pf pd n lo hi du := by unfold DayN; rw [if_pos h]; exact k
theorem dayN_first {W : World} {pf pd : Nat} {lo hi du : Int} (h : ¬ 9 < du) (k : DayC W pf pd 0 lo hi) (hne : pf ≠ pd) : DayN (((((W.setCell ⟨pd, 0, none⟩ (.int .i64 du)).setCell ⟨pd, 1, none⟩ (.int .i64 du)).setCell ⟨pf, 0, none⟩ (.bool false)).setCell ⟨pd, 0, none⟩ (.int .i64 du)).setCell ⟨pd, 1, none⟩ (.int .i64 du)) pf pd 0 lo hi du := by
  unfold DayN
  rw [if_neg h, if_pos rfl]
  refine ⟨?_, ?_⟩
  · refine (Below.heap_setCell _ _ _ _ (fun e => hne e)).trans ((Below.heap_setCell _ _ _ _ (fun e => hne e)).trans ?_)
    exact blk_set 0 _ ((Below.heap_setCell _ _ _ _ (fun e => hne e)).trans ((Below.heap_setCell _ _ _ _ (fun e => hne e)).trans k.f))
  · exact blk_set 1 _ (blk_set 0 _ ((Below.heap_setCell _ _ _ _ (fun e => hne e.symm)).trans (blk_set 1 (.int .i64 du) (blk_set 0 (.int .i64 du) k.d))))
theorem dayN_more {W : World} {pf pd n : Nat} {lo hi du a b : Int} (h : ¬ 9 < du) (hn : n ≠ 0) (k : DayC W pf pd n lo hi) (hne : pf ≠ pd) (ha : a = min lo du) (hb : b = max hi du) : DayN ((W.setCell ⟨pd, 0, none⟩ (.int .i64 a)).setCell ⟨pd, 1, none⟩ (.int .i64 b)) pf pd n lo hi du := by
  unfold DayN
  rw [if_neg h, if_neg hn, ← ha, ← hb]
  refine ⟨?_, ?_⟩
  · have e : decide (n = 0) = decide (n + 1 = 0) := by simp [hn]
    rw [← e]
    exact (Below.heap_setCell _ _ _ _ (fun e => hne e)).trans ((Below.heap_setCell _ _ _ _ (fun e => hne e)).trans k.f)
  · exact blk_set 1 _ (blk_set 0 _ k.d)

set_option maxRecDepth 100000 in
set_option maxHeartbeats 1000000 in
theorem SSince1_any (a1 a2 a3 a4 a5 : Option Addr) (k1 k2 k3 k4 k5 : Nat) (r : SeRoom) (bm bo but x s u p1 p2 p3 pf pd n : Nat) (lo hi : Int) (w : World) (hm : RoomW w bm bo a1 a2 a3 a4 a5 k1 k2 k3 k4 k5 r but) (hv : SeValid r) (hx : x < 16) (hs : s < r.kept.length) (hu : u < 4)
    (c1 : w.cell? ⟨p1, 0, none⟩ = some (.pointer (some ⟨bm, 0, none⟩))) (c2 : w.cell? ⟨p2, 0, none⟩ = some (.int .i64 (s : Int))) (c3 : w.cell? ⟨p3, 0, none⟩ = some (.int .i64 (u : Int))) (hD : DayC w pf pd n lo hi) :
    Calls Try.prog 79 #[.int .i64 (x : Int), .pointer (some ⟨p1, 0, none⟩), .pointer (some ⟨p2, 0, none⟩), .pointer (some ⟨p3, 0, none⟩), .pointer (some ⟨pf, 0, none⟩), .pointer (some ⟨pd, 0, none⟩)] w fun e w' => e = .returned (.bool (leI (sinceP r x s u) 9)) ∧ ∃ V, w.grownBy V (some bo) ∧ RoomW V bm bo a1 a2 a3 a4 a5 k1 k2 k3 k4 k5 r but ∧ DayW V w' pf pd ∧ DayN w' pf pd n lo hi (sinceP r x s u) := by
  obtain ⟨d, hd⟩ : ∃ d, d = sinceP r x s := ⟨_, rfl⟩
  have hix := day_index (sinceP r x s) u hu
  have hdb := sinceP_days hv x s u
  have SI := fun (V : World) (hV : RoomW V bm bo a1 a2 a3 a4 a5 k1 k2 k3 k4 k5 r but) => SSince_any _ _ _ _ _ _ _ _ _ _ r bm bo but x s V hV hv hx hs
  rw [← hd] at hix SI hdb ⊢
  clear hd
  obtain ⟨du, hdu⟩ : ∃ x, x = d u := ⟨_, rfl⟩
  rw [← hdu] at hix hdb ⊢
  clear hdu
  unfold askV at SI
  have SI := Lib.hid SI
  have hbf : pf ≠ bo := hm.other hD.f
  have hbd : pd ≠ bo := hm.other hD.d
  have HPP := Lib.hid hD.ne
  have KD : Hid (∀ V, w.grownBy V (some bo) → DayC V pf pd n lo hi) := Lib.hid (fun V hg => ⟨grown_keep hg hD.f hbf, grown_keep hg hD.d hbd⟩)
  have KE : Hid (∀ V, w.grownBy V (some bo) → AskS w V bo p1 p2 p3 bm s u) := Lib.hid (fun V hg => by
    have hk := hm.keeps hg
    exact ⟨hg, hk.2 _ _ c1, hk.2 _ _ c2, hk.2 _ _ c3, Nat.lt_of_lt_of_le (lt_of_cell c1) hk.1, Nat.lt_of_lt_of_le (lt_of_cell c2) hk.1, Nat.lt_of_lt_of_le (lt_of_cell c3) hk.1⟩)
  have HM := Lib.hid hm
  clear hbf hbd hD
  go_enter Try.func79, Try.ntmps79
  go_upto_region 1 with (fail)
  apply wp_mid _ (fun V => w.grownBy V (some bo) ∧ RoomW V bm bo a1 a2 a3 a4 a5 k1 k2 k3 k4 k5 r but)
  · have hg0 : w.grownBy w.drew (some bo) := grown_below (below_drew' (Below.refl _ _))
    have hR0 := HM.out.below (below_drew' (Below.refl _ _))
    go_region_held3 (fun V => w.grownBy V (some bo) ∧ V.cell? ⟨p1, 0, none⟩ = some (.pointer (some ⟨bm, 0, none⟩)) ∧ V.cell? ⟨p2, 0, none⟩ = some (.int .i64 (s : Int)) ∧ V.cell? ⟨p3, 0, none⟩ = some (.int .i64 (u : Int)) ∧ p1 < V.heap.size ∧ p2 < V.heap.size ∧ p3 < V.heap.size) (first | exact KE.out _ hg0 | exact KE.out _ hg1) (first
      | (go_at_call 80; refine (SI.out _ (by assumption)).mono ?_; rintro e w2 ⟨rfl, hgs, hR1⟩; have hg1 := grown_trans hg0 hgs; dsimp only))
    exact ⟨rfl, hg1, hR1⟩
  rintro V ⟨hgV, hRV⟩
  have hDV := KD.out V hgV
  by_cases h9 : 9 < du
  · have HR := Lib.hid (dayN_skip h9 hDV)
    go_wp2
    go_ret
    exact ⟨ret_bool (by unfold leI; simp; omega), V, hgV, hRV, DayW.refl _ _ _, HR.out⟩
  · have d0 := blk_cell 0 hDV.d rfl
    have d1 := blk_cell 1 hDV.d rfl
    have f0 := blk_cell 0 hDV.f rfl
    simp only [List.getElem_toArray, List.getElem_cons_zero, List.getElem_cons_succ] at d0 d1 f0
    have e0 := blk_free 0 hDV.d
    have e1 := blk_free 1 hDV.d
    have e2 := blk_free 0 hDV.f
    have z0 := lt_of_block hDV.d
    have z1 := lt_of_block hDV.f
    have hne := HPP.out
    have hne2 := Ne.symm hne
    by_cases hn : n = 0
    · subst hn
      have f0 : V.cell? ⟨pf, 0, none⟩ = some (.bool true) := f0
      have HN := Lib.hid (dayN_first h9 hDV hne)
      go_wp2
      go_ret
      exact ⟨ret_bool (by unfold leI; simp; omega), V, hgV, hRV, (((((DayW.refl _ _ _).setd _ _).setd _ _).setf _ _).setd _ _).setd _ _, HN.out⟩
    · have hb : decide (n = 0) = false := by simpa using hn
      rw [hb] at f0
      have HN := Lib.hid (fun (a b : Int) ha hb => dayN_more (a := a) (b := b) h9 hn hDV hne ha hb)
      clear hb hn
      go_wp2
      all_goals
        go_ret
        exact ⟨ret_bool (by unfold leI; simp; omega), V, hgV, hRV, ((DayW.refl _ _ _).setd _ _).setd _ _, HN.out _ _ (by omega) (by omega)⟩
end Go.Proofs.Ytmhbjohpggghgaa
