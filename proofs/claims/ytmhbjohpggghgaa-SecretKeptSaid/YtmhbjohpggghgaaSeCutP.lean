/- What is proved here: the contract of Cut. Conditions: the room lies in memory. -/
import Derived.Test.YtmhbjohpggghgaaSeWrong
set_option linter.unusedVariables false
set_option linter.unusedSimpArgs false
namespace Go.Proofs.Ytmhbjohpggghgaa
open Go Go.RowKit Go.Shelf

theorem and_not : ∀ a : Nat, a < 16 → ∀ b : Nat, b < 16 → bits BinOp.andNot IntKind.i64 (a : Int) (b : Int) = ((a &&& (15 ^^^ b) : Nat) : Int) := by decide +kernel
theorem and_lt (a b : Nat) (h : a < 16) : a &&& b < 16 := Nat.lt_of_le_of_lt Nat.and_le_left h
/-- The secret is kept by some leaks, without a set. -/
def keptLess (r : SeRoom) (s set x : Nat) : Bool := keepsD r s (sinceP r (x &&& (15 ^^^ set)) s)

set_option maxRecDepth 100000 in
set_option maxHeartbeats 1000000 in
theorem SCut11_any (a1 a2 a3 a4 a5 : Option Addr) (k1 k2 k3 k4 k5 : Nat) (r : SeRoom) (bm bo s set x p1 p2 p3 : Nat) (w : World) (hm : RoomW w bm bo a1 a2 a3 a4 a5 k1 k2 k3 k4 k5 r 0) (hv : SeValid r) (hx : x < 16) (hset : set < 16) (hs : s < r.kept.length)
    (c1 : w.cell? ⟨p1, 0, none⟩ = some (.pointer (some ⟨bm, 0, none⟩))) (c2 : w.cell? ⟨p2, 0, none⟩ = some (.int .i64 (s : Int))) (c3 : w.cell? ⟨p3, 0, none⟩ = some (.int .i64 (set : Int))) :
    Calls Try.prog 101 #[.int .i64 (x : Int), .pointer (some ⟨p1, 0, none⟩), .pointer (some ⟨p2, 0, none⟩), .pointer (some ⟨p3, 0, none⟩)] w fun e w' => e = .returned (.bool (keptLess r s set x)) ∧ w.grownBy w' (some bo) ∧ RoomW w' bm bo a1 a2 a3 a4 a5 k1 k2 k3 k4 k5 r 0 := by
  have SI := fun (V : World) (hV : RoomW V bm bo a1 a2 a3 a4 a5 k1 k2 k3 k4 k5 r 0) => SSince_any _ _ _ _ _ _ _ _ _ _ r bm bo 0 (x &&& (15 ^^^ set)) s V hV hv (and_lt _ _ hx) hs
  have SK := fun (V : World) (hV : RoomW V bm bo a1 a2 a3 a4 a5 k1 k2 k3 k4 k5 r 0) => SKeeps_any _ _ _ _ _ _ _ _ _ _ r bm bo 0 s (sinceP r (x &&& (15 ^^^ set)) s) V hV hv hs
  unfold askV at SI
  rw [← and_not x hx set hset] at SI
  obtain ⟨res, hres⟩ : ∃ res, res = keptLess r s set x := ⟨_, rfl⟩
  rw [← hres]
  unfold keptLess at hres
  rw [← hres] at SK
  clear hres
  generalize sinceP r (x &&& (15 ^^^ set)) s = d at SI SK
  have SI := Lib.hid SI
  have SK := Lib.hid SK
  have KE : Hid (∀ V, w.grownBy V (some bo) → (w.grownBy V (some bo) ∧ V.cell? ⟨p1, 0, none⟩ = some (.pointer (some ⟨bm, 0, none⟩)) ∧ V.cell? ⟨p2, 0, none⟩ = some (.int .i64 (s : Int)) ∧ V.cell? ⟨p3, 0, none⟩ = some (.int .i64 (set : Int)) ∧ p1 < V.heap.size ∧ p2 < V.heap.size ∧ p3 < V.heap.size)) := Lib.hid (fun V hg => by
    have hk := hm.keeps hg
    exact ⟨hg, hk.2 _ _ c1, hk.2 _ _ c2, hk.2 _ _ c3, Nat.lt_of_lt_of_le (lt_of_cell c1) hk.1, Nat.lt_of_lt_of_le (lt_of_cell c2) hk.1, Nat.lt_of_lt_of_le (lt_of_cell c3) hk.1⟩)
  have HM := Lib.hid hm
  go_enter Try.func101, Try.ntmps101
  go_upto_region 1 with (fail)
  apply wp_mid _ (fun V => w.grownBy V (some bo) ∧ RoomW V bm bo a1 a2 a3 a4 a5 k1 k2 k3 k4 k5 r 0)
  · have hg0 : w.grownBy w.drew (some bo) := grown_below (below_drew' (Below.refl _ _))
    have hR0 := HM.out.below (below_drew' (Below.refl _ _))
    go_region_held3 (fun V => w.grownBy V (some bo) ∧ V.cell? ⟨p1, 0, none⟩ = some (.pointer (some ⟨bm, 0, none⟩)) ∧ V.cell? ⟨p2, 0, none⟩ = some (.int .i64 (s : Int)) ∧ V.cell? ⟨p3, 0, none⟩ = some (.int .i64 (set : Int)) ∧ p1 < V.heap.size ∧ p2 < V.heap.size ∧ p3 < V.heap.size) (first | exact KE.out _ hg0 | exact KE.out _ hg1 | exact KE.out _ hg2) (first
      | (go_at_call 102; refine (SK.out _ (by assumption)).mono ?_; rintro e w3 ⟨rfl, hb3⟩; have hg2 := grown_trans hg1 (grown_below hb3); have hR2 := hR1.below hb3; dsimp only)
      | (go_at_call 80; refine (SI.out _ (by assumption)).mono ?_; rintro e w2 ⟨rfl, hgs, hR1⟩; have hg1 := grown_trans hg0 hgs; dsimp only))
    exact ⟨rfl, hg2, hR2⟩
  rintro V ⟨hgV, hRV⟩
  go_wp2
  go_ret
  exact ⟨rfl, hgV, hRV⟩
/-- Cut's own cells. -/
def CutI (w W : World) (bm bo p1 p2 s : Nat) (a1 a2 a3 a4 a5 : Option Addr) (k1 k2 k3 k4 k5 : Nat) (r : SeRoom) : Prop := KeepN w W bm bo a1 a2 a3 a4 a5 k1 k2 k3 k4 k5 r ∧ W.heap[p1]? = some (.cells #[.pointer (some ⟨bm, 0, none⟩)] 105 (0, 0)) ∧ W.heap[p2]? = some (.cells #[.int .i64 (s : Int)] 3 (0, 0))
theorem CutI.step {w A A' : World} {bm bo p1 p2 s : Nat} {a1 a2 a3 a4 a5 : Option Addr} {k1 k2 k3 k4 k5 : Nat} {r : SeRoom} (h : CutI w A bm bo p1 p2 s a1 a2 a3 a4 a5 k1 k2 k3 k4 k5 r) (hg : A.grownBy A' (some bo)) (hR : RoomW A' bm bo a1 a2 a3 a4 a5 k1 k2 k3 k4 k5 r 0) (hbo : w.heap.size ≤ bo) : CutI w A' bm bo p1 p2 s a1 a2 a3 a4 a5 k1 k2 k3 k4 k5 r :=
  ⟨h.1.step hg hR hbo, grown_keep hg h.2.1 (h.1.1.other h.2.1), grown_keep hg h.2.2 (h.1.1.other h.2.2)⟩
theorem CutI.belowB {w A A' : World} {bm bo p1 p2 s B : Nat} {a1 a2 a3 a4 a5 : Option Addr} {k1 k2 k3 k4 k5 : Nat} {r : SeRoom} (hm : RoomC w a1 a2 a3 a4 a5 k1 k2 k3 k4 k5 r) (h : CutI w A bm bo p1 p2 s a1 a2 a3 a4 a5 k1 k2 k3 k4 k5 r) (hb : Below B A A') (hw : w.heap.size ≤ B) (h1 : bm < B) (h2 : bo < B) (h3 : p1 < B) (h4 : p2 < B) : CutI w A' bm bo p1 p2 s a1 a2 a3 a4 a5 k1 k2 k3 k4 k5 r :=
  ⟨h.1.belowB hm hb hw h1 h2, (hb.block _ h3).trans h.2.1, (hb.block _ h4).trans h.2.2⟩
theorem settled_all (f : Nat → Bool) (l : List Nat) : (settled (l.countP f) l.length == 1) = l.all f := by
  rw [Bool.eq_iff_iff]
  unfold settled
  by_cases h : l.countP f = l.length
  · rw [if_pos h]
    simp only [beq_self_eq_true, true_iff]
    rw [List.all_eq_true]
    exact List.countP_eq_length.1 h
  · rw [if_neg h]
    have h2 : ¬ l.all f = true := fun h3 => h (List.countP_eq_length.2 (List.all_eq_true.1 h3))
    constructor
    · intro h3
      by_cases h4 : l.countP f = 0
      · rw [if_pos h4] at h3; simp at h3
      · rw [if_neg h4] at h3; simp at h3
    · intro h3; exact absurd h3 h2
set_option maxRecDepth 100000 in
set_option maxHeartbeats 1000000 in
theorem SCut1_any (a1 a2 a3 a4 a5 : Option Addr) (k1 k2 k3 k4 k5 : Nat) (r : SeRoom) (bm bo s set p1 p2 : Nat) (w0 w : World) (hm : RoomC w0 a1 a2 a3 a4 a5 k1 k2 k3 k4 k5 r) (hI : CutI w0 w bm bo p1 p2 s a1 a2 a3 a4 a5 k1 k2 k3 k4 k5 r) (hbo : w0.heap.size ≤ bo) (hv : SeValid r) (hset : set < 16) (hs : s < r.kept.length) :
    Calls Try.prog 100 #[.int .i64 (set : Int), .pointer (some ⟨p1, 0, none⟩), .pointer (some ⟨p2, 0, none⟩)] w fun e w' => e = .returned (.bool ((truthsP r 0).all (keptLess r s set))) ∧ w.grownBy w' (some bo) ∧ CutI w0 w' bm bo p1 p2 s a1 a2 a3 a4 a5 k1 k2 k3 k4 k5 r := by
  have hw0 := hI.1.2.size
  have v3 := hv.nl
  have hbml := hI.1.1.bm_lt
  have hbol := hI.1.1.bo_lt
  have hl1 := lt_of_block hI.2.1
  have hl2 := lt_of_block hI.2.2
  have hQ := (Below.refl _ w).alloc (Nat.le_refl _) (.cells #[.int .i64 (set : Int)] 3)
  have hA3 : (w.alloc (.cells #[.int .i64 (set : Int)] 3)).heap[w.heap.size]? = some (.cells #[.int .i64 (set : Int)] 3 (0, 0)) := alloc_at _ _ rfl
  have hI0 := hI.belowB hm hQ hw0 hbml hbol hl1 hl2
  have hsz : (w.alloc (.cells #[.int .i64 (set : Int)] 3)).heap.size = w.heap.size + 1 := by simp
  have AK := SAsk_any a1 a2 a3 a4 a5 k1 k2 k3 k4 k5 r bm bo 101 #[.pointer (some ⟨p1, 0, none⟩), .pointer (some ⟨p2, 0, none⟩), .pointer (some ⟨w.heap.size, 0, none⟩)] (keptLess r s set) (w.alloc (.cells #[.int .i64 (set : Int)] 3)) hv (by omega) (enters_of Try.func101 (by kernel_rfl) rfl)
    (fun _ W => CutI w0 W bm bo p1 p2 s a1 a2 a3 a4 a5 k1 k2 k3 k4 k5 r ∧ w.grownBy W (some bo) ∧ W.heap[w.heap.size]? = some (.cells #[.int .i64 (set : Int)] 3 (0, 0)))
    (fun q A A' h hb => ⟨h.1.belowB hm hb (by omega) (by omega) (by omega) (by omega) (by omega), grown_belowB h.2.1 hb (by omega), (hb.block _ (by omega)).trans h.2.2⟩)
    (fun q A A' h hg hR' => ⟨h.1.step hg hR' hbo, grown_trans h.2.1 hg, grown_keep hg h.2.2 (h.1.1.1.other h.2.2)⟩)
    (fun q A h => h.1.1.1) ⟨hI0, grown_below hQ, hA3⟩
    (fun pre x W h hp hz => (SCut11_any _ _ _ _ _ _ _ _ _ _ r bm bo s set x p1 p2 w.heap.size W h.1.1.1 hv (by have := truthsP_lt (r := r) (but := 0) (s := x) (hp.subset (by simp)); have := two_pow_le4 r.leaks.length v3; omega) hset hs (blk_cell 0 h.1.2.1 rfl) (blk_cell 0 h.1.2.2 rfl) (blk_cell 0 h.2.2 rfl)).mono fun e W' h' => ⟨h'.1, ⟨h.1.step h'.2.1 h'.2.2 hbo, grown_trans h.2.1 h'.2.1, grown_keep h'.2.1 h.2.2 (h.1.1.1.other h.2.2)⟩, Above.of_grown h'.2.1 (fun q e => by have := Option.some.inj e; omega)⟩)
  have HS := Lib.hid (settled_all (keptLess r s set) (truthsP r 0))
  generalize settled ((truthsP r 0).countP (keptLess r s set)) (truthsP r 0).length = cnt at AK HS
  have AK := Lib.hid AK
  have y1 := blk_cell 0 hI0.2.1 rfl
  simp only [List.getElem_toArray, List.getElem_cons_zero] at y1
  have z1 := lt_of_block hI0.2.1
  generalize (truthsP r 0).all (keptLess r s set) = res at HS ⊢
  clear hsz
  cases res
  · have g1 := HS.out
    go_enter Try.func100, Try.ntmps100
    go_wp2_with (go_at_call 78; go_must (refine AK.out.mono ?_; rintro e w5 ⟨rfl, hK3, hg3, -⟩; dsimp only))
    go_ret
    exact ⟨rfl, hg3, hK3⟩
  · have g1 := HS.out
    go_enter Try.func100, Try.ntmps100
    go_wp2_with (go_at_call 78; go_must (refine AK.out.mono ?_; rintro e w5 ⟨rfl, hK3, hg3, -⟩; dsimp only))
    go_ret
    exact ⟨rfl, hg3, hK3⟩
end Go.Proofs.Ytmhbjohpggghgaa
