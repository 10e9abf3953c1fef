/- What is proved here: the contract of Cut. Conditions: the room lies in memory. -/
/- What is proved here: the contract of Cut. Conditions: the room lies in memory. -/
import Derived.Test.YtcgplocmncionaaGreatSeSinceG
set_option linter.unusedVariables false
set_option linter.unusedSimpArgs false
namespace Go.Proofs.YtcgplocmncionaaGreat
open Go Go.RowKit Go.Shelf

theorem and_not : ∀ a : Nat, a < 16 → ∀ b : Nat, b < 16 → bits BinOp.andNot IntKind.i64 (a : Int) (b : Int) = ((a &&& (15 ^^^ b) : Nat) : Int) := by decide +kernel
theorem and_lt (a b : Nat) (h : a < 16) : a &&& b < 16 := Nat.lt_of_le_of_lt Nat.and_le_left h
/-- The secret is kept by some leaks, without a set. -/
def keptLess (r : SeRoom) (s set x : Nat) : Bool := keepsD r s (sinceP r (x &&& (15 ^^^ set)) s)

set_option maxRecDepth 100000 in
set_option maxHeartbeats 1000000 in
theorem SCut11_any (a1 a2 a3 a4 a5 : Option Addr) (k1 k2 k3 k4 k5 : Nat) (r : SeRoom) (bm bo s set x p1 p2 p3 : Nat) (w : World) (hm : RoomW w bm bo a1 a2 a3 a4 a5 k1 k2 k3 k4 k5 r 0) (hv : SeValid r) (hx : x < 16) (hset : set < 16) (hs : s < r.kept.length)
    (c1 : w.cell? ⟨p1, 0, none⟩ = some (.pointer (some ⟨bm, 0, none⟩))) (c2 : w.cell? ⟨p2, 0, none⟩ = some (.int .i64 (s : Int))) (c3 : w.cell? ⟨p3, 0, none⟩ = some (.int .i64 (set : Int))) :
    Calls Tryz.prog 73 #[.int .i64 (x : Int), .pointer (some ⟨p1, 0, none⟩), .pointer (some ⟨p2, 0, none⟩), .pointer (some ⟨p3, 0, none⟩)] w fun e w' => e = .returned (.bool (keptLess r s set x)) ∧ w.grownBy w' (some bo) ∧ RoomW w' bm bo a1 a2 a3 a4 a5 k1 k2 k3 k4 k5 r 0 := by
  have SI := fun (V : World) (hV : RoomW V bm bo a1 a2 a3 a4 a5 k1 k2 k3 k4 k5 r 0) => SSince_any _ _ _ _ _ _ _ _ _ _ r bm bo 0 (x &&& (15 ^^^ set)) s V hV hv (and_lt _ _ hx) hs
  have SK := fun (V : World) (hV : RoomW V bm bo a1 a2 a3 a4 a5 k1 k2 k3 k4 k5 r 0) => SKeeps_any _ _ _ _ _ _ _ _ _ _ r bm bo 0 s (sinceP r (x &&& (15 ^^^ set)) s) V hV hv hs
  unfold askV at SI
  rw [← and_not x hx set hset] at SI
  obtain ⟨res, hres⟩ : ∃ res, res = keptLess r s set x := ⟨_, rfl⟩
  rw [← hres]
  unfold keptLess at hres
  rw [← hres] at SK
  clear hres
  generalize sinceP r (x &&& (15 ^^^ set)) s = d at SI SK
  have SI := Lib.hid SI
  have SK := Lib.hid SK
  have KE : Hid (∀ V, w.grownBy V (some bo) → (w.grownBy V (some bo) ∧ V.cell? ⟨p1, 0, none⟩ = some (.pointer (some ⟨bm, 0, none⟩)) ∧ V.cell? ⟨p2, 0, none⟩ = some (.int .i64 (s : Int)) ∧ V.cell? ⟨p3, 0, none⟩ = some (.int .i64 (set : Int)) ∧ p1 < V.heap.size ∧ p2 < V.heap.size ∧ p3 < V.heap.size)) := Lib.hid (fun V hg => by
    have hk := hm.keeps hg
    exact ⟨hg, hk.2 _ _ c1, hk.2 _ _ c2, hk.2 _ _ c3, Nat.lt_of_lt_of_le (lt_of_cell c1) hk.1, Nat.lt_of_lt_of_le (lt_of_cell c2) hk.1, Nat.lt_of_lt_of_le (lt_of_cell c3) hk.1⟩)
  have HM := Lib.hid hm
  go_enter Tryz.func73, Tryz.ntmps73
  go_upto_region 1 with (fail)
  apply wp_mid _ (fun V => w.grownBy V (some bo) ∧ RoomW V bm bo a1 a2 a3 a4 a5 k1 k2 k3 k4 k5 r 0)
  · have hg0 : w.grownBy w.drew (some bo) := grown_below (below_drew' (Below.refl _ _))
    have hR0 := HM.out.below (below_drew' (Below.refl _ _))
    go_region_held3 (fun V => w.grownBy V (some bo) ∧ V.cell? ⟨p1, 0, none⟩ = some (.pointer (some ⟨bm, 0, none⟩)) ∧ V.cell? ⟨p2, 0, none⟩ = some (.int .i64 (s : Int)) ∧ V.cell? ⟨p3, 0, none⟩ = some (.int .i64 (set : Int)) ∧ p1 < V.heap.size ∧ p2 < V.heap.size ∧ p3 < V.heap.size) (first | exact KE.out _ hg0 | exact KE.out _ hg1 | exact KE.out _ hg2) (first
      | (go_at_call 74; refine (SK.out _ (by assumption)).mono ?_; rintro e w3 ⟨rfl, hb3⟩; have hg2 := grown_trans hg1 (grown_below hb3); have hR2 := hR1.below hb3; dsimp only)
      | (go_at_call 26; refine (SI.out _ (by assumption)).mono ?_; rintro e w2 ⟨rfl, hgs, hR1⟩; have hg1 := grown_trans hg0 hgs; dsimp only))
    exact ⟨rfl, hg2, hR2⟩
  rintro V ⟨hgV, hRV⟩
  go_wp2
  go_ret
  exact ⟨rfl, hgV, hRV⟩
/-- Cut's own cells. -/
def CutI (w W : World) (bm bo p1 p2 s : Nat) (a1 a2 a3 a4 a5 : Option Addr) (k1 k2 k3 k4 k5 : Nat) (r : SeRoom) : Prop := KeepN w W bm bo a1 a2 a3 a4 a5 k1 k2 k3 k4 k5 r ∧ W.heap[p1]? = some (.cells #[.pointer (some ⟨bm, 0, none⟩)] 62 (0, 0)) ∧ W.heap[p2]? = some (.cells #[.int .i64 (s : Int)] 3 (0, 0))
theorem CutI.step {w A A' : World} {bm bo p1 p2 s : Nat} {a1 a2 a3 a4 a5 : Option Addr} {k1 k2 k3 k4 k5 : Nat} {r : SeRoom} (h : CutI w A bm bo p1 p2 s a1 a2 a3 a4 a5 k1 k2 k3 k4 k5 r) (hg : A.grownBy A' (some bo)) (hR : RoomW A' bm bo a1 a2 a3 a4 a5 k1 k2 k3 k4 k5 r 0) (hbo : w.heap.size ≤ bo) : CutI w A' bm bo p1 p2 s a1 a2 a3 a4 a5 k1 k2 k3 k4 k5 r :=
  ⟨h.1.step hg hR hbo, grown_keep hg h.2.1 (h.1.1.other h.2.1), grown_keep hg h.2.2 (h.1.1.other h.2.2)⟩
theorem CutI.belowB {w A A' : World} {bm bo p1 p2 s B : Nat} {a1 a2 a3 a4 a5 : Option Addr} {k1 k2 k3 k4 k5 : Nat} {r : SeRoom} (hm : RoomC w a1 a2 a3 a4 a5 k1 k2 k3 k4 k5 r) (h : CutI w A bm bo p1 p2 s a1 a2 a3 a4 a5 k1 k2 k3 k4 k5 r) (hb : Below B A A') (hw : w.heap.size ≤ B) (h1 : bm < B) (h2 : bo < B) (h3 : p1 < B) (h4 : p2 < B) : CutI w A' bm bo p1 p2 s a1 a2 a3 a4 a5 k1 k2 k3 k4 k5 r :=
  ⟨h.1.belowB hm hb hw h1 h2, (hb.block _ h3).trans h.2.1, (hb.block _ h4).trans h.2.2⟩
theorem settled_all (f : Nat → Bool) (l : List Nat) : (settled (l.countP f) l.length == 1) = l.all f := by
  rw [Bool.eq_iff_iff]
  unfold settled
  by_cases h : l.countP f = l.length
  · rw [if_pos h]
    simp only [beq_self_eq_true, true_iff]
    rw [List.all_eq_true]
    exact List.countP_eq_length.1 h
  · rw [if_neg h]
    have h2 : ¬ l.all f = true := fun h3 => h (List.countP_eq_length.2 (List.all_eq_true.1 h3))
    constructor
    · intro h3
      by_cases h4 : l.countP f = 0
      · rw [if_pos h4] at h3; simp at h3
      · rw [if_neg h4] at h3; simp at h3
    · intro h3; exact absurd h3 h2
set_option maxRecDepth 100000 in
set_option maxHeartbeats 1000000 in
theorem SCut1_any (a1 a2 a3 a4 a5 : Option Addr) (k1 k2 k3 k4 k5 : Nat) (r : SeRoom) (bm bo s set p1 p2 : Nat) (w0 w : World) (hm : RoomC w0 a1 a2 a3 a4 a5 k1 k2 k3 k4 k5 r) (hI : CutI w0 w bm bo p1 p2 s a1 a2 a3 a4 a5 k1 k2 k3 k4 k5 r) (hbo : w0.heap.size ≤ bo) (hv : SeValid r) (hset : set < 16) (hs : s < r.kept.length) :
    Calls Tryz.prog 72 #[.int .i64 (set : Int), .pointer (some ⟨p1, 0, none⟩), .pointer (some ⟨p2, 0, none⟩)] w fun e w' => e = .returned (.bool ((truthsP r 0).all (keptLess r s set))) ∧ w.grownBy w' (some bo) ∧ CutI w0 w' bm bo p1 p2 s a1 a2 a3 a4 a5 k1 k2 k3 k4 k5 r := by
  have hw0 := hI.1.2.size
  have v3 := hv.nl
  have hbml := hI.1.1.bm_lt
  have hbol := hI.1.1.bo_lt
  have hl1 := lt_of_block hI.2.1
  have hl2 := lt_of_block hI.2.2
  have hQ := (Below.refl _ w).alloc (Nat.le_refl _) (.cells #[.int .i64 (set : Int)] 3)
  have hA3 : (w.alloc (.cells #[.int .i64 (set : Int)] 3)).heap[w.heap.size]? = some (.cells #[.int .i64 (set : Int)] 3 (0, 0)) := alloc_at _ _ rfl
  have hI0 := hI.belowB hm hQ hw0 hbml hbol hl1 hl2
  have hsz : (w.alloc (.cells #[.int .i64 (set : Int)] 3)).heap.size = w.heap.size + 1 := by simp
  have AK := SAsk_any a1 a2 a3 a4 a5 k1 k2 k3 k4 k5 r bm bo 73 #[.pointer (some ⟨p1, 0, none⟩), .pointer (some ⟨p2, 0, none⟩), .pointer (some ⟨w.heap.size, 0, none⟩)] (keptLess r s set) (w.alloc (.cells #[.int .i64 (set : Int)] 3)) hv (by omega) (enters_of Tryz.func73 (by kernel_rfl) rfl)
    (fun _ W => CutI w0 W bm bo p1 p2 s a1 a2 a3 a4 a5 k1 k2 k3 k4 k5 r ∧ w.grownBy W (some bo) ∧ W.heap[w.heap.size]? = some (.cells #[.int .i64 (set : Int)] 3 (0, 0)))
    (fun q A A' h hb => ⟨h.1.belowB hm hb (by omega) (by omega) (by omega) (by omega) (by omega), grown_belowB h.2.1 hb (by omega), (hb.block _ (by omega)).trans h.2.2⟩)
    (fun q A A' h hg hR' => ⟨h.1.step hg hR' hbo, grown_trans h.2.1 hg, grown_keep hg h.2.2 (h.1.1.1.other h.2.2)⟩)
    (fun q A h => h.1.1.1) ⟨hI0, grown_below hQ, hA3⟩
    (fun pre x W h hp hz => (SCut11_any _ _ _ _ _ _ _ _ _ _ r bm bo s set x p1 p2 w.heap.size W h.1.1.1 hv (by have := truthsP_lt (r := r) (but := 0) (s := x) (hp.subset (by simp)); have := two_pow_le4 r.leaks.length v3; omega) hset hs (blk_cell 0 h.1.2.1 rfl) (blk_cell 0 h.1.2.2 rfl) (blk_cell 0 h.2.2 rfl)).mono fun e W' h' => ⟨h'.1, ⟨h.1.step h'.2.1 h'.2.2 hbo, grown_trans h.2.1 h'.2.1, grown_keep h'.2.1 h.2.2 (h.1.1.1.other h.2.2)⟩, Above.of_grown h'.2.1 (fun q e => by have := Option.some.inj e; omega)⟩)
  have HS := Lib.hid (settled_all (keptLess r s set) (truthsP r 0))
  generalize settled ((truthsP r 0).countP (keptLess r s set)) (truthsP r 0).length = cnt at AK HS
  have AK := Lib.hid AK
  have y1 := blk_cell 0 hI0.2.1 rfl
  simp only [List.getElem_toArray, List.getElem_cons_zero] at y1
  have z1 := lt_of_block hI0.2.1
  generalize (truthsP r 0).all (keptLess r s set) = res at HS ⊢
  clear hsz
  cases res
  · have g1 := HS.out
    go_enter Tryz.func72, Tryz.ntmps72
    go_wp2_with (go_at_call 24; go_must (refine AK.out.mono ?_; rintro e w5 ⟨rfl, hK3, hg3, -⟩; dsimp only))
    go_ret
    exact ⟨rfl, hg3, hK3⟩
  · have g1 := HS.out
    go_enter Tryz.func72, Tryz.ntmps72
    go_wp2_with (go_at_call 24; go_must (refine AK.out.mono ?_; rintro e w5 ⟨rfl, hK3, hg3, -⟩; dsimp only))
    go_ret
    exact ⟨rfl, hg3, hK3⟩
end Go.Proofs.YtcgplocmncionaaGreat
namespace Go.Proofs.YtcgplocmncionaaGreat
open Go Go.RowKit Go.Shelf

theorem SEnter2_any (a1 a2 a3 a4 a5 : Option Addr) (k1 k2 k3 k4 k5 : Nat) (r : SeRoom) (n : Int) (below : Nat) (W : World) (hm : RoomC W a1 a2 a3 a4 a5 k1 k2 k3 k4 k5 r) (hl : below ≤ 9223372036854775807) :
    Calls Tryz.prog 23 #[(.agg #[.slice a1 r.writers.length k1, .slice a2 r.kept.length k2, .slice a3 r.leaks.length k3, .slice a4 r.letters.length k4, .slice a5 r.heard.length k5]), .int .i64 0, .slice (some ⟨W.heap.size, 0, none⟩) 2 2] (W.alloc (.cells #[.int .i64 n, .int .i64 (below : Int)] 3)) fun e w' => ∃ v, e = .returned (.tuple #[v, .int .i64 (knownErr r (indexErr r n below))]) ∧ EnterV W w' v (knownErr r (indexErr r n below)) a1 a2 a3 a4 a5 k1 k2 k3 k4 k5 r ∧ Below W.heap.size W w' := by
  have hb := (Below.refl _ W).alloc (Nat.le_refl _) (.cells #[.int .i64 n, .int .i64 (below : Int)] 3)
  have EN := SEnter_any a1 a2 a3 a4 a5 k1 k2 k3 k4 k5 r 0 (some ⟨W.heap.size, 0, none⟩) [n, (below : Int)] 2 _ (hm.mono hb) ⟨by simp, by omega, by simp⟩ (two_intsC W n below 3) (by simp) (by simp) (fun j h h1 => by
    have e : j = 1 := by simp at h; omega
    subst e
    exact ⟨by simp, by simp only [List.getElem_cons_succ, List.getElem_cons_zero]; omega⟩)
  rw [enterErr_one] at EN
  exact EN.mono fun e w' ⟨v, h1, h2, h3⟩ => ⟨v, h1, ⟨fun h => by obtain ⟨bm, bo, g1, g2, g3⟩ := h2.1 h; exact ⟨bm, bo, g1, g2, by simp at g3; omega⟩, h2.2⟩, hb.trans (h3.mono hb.size)⟩
theorem index_valid {r : SeRoom} {n : Int} {below : Nat} (h : knownErr r (indexErr r n below) = 0) : SeValid r ∧ 0 ≤ n ∧ n < below := by
  unfold knownErr indexErr at h
  by_cases h2 : seErr r = 0
  · cases hi : inB n 0 ((below : Int) - 1)
    · rw [hi] at h; simp [h2] at h
    · have := inB_iff.1 hi; exact ⟨seValid_of h2, by omega, by omega⟩
  · simp [h2] at h
theorem cut_no {r : SeRoom} {s : Int} (h : cutErr r s ≠ 0) : cutOf r s = ([], cutErr r s) := by rw [cutOf_hid, if_neg h]
theorem cutSo_bits {r : SeRoom} (hv : SeValid r) (s set : Nat) : cutSo r s (bitsList set r.leaks.length) = (truthsP r 0).all (keptLess r s set) := by
  unfold cutSo keepsB lessOf
  rw [List.all_map]
  show (seTruths r []).all (fun t => keepsIn r r.letters s (t.filter fun x => !hasB (bitsList set r.leaks.length) x)) = _
  rw [truths_all]
  congr 1
  funext x
  rw [bits_less x set r.leaks.length hv.nl]
  rfl
theorem cut_yes {r : SeRoom} {s : Nat} (h : cutErr r s = 0) (hv : SeValid r) {best : List Int} {found : Bool} (hf : Found r.leaks.length (fun set => (truthsP r 0).all (keptLess r s set)) (2 ^ r.leaks.length) best found) : cutOf r s = if found then (best, 0) else ([], 9) := by
  rw [cutOf_hid, if_pos h]
  have e : (fun set => (truthsP r 0).all (keptLess r s set)) = fun set => cutSo r s (bitsList set r.leaks.length) := funext fun set => (cutSo_bits hv s set).symm
  rw [e] at hf
  simp only [Int.toNat_natCast]
  rw [found_search hf]
  cases found <;> rfl

set_option maxRecDepth 100000 in
set_option maxHeartbeats 2000000 in
theorem SCut_any (a1 a2 a3 a4 a5 : Option Addr) (k1 k2 k3 k4 k5 : Nat) (r : SeRoom) (s : Int) (w : World) (hm : RoomC w a1 a2 a3 a4 a5 k1 k2 k3 k4 k5 r) :
    Calls Tryz.prog 38 #[(.agg #[.slice a1 r.writers.length k1, .slice a2 r.kept.length k2, .slice a3 r.leaks.length k3, .slice a4 r.letters.length k4, .slice a5 r.heard.length k5]), .int .i64 s] w fun e w' => ∃ v, e = .returned (.tuple #[v, .int .i64 (cutOf r s).2]) ∧ IntsV w' v (cutOf r s).1 ∧ Below w.heap.size w w' := by
  have l2 := hm.ok2.len
  have l3 := hm.ok3.len
  have hQ := Below.refl (w.heap.size + 1) (w.alloc (.cells #[.slice a1 r.writers.length k1, .slice a2 r.kept.length k2, .slice a3 r.leaks.length k3, .slice a4 r.letters.length k4, .slice a5 r.heard.length k5] 28))
  obtain ⟨Y, hY⟩ : ∃ Y : World, Y = (w.alloc (.cells #[.slice a1 r.writers.length k1, .slice a2 r.kept.length k2, .slice a3 r.leaks.length k3, .slice a4 r.letters.length k4, .slice a5 r.heard.length k5] 28)).alloc (.cells #[.int .i64 s] 3) := ⟨_, rfl⟩
  have hYs : Y.heap.size = w.heap.size + 1 + 1 := by rw [hY]; simp
  have hQ2 : Below (w.heap.size + 1) (w.alloc (.cells #[.slice a1 r.writers.length k1, .slice a2 r.kept.length k2, .slice a3 r.leaks.length k3, .slice a4 r.letters.length k4, .slice a5 r.heard.length k5] 28)) Y := by rw [hY]; exact hQ.alloc (by simp) _
  have hA1 : Y.heap[w.heap.size + 1]? = some (.cells #[.int .i64 s] 3 (0, 0)) := by rw [hY]; exact alloc_at _ _ (by simp)
  have EN2 := SEnter2_any a1 a2 a3 a4 a5 k1 k2 k3 k4 k5 r s r.kept.length Y (hm.mono (box_old hQ2)) l2
  change Calls _ _ _ _ (fun e w' => ∃ v, e = .returned (.tuple #[v, .int .i64 (cutErr r s)]) ∧ EnterV _ w' v (cutErr r s) a1 a2 a3 a4 a5 k1 k2 k3 k4 k5 r ∧ Below _ _ w') at EN2
  have HV := Lib.hid (fun h : cutErr r s = 0 => index_valid h)
  have HTN := Lib.hid (fun h => cut_no (r := r) (s := s) h)
  have x0 := box_cell hQ2 0 _ rfl
  have x1 := box_cell hQ2 1 _ rfl
  have x2 := box_cell hQ2 2 _ rfl
  have x3 := box_cell hQ2 3 _ rfl
  have x4 := box_cell hQ2 4 _ rfl
  have xz := box_size hQ2
  have y1 := blk_cell 0 hA1 rfl
  simp only [List.getElem_toArray, List.getElem_cons_zero] at y1
  have z1 := lt_of_block hA1
  have hw2 := (box_old hQ2).size
  by_cases her : cutErr r s = 0
  · obtain ⟨hv, hs0, hs1⟩ := HV.out her
    obtain ⟨sc, rfl⟩ : ∃ sc : Nat, s = sc := ⟨s.toNat, by omega⟩
    have HTY := Lib.hid (fun (best : List Int) (found : Bool) hf => cut_yes her hv (best := best) (found := found) hf)
    generalize cutErr r sc = er at her EN2
    generalize cutOf r sc = res at HTY ⊢
    have HER := Lib.hid her
    have g1 := nei_f her
    have EN2 := Lib.hid EN2
    have vk := hv.nk
    have v3 := hv.nl
    clear her HV HTN
    go_enter Tryz.func38, Tryz.ntmps38
    go_upto_region 1 with (fail)
    rw [← hY]
    clear hY
    replace hYs := Lib.hid hYs
    go_upto_region 4 with (go_at_call 23; go_must (refine EN2.out.mono ?_; rintro e w3 ⟨v3, rfl, h3, hb3⟩; obtain ⟨bm, bo, rfl, hR, hbo⟩ := h3.1 HER.out; dsimp only))
    obtain ⟨Z, hZ⟩ : ∃ Z : World, Z = w3.alloc (.cells #[.pointer (some ⟨bm, 0, none⟩)] 62) := ⟨_, rfl⟩
    rw [← hZ]
    have hB3 : Below Y.heap.size Y Z := by rw [hZ]; exact hb3.alloc hb3.size _
    have hKN : KeepN w Z bm bo a1 a2 a3 a4 a5 k1 k2 k3 k4 k5 r := ⟨by rw [hZ]; exact hR.below ((Below.refl _ _).alloc (Nat.le_refl _) _), (box_old hQ2).trans (hB3.mono hw2)⟩
    have hA0 : Z.heap[w3.heap.size]? = some (.cells #[.pointer (some ⟨bm, 0, none⟩)] 62 (0, 0)) := by rw [hZ]; exact alloc_at _ _ rfl
    have hQ3 : Below (w.heap.size + 1) (w.alloc (.cells #[.slice a1 r.writers.length k1, .slice a2 r.kept.length k2, .slice a3 r.leaks.length k3, .slice a4 r.letters.length k4, .slice a5 r.heard.length k5] 28)) Z := box_on hQ2 hB3
    clear hZ
    replace hA1 := (hB3.block _ (lt_of_block hA1)).trans hA1
    have hl0 := lt_of_block hA0
    have hl1 := lt_of_block hA1
    have hbml := hKN.1.bm_lt
    have hbol := hKN.1.bo_lt
    have hw3 := hKN.2.size
    have hw33 := hb3.size
    have FW := MFewestG_any r.leaks.length 72 (by omega) #[.pointer (some ⟨w3.heap.size, 0, none⟩), .pointer (some ⟨w.heap.size + 1, 0, none⟩)] (fun set => (truthsP r 0).all (keptLess r sc set)) Z (some bo) (fun q e => by have := Option.some.inj e; omega)
      (fun W => CutI w W bm bo w3.heap.size (w.heap.size + 1) sc a1 a2 a3 a4 a5 k1 k2 k3 k4 k5 r)
      (fun A A' h hb => h.belowB hm hb h.1.2.size h.1.1.bm_lt h.1.1.bo_lt (lt_of_block h.2.1) (lt_of_block h.2.2)) ⟨hKN, hA0, hA1⟩
      (enters_of Tryz.func72 (by kernel_rfl) rfl)
      (fun set W hset hz hI => SCut1_any a1 a2 a3 a4 a5 k1 k2 k3 k4 k5 r bm bo sc set w3.heap.size (w.heap.size + 1) w W hm hI (by omega) hv (by have := two_pow_le4 r.leaks.length v3; omega) (by omega))
    have FW := Lib.hid FW
    clear x0 x1 x2 x3 x4 xz y1 z1
    have x0 := box_cell hQ3 0 _ rfl
    have x1 := box_cell hQ3 1 _ rfl
    have x2 := box_cell hQ3 2 _ rfl
    have x3 := box_cell hQ3 3 _ rfl
    have x4 := box_cell hQ3 4 _ rfl
    have xz := box_size hQ3
    go_upto_region 5 with (go_at_call 67; go_must (refine FW.out.mono ?_; rintro e w5 ⟨v, best, found, rfl, hv3, hf3, hg3, hI3⟩; dsimp only))
    have HR := Lib.hid (HTY.out best found hf3.out)
    cases found
    · go_wp2
      go_ret2
      have hr := HR.out
      subst hr
      exact ⟨_, rfl, ⟨none, 0, rfl, ⟨by simp, by omega, fun _ => rfl⟩, IntsC.nil _ _⟩, hI3.1.2⟩
    · go_wp2
      go_ret2
      have hr := HR.out
      subst hr
      exact ⟨v, rfl, hv3.val, hI3.1.2⟩
  · replace HTN := Lib.hid (HTN.out her)
    generalize cutErr r s = er at her EN2 HTN
    generalize cutOf r s = res at HTN ⊢
    have HER := Lib.hid her
    have g1 := nei_t her
    have EN2 := Lib.hid EN2
    clear her HV
    go_enter Tryz.func38, Tryz.ntmps38
    go_upto_region 1 with (fail)
    rw [← hY]
    clear hY
    replace hYs := Lib.hid hYs
    go_wp2_with (go_at_call 23; go_must (refine EN2.out.mono ?_; rintro e w3 ⟨v3, rfl, h3, hb3⟩; obtain rfl := h3.2 HER.out; dsimp only))
    go_ret2
    have hr := HTN.out
    subst hr
    exact ⟨_, rfl, ⟨none, 0, rfl, ⟨by simp, by omega, fun _ => rfl⟩, IntsC.nil _ _⟩, ((box_old hQ2).trans (hb3.mono hw2)).alloc (Nat.le_trans hw2 hb3.size) _⟩
end Go.Proofs.YtcgplocmncionaaGreat
