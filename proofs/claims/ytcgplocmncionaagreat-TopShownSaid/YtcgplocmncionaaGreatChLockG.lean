/- What is proved here: the contracts of what Key, Why, Lock and Least ask of a set. Conditions: the chest is looked at and valid; the captured cells lie in memory. -/
/- What is proved here: the contracts of Lock, Why and Least of layer 10, at a chest in which nothing is wrong and numbers that are in order. Conditions: they lie in memory. -/
import Derived.Test.YtcgplocmncionaaGreatChFindG
import Derived.Test.YtcgplocmncionaaGreatChCheck
import Derived.Deep.RegionHeld3
import Derived.Test.YtcgplocmncionaaGreatChAsk
import Derived.Test.YtcgplocmncionaaGreatChFirst
set_option linter.unusedVariables false
set_option linter.unusedSimpArgs false
namespace Go.Proofs.YtcgplocmncionaaGreat
open Go Go.RowKit Go.Shelf

theorem minus_is : ∀ a : Nat, a < 64 → ∀ b : Nat, b < 64 → bits BinOp.andNot IntKind.i64 (a : Int) (b : Int) = (minusN a b : Int) := by decide +kernel
theorem minus_lt : ∀ a : Nat, a < 64 → ∀ b : Nat, b < 64 → minusN a b < 64 := by decide +kernel
theorem bit_zeroC : ∀ c : Nat, c < 64 → ∀ k : Nat, k < 7 → (bits BinOp.and IntKind.i64 ((c : Int) / 2 ^ k) 1 == 0) = !c.testBit k := by decide +kernel
/-- What a closure of layer 10 reads. -/
def CloS (w V : World) (bo p1 p2 p3 bm : Nat) (x y : Int) : Prop := w.grownBy V (some bo) ∧ V.cell? ⟨p1, 0, none⟩ = some (.pointer (some ⟨bm, 0, none⟩)) ∧ V.cell? ⟨p2, 0, none⟩ = some (.int .i64 x) ∧ V.cell? ⟨p3, 0, none⟩ = some (.int .i64 y) ∧ p1 < V.heap.size ∧ p2 < V.heap.size ∧ p3 < V.heap.size
theorem CloS.of {w V : World} {bm bo p1 p2 p3 : Nat} {x y : Int} {ap ac ar : Option Addr} {kp kc kr : Nat} {c : ChH} (hm : ChestW w bm bo ap ac ar kp kc kr c) (hg : w.grownBy V (some bo)) (c1 : w.cell? ⟨p1, 0, none⟩ = some (.pointer (some ⟨bm, 0, none⟩))) (c2 : w.cell? ⟨p2, 0, none⟩ = some (.int .i64 x)) (c3 : w.cell? ⟨p3, 0, none⟩ = some (.int .i64 y)) : CloS w V bo p1 p2 p3 bm x y := by
  have hk := hm.keeps hg
  exact ⟨hg, hk.2 _ _ c1, hk.2 _ _ c2, hk.2 _ _ c3, Nat.lt_of_lt_of_le (lt_of_cell c1) hk.1, Nat.lt_of_lt_of_le (lt_of_cell c2) hk.1, Nat.lt_of_lt_of_le (lt_of_cell c3) hk.1⟩
set_option maxRecDepth 100000 in
set_option maxHeartbeats 1000000 in
theorem CLock1_any (ap ac ar : Option Addr) (kp kc kr : Nat) (c : ChH) (bm bo s all fact p1 p2 p3 : Nat) (w : World) (hm : ChestW w bm bo ap ac ar kp kc kr c) (hv : ChValid c) (hs : s < 64) (hall : all < 64) (hf : fact < 6)
    (c1 : w.cell? ⟨p1, 0, none⟩ = some (.pointer (some ⟨bm, 0, none⟩))) (c2 : w.cell? ⟨p2, 0, none⟩ = some (.int .i64 (all : Int))) (c3 : w.cell? ⟨p3, 0, none⟩ = some (.int .i64 (fact : Int))) :
    Calls Tryz.prog 46 #[.int .i64 (s : Int), .pointer (some ⟨p1, 0, none⟩), .pointer (some ⟨p2, 0, none⟩), .pointer (some ⟨p3, 0, none⟩)] w fun e w' => e = .returned (.bool (!(tellN c (minusN all s)).testBit fact)) ∧ w.grownBy w' (some bo) ∧ ChestW w' bm bo ap ac ar kp kc kr c := by
  have hma := minus_is all hall s hs
  have hml := minus_lt all hall s hs
  have htl := tell_lt64 hv (minusN all s)
  have hbz := bit_zeroC _ htl fact (by omega)
  have TE := fun (V : World) (hV : ChestW V bm bo ap ac ar kp kc kr c) => CTellN_any ap ac ar kp kc kr c bm bo (minusN all s) V hV hv hml
  generalize minusN all s = ms at hma hml htl hbz TE ⊢
  generalize tellN c ms = tn at htl hbz TE ⊢
  generalize tn.testBit fact = tb at hbz ⊢
  have TE := Lib.hid TE
  have hf64 : (fact : Int) < 64 := by omega
  have KE : Hid (∀ V, w.grownBy V (some bo) → CloS w V bo p1 p2 p3 bm all fact) := Lib.hid (fun V hg => CloS.of hm hg c1 c2 c3)
  have HM := Lib.hid hm
  go_enter Tryz.func46, Tryz.ntmps46
  go_upto_region 1 with (fail)
  apply wp_mid _ (fun V => w.grownBy V (some bo) ∧ ChestW V bm bo ap ac ar kp kc kr c)
  · have hg0 : w.grownBy w.drew (some bo) := grown_below (below_drew' (Below.refl _ _))
    have hR0 := HM.out.below (below_drew' (Below.refl _ _))
    go_region_held3 (fun V => w.grownBy V (some bo) ∧ V.cell? ⟨p1, 0, none⟩ = some (.pointer (some ⟨bm, 0, none⟩)) ∧ V.cell? ⟨p2, 0, none⟩ = some (.int .i64 (all : Int)) ∧ V.cell? ⟨p3, 0, none⟩ = some (.int .i64 (fact : Int)) ∧ p1 < V.heap.size ∧ p2 < V.heap.size ∧ p3 < V.heap.size) (first | exact KE.out _ hg0 | exact KE.out _ hg1) (first
      | (go_at_call 44; refine (TE.out _ (by assumption)).mono ?_; rintro e w2 ⟨rfl, hgs, hR1⟩; have hg1 := grown_trans hg0 hgs; dsimp only))
    exact ⟨rfl, hg1, hR1⟩
  rintro V ⟨hgV, hRV⟩
  go_wp2
  go_ret
  exact ⟨ret_bool (by first | exact hbz | rfl), hgV, hRV⟩
set_option maxRecDepth 100000 in
set_option maxHeartbeats 1000000 in
theorem CWhy1_any (ap ac ar : Option Addr) (kp kc kr : Nat) (c : ChH) (bm bo s fact p1 p3 : Nat) (w : World) (hm : ChestW w bm bo ap ac ar kp kc kr c) (hv : ChValid c) (hs : s < 64) (hf : fact < 6)
    (c1 : w.cell? ⟨p1, 0, none⟩ = some (.pointer (some ⟨bm, 0, none⟩))) (c3 : w.cell? ⟨p3, 0, none⟩ = some (.int .i64 (fact : Int))) :
    Calls Tryz.prog 62 #[.int .i64 (s : Int), .pointer (some ⟨p1, 0, none⟩), .pointer (some ⟨p3, 0, none⟩)] w fun e w' => e = .returned (.bool ((tellN c s).testBit fact)) ∧ w.grownBy w' (some bo) ∧ ChestW w' bm bo ap ac ar kp kc kr c := by
  have htl := tell_lt64 hv s
  have hbz := bit_and _ htl fact (by omega)
  have TE := fun (V : World) (hV : ChestW V bm bo ap ac ar kp kc kr c) => CTellN_any ap ac ar kp kc kr c bm bo s V hV hv hs
  generalize tellN c s = tn at htl hbz TE ⊢
  generalize tn.testBit fact = tb at hbz ⊢
  have TE := Lib.hid TE
  have hf64 : (fact : Int) < 64 := by omega
  have KE : Hid (∀ V, w.grownBy V (some bo) → CloS w V bo p1 p3 p3 bm fact fact) := Lib.hid (fun V hg => CloS.of hm hg c1 c3 c3)
  have HM := Lib.hid hm
  go_enter Tryz.func62, Tryz.ntmps62
  go_upto_region 1 with (fail)
  apply wp_mid _ (fun V => w.grownBy V (some bo) ∧ ChestW V bm bo ap ac ar kp kc kr c)
  · have hg0 : w.grownBy w.drew (some bo) := grown_below (below_drew' (Below.refl _ _))
    have hR0 := HM.out.below (below_drew' (Below.refl _ _))
    go_region_held3 (fun V => w.grownBy V (some bo) ∧ V.cell? ⟨p1, 0, none⟩ = some (.pointer (some ⟨bm, 0, none⟩)) ∧ V.cell? ⟨p3, 0, none⟩ = some (.int .i64 (fact : Int)) ∧ V.cell? ⟨p3, 0, none⟩ = some (.int .i64 (fact : Int)) ∧ p1 < V.heap.size ∧ p3 < V.heap.size ∧ p3 < V.heap.size) (first | exact KE.out _ hg0 | exact KE.out _ hg1) (first
      | (go_at_call 44; refine (TE.out _ (by assumption)).mono ?_; rintro e w2 ⟨rfl, hgs, hR1⟩; have hg1 := grown_trans hg0 hgs; dsimp only))
    exact ⟨rfl, hg1, hR1⟩
  rintro V ⟨hgV, hRV⟩
  go_wp2
  go_ret
  exact ⟨ret_bool (by first | exact hbz | rfl), hgV, hRV⟩
set_option maxRecDepth 100000 in
set_option maxHeartbeats 1000000 in
theorem CLeast1_any (ap ac ar : Option Addr) (kp kc kr : Nat) (c : ChH) (bm bo s all p1 p2 : Nat) (w : World) (hm : ChestW w bm bo ap ac ar kp kc kr c) (hv : ChValid c) (hs : s < 64) (hall : all < 64)
    (c1 : w.cell? ⟨p1, 0, none⟩ = some (.pointer (some ⟨bm, 0, none⟩))) (c2 : w.cell? ⟨p2, 0, none⟩ = some (.int .i64 (all : Int))) :
    Calls Tryz.prog 63 #[.int .i64 (s : Int), .pointer (some ⟨p1, 0, none⟩), .pointer (some ⟨p2, 0, none⟩)] w fun e w' => e = .returned (.bool (tellN c s == tellN c all)) ∧ w.grownBy w' (some bo) ∧ ChestW w' bm bo ap ac ar kp kc kr c := by
  have TE := fun (V : World) (hV : ChestW V bm bo ap ac ar kp kc kr c) => CTellN_any ap ac ar kp kc kr c bm bo s V hV hv hs
  have TA := fun (V : World) (hV : ChestW V bm bo ap ac ar kp kc kr c) => CTellN_any ap ac ar kp kc kr c bm bo all V hV hv hall
  generalize tellN c s = t1 at TE ⊢
  generalize tellN c all = t2 at TA ⊢
  have hbz : ((t1 : Int) == (t2 : Int)) = (t1 == t2) := by
    by_cases h : t1 = t2
    · rw [h]; simp
    · rw [eqn_f h]; simp [h]
  generalize (t1 == t2) = tb at hbz ⊢
  have TE := Lib.hid TE
  have TA := Lib.hid TA
  have KE : Hid (∀ V, w.grownBy V (some bo) → CloS w V bo p1 p2 p2 bm all all) := Lib.hid (fun V hg => CloS.of hm hg c1 c2 c2)
  have HM := Lib.hid hm
  go_enter Tryz.func63, Tryz.ntmps63
  go_upto_region 1 with (fail)
  apply wp_mid _ (fun V => w.grownBy V (some bo) ∧ ChestW V bm bo ap ac ar kp kc kr c)
  · have hg0 : w.grownBy w.drew (some bo) := grown_below (below_drew' (Below.refl _ _))
    have hR0 := HM.out.below (below_drew' (Below.refl _ _))
    go_region_held3 (fun V => w.grownBy V (some bo) ∧ V.cell? ⟨p1, 0, none⟩ = some (.pointer (some ⟨bm, 0, none⟩)) ∧ V.cell? ⟨p2, 0, none⟩ = some (.int .i64 (all : Int)) ∧ V.cell? ⟨p2, 0, none⟩ = some (.int .i64 (all : Int)) ∧ p1 < V.heap.size ∧ p2 < V.heap.size ∧ p2 < V.heap.size) (exact KE.out _ (by assumption)) (first
      | (go_at_call 44; (with_reducible refine (TE.out _ (by assumption)).mono ?_); rintro e w2 ⟨rfl, hgs, hR1⟩; have hg1 := grown_trans (by assumption) hgs; dsimp only)
      | (go_at_call 44; (with_reducible refine (TA.out _ (by assumption)).mono ?_); rintro e w2 ⟨rfl, hgs, hR1⟩; have hg1 := grown_trans (by assumption) hgs; dsimp only))
    all_goals exact ⟨rfl, hg1, hR1⟩
  rintro V ⟨hgV, hRV⟩
  go_wp2
  go_ret
  exact ⟨ret_bool (by first | exact hbz | rfl), hgV, hRV⟩
set_option maxRecDepth 100000 in
set_option maxHeartbeats 1000000 in
theorem CKey2_any (ap ac ar : Option Addr) (kp kc kr : Nat) (c : ChH) (bm bo s p at_ p1 p2 p3 : Nat) (w : World) (hm : ChestW w bm bo ap ac ar kp kc kr c) (hv : ChValid c) (hs : s < 64) (hp : p < c.people.length) (hat : at_ < 6)
    (c1 : w.cell? ⟨p1, 0, none⟩ = some (.pointer (some ⟨bm, 0, none⟩))) (c2 : w.cell? ⟨p2, 0, none⟩ = some (.int .i64 (p : Int))) (c3 : w.cell? ⟨p3, 0, none⟩ = some (.int .i64 (at_ : Int))) :
    Calls Tryz.prog 61 #[.int .i64 (s : Int), .pointer (some ⟨p1, 0, none⟩), .pointer (some ⟨p2, 0, none⟩), .pointer (some ⟨p3, 0, none⟩)] w fun e w' => e = .returned (.bool (findN c p s == 2 ^ at_)) ∧ w.grownBy w' (some bo) ∧ ChestW w' bm bo ap ac ar kp kc kr c := by
  have FI := fun (V : World) (hV : ChestW V bm bo ap ac ar kp kc kr c) => (CFindN_any ap ac ar kp kc kr c bm bo p s V hV hv hp hs).mono (fun e w' h => show e = _ ∧ V.grownBy w' (some bo) ∧ ChestW w' bm bo ap ac ar kp kc kr c from ⟨h.1, by rw [h.2]; exact World.grownBy.refl _ _, by rw [h.2]; exact hV⟩)
  generalize findN c p s = fn at FI ⊢
  have hw := two_pow_wrapI at_ (by omega)
  have hbz : ((fn : Int) == ((2 ^ at_ : Nat) : Int)) = (fn == 2 ^ at_) := by
    by_cases h : fn = 2 ^ at_
    · rw [h]; simp
    · rw [eqn_f h]; simp [h]
  generalize (fn == 2 ^ at_) = tb at hbz ⊢
  have hw2 := two_pow_wrap6 at_ (by omega)
  generalize ((2 ^ at_ : Nat) : Int) = Q at hw hw2 hbz
  have FI := Lib.hid FI
  have ha64 : (at_ : Int) < 64 := by omega
  have KE : Hid (∀ V, w.grownBy V (some bo) → CloS w V bo p1 p2 p3 bm p at_) := Lib.hid (fun V hg => CloS.of hm hg c1 c2 c3)
  have HM := Lib.hid hm
  go_enter Tryz.func61, Tryz.ntmps61
  go_upto_region 1 with (fail)
  apply wp_mid _ (fun V => w.grownBy V (some bo) ∧ ChestW V bm bo ap ac ar kp kc kr c)
  · have hg0 : w.grownBy w.drew (some bo) := grown_below (below_drew' (Below.refl _ _))
    have hR0 := HM.out.below (below_drew' (Below.refl _ _))
    go_region_held3 (fun V => w.grownBy V (some bo) ∧ V.cell? ⟨p1, 0, none⟩ = some (.pointer (some ⟨bm, 0, none⟩)) ∧ V.cell? ⟨p2, 0, none⟩ = some (.int .i64 (p : Int)) ∧ V.cell? ⟨p3, 0, none⟩ = some (.int .i64 (at_ : Int)) ∧ p1 < V.heap.size ∧ p2 < V.heap.size ∧ p3 < V.heap.size) (first | exact KE.out _ hg0 | exact KE.out _ hg1) (first
      | (go_at_call 43; refine (FI.out _ (by assumption)).mono ?_; rintro e w2 ⟨rfl, hgs, hR1⟩; have hg1 := grown_trans hg0 hgs; dsimp only))
    exact ⟨rfl, hg1, hR1⟩
  rintro V ⟨hgV, hRV⟩
  go_wp2
  go_ret
  exact ⟨ret_bool (by first | exact hbz | rfl), hgV, hRV⟩
end Go.Proofs.YtcgplocmncionaaGreat
namespace Go.Proofs.YtcgplocmncionaaGreat
open Go Go.RowKit Go.Shelf

theorem numbersN_lt {s : Nat} (h : s < 64) : (∀ x ∈ numbersN s, x < 6) ∧ (numbersN s).length ≤ 6 := by
  have h1 : ∀ x ∈ numbersN s, x < 6 := fun x hx => by
    have h2 := (List.mem_filter.1 hx).2
    rcases Nat.lt_or_ge x 6 with h3 | h3
    · exact h3
    · rw [Nat.testBit_lt_two_pow (Nat.lt_of_lt_of_le h (show 2 ^ 6 ≤ 2 ^ x from Nat.pow_le_pow_right (by decide) h3))] at h2
      cases h2
  exact ⟨h1, nodup_lt 6 _ (List.filter_sublist.nodup List.nodup_range) h1⟩
theorem FirstV.weak {w w0 W : World} {v : Value} {o : Option Nat} (h : FirstV w W v o) (hz : w0.heap.size ≤ w.heap.size) : FirstV w0 W v o := by
  cases o with
  | none => exact h
  | some s => exact IntsN.weak h hz
set_option maxRecDepth 100000 in
set_option maxHeartbeats 2000000 in
theorem CLock_any (ap ac ar : Option Addr) (kp kc kr : Nat) (c : ChH) (p fact : Nat) (w : World) (hm : ChestC w ap ac ar kp kc kr c) (hv : ChValid c) (hp : p < c.people.length) (hf : (fact : Int) < c.facts) :
    Calls Tryz.prog 12 #[(.agg #[.int .i64 c.words, .int .i64 c.facts, .slice ap c.people.length kp, .int .i64 c.last, .slice ac c.copies.length kc, .slice ar c.rules.length kr]), .int .i64 (p : Int), .int .i64 (fact : Int)] w fun e w' => ∃ v, e = .returned (.tuple #[v, .int .i64 0]) ∧ FirstV w w' v (lockN c p fact) ∧ Below w.heap.size w w' := by
  have l1 := hm.okp.len
  have np3 := hv.np
  have hf6 := hv.facts
  have HLK : Hid (lockN c p fact = firstN (numbersN (viewN c p)) fun set => !(tellN c (minusN (viewN c p) set)).testBit fact) := Lib.hid rfl
  generalize lockN c p fact = res at HLK ⊢
  have hQ := Below.refl (w.heap.size + 1) (w.alloc (.cells #[.int .i64 c.words, .int .i64 c.facts, .slice ap c.people.length kp, .int .i64 c.last, .slice ac c.copies.length kc, .slice ar c.rules.length kr] 41))
  have hQ1 := hQ.alloc (by simp) (.cells #[.int .i64 (fact : Int)] 3)
  have hQ3 := hQ1.alloc (by simp) (.cells #[.int .i64 (p : Int), .int .i64 c.people.length, .int .i64 (fact : Int), .int .i64 c.facts] 3)
  have hI3 : IntsC (((w.alloc (.cells #[.int .i64 c.words, .int .i64 c.facts, .slice ap c.people.length kp, .int .i64 c.last, .slice ac c.copies.length kc, .slice ar c.rules.length kr] 41)).alloc (.cells #[.int .i64 (fact : Int)] 3)).alloc (.cells #[.int .i64 (p : Int), .int .i64 c.people.length, .int .i64 (fact : Int), .int .i64 c.facts] 3)) (some ⟨w.heap.size + 1 + 1, 0, none⟩) [(p : Int), c.people.length, fact, c.facts] := by
    have := four_intsC ((w.alloc (.cells #[.int .i64 c.words, .int .i64 c.facts, .slice ap c.people.length kp, .int .i64 c.last, .slice ac c.copies.length kc, .slice ar c.rules.length kr] 41)).alloc (.cells #[.int .i64 (fact : Int)] 3)) p c.people.length fact c.facts 3
    rwa [show ((w.alloc (.cells #[.int .i64 c.words, .int .i64 c.facts, .slice ap c.people.length kp, .int .i64 c.last, .slice ac c.copies.length kc, .slice ar c.rules.length kr] 41)).alloc (.cells #[.int .i64 (fact : Int)] 3)).heap.size = w.heap.size + 1 + 1 by simp] at this
  have EN := Lib.hid (CEnter_any ap ac ar kp kc kr c (some ⟨w.heap.size + 1 + 1, 0, none⟩) [(p : Int), c.people.length, fact, c.facts] 4 _ (hm.mono (box_old hQ3)) hv ⟨by simp, by omega, by simp⟩ hI3 (by simp) (by simp) (fun j h hj => by
    have e : j = 0 ∨ j = 2 := by simp at h; omega
    rcases e with rfl | rfl
    · simp only [List.getElem_cons_succ, List.getElem_cons_zero]; omega
    · simp only [List.getElem_cons_succ, List.getElem_cons_zero]; omega))
  have hF0 : ((w.alloc (.cells #[.int .i64 c.words, .int .i64 c.facts, .slice ap c.people.length kp, .int .i64 c.last, .slice ac c.copies.length kc, .slice ar c.rules.length kr] 41)).alloc (.cells #[.int .i64 (fact : Int)] 3)).heap[w.heap.size + 1]? = some (.cells #[.int .i64 (fact : Int)] 3 (0, 0)) := alloc_at _ _ (by simp)
  have hF3 := (heap_alloc_old ((w.alloc (.cells #[.int .i64 c.words, .int .i64 c.facts, .slice ap c.people.length kp, .int .i64 c.last, .slice ac c.copies.length kc, .slice ar c.rules.length kr] 41)).alloc (.cells #[.int .i64 (fact : Int)] 3)) (.cells #[.int .i64 (p : Int), .int .i64 c.people.length, .int .i64 (fact : Int), .int .i64 c.facts] 3) (by simp)).trans hF0
  clear hI3 hF0
  obtain ⟨x0, x1, x2, x3, x4, x5, xz⟩ := box_chest hQ
  go_enter Tryz.func12, Tryz.ntmps12
  go_upto_region 4 with (go_at_call 40; go_must (refine EN.out.mono ?_; rintro e w2 ⟨bm, bo, rfl, hR, hb2, hbo⟩; dsimp only))
  obtain ⟨Y, hY⟩ : ∃ Y : World, Y = w2.alloc (.cells #[.pointer (some ⟨bm, 0, none⟩)] 89) := ⟨_, rfl⟩
  rw [← hY]
  have hb2' := hQ3.trans (hb2.mono (by simp))
  have hbY : Below w.heap.size w Y := by rw [hY]; exact (box_old hb2').alloc (box_old hb2').size _
  have hRY : ChestW Y bm bo ap ac ar kp kc kr c := by rw [hY]; exact hR.below ((Below.refl _ _).alloc (Nat.le_refl _) _)
  have hPY : Y.heap[w2.heap.size]? = some (.cells #[.pointer (some ⟨bm, 0, none⟩)] 89 (0, 0)) := by rw [hY]; exact alloc_at _ _ rfl
  have hF2 : w2.heap[w.heap.size + 1]? = some (.cells #[.int .i64 (fact : Int)] 3 (0, 0)) := (hb2.block _ (by simp)).trans hF3
  have hFY : Y.heap[w.heap.size + 1]? = some (.cells #[.int .i64 (fact : Int)] 3 (0, 0)) := by rw [hY]; exact (heap_alloc_old _ _ (lt_of_block hF2)).trans hF2
  clear hY x0 x1 x2 x3 x4 x5 xz hQ hQ1 hQ3 hb2 hb2' hF2 hF3 hR
  have hvl := vw_lt hv p
  have yv := hRY.blk.view (p := p) (by omega)
  rw [vw_is hp] at yv hvl
  obtain ⟨all, hall⟩ : ∃ all, all = viewN c p := ⟨_, rfl⟩
  rw [← hall] at yv hvl HLK
  clear hall
  have yz := hRY.bm_lt
  have q0 := blk_cell 0 hPY rfl
  have qz := lt_of_block hPY
  simp only [List.getElem_toArray, List.getElem_cons_zero] at q0
  have hp3 : (p : Int) < 3 := by omega
  go_upto_region 5 with (fail)
  obtain ⟨Z, hZ⟩ : ∃ Z : World, Z = Y.alloc (.cells #[.int .i64 (all : Int)] 3) := ⟨_, rfl⟩
  rw [← hZ]
  have hbYZ : Below Y.heap.size Y Z := by rw [hZ]; exact (Below.refl _ _).alloc (Nat.le_refl _) _
  have hAZ : Z.heap[Y.heap.size]? = some (.cells #[.int .i64 (all : Int)] 3 (0, 0)) := by rw [hZ]; exact alloc_at _ _ rfl
  have hbZ := hbY.trans (hbYZ.mono hbY.size)
  have hRZ := hRY.below hbYZ
  have hPZ := (hbYZ.block _ (lt_of_block hPY)).trans hPY
  have hFZ := (hbYZ.block _ (lt_of_block hFY)).trans hFY
  clear hZ hbYZ hbY hRY hPY hFY yv yz q0 qz
  have LI := Lib.hid (fun W : World => CList_any all hvl W)
  have hnum := numbersN_lt hvl
  have FI : Hid (∀ (W : World) (a : Option Addr) (cc : Nat), Below Z.heap.size Z W → SlOk a (numI all).length cc → IntsC W a (numI all) → Calls Tryz.prog 45 #[.slice a (numI all).length cc, .agg #[.func (.func 46) #[] #[.pointer (some ⟨w2.heap.size, 0, none⟩), .pointer (some ⟨Y.heap.size, 0, none⟩), .pointer (some ⟨w.heap.size + 1, 0, none⟩)]]] W fun e w' => ∃ v, e = .returned (.tuple #[v, .bool res.isSome]) ∧ FirstV W w' v res ∧ W.grownBy w' (some bo) ∧ ChestW w' bm bo ap ac ar kp kc kr c) := Lib.hid (fun W a cc hb hs hi => by
    have hRW := hRZ.below hb
    have hlen : (numI all).length = (numbersN all).length := by rw [numI_is, List.length_map]
    rw [hlen] at hs ⊢
    rw [numI_is] at hi
    rw [HLK.out]
    have c1 := blk_cell 0 ((hb.block _ (lt_of_block hPZ)).trans hPZ) rfl
    have c2 := blk_cell 0 ((hb.block _ (lt_of_block hAZ)).trans hAZ) rfl
    have c3 := blk_cell 0 ((hb.block _ (lt_of_block hFZ)).trans hFZ) rfl
    simp only [List.getElem_toArray, List.getElem_cons_zero] at c1 c2 c3
    exact CFirst_any ap ac ar kp kc kr c bm bo 46 #[.pointer (some ⟨w2.heap.size, 0, none⟩), .pointer (some ⟨Y.heap.size, 0, none⟩), .pointer (some ⟨w.heap.size + 1, 0, none⟩)] _ a cc (numbersN all) W hRW hnum.2 hnum.1 hs hi (enters_of Tryz.func46 (by kernel_rfl) rfl)
      (fun s V hs6 hg hR => by
        have hk := hRW.keeps hg
        exact CLock1_any ap ac ar kp kc kr c bm bo s all fact _ _ _ V hR hv hs6 hvl (by omega) (hk.2 _ _ c1) (hk.2 _ _ c2) (hk.2 _ _ c3)))
  have a0 := blk_cell 0 hAZ rfl
  have az := lt_of_block hAZ
  have pz := lt_of_block hPZ
  have fz := lt_of_block hFZ
  simp only [List.getElem_toArray, List.getElem_cons_zero] at a0
  clear HLK hnum hvl
  have hboz : w.heap.size ≤ bo := by simp only [World.size_alloc] at hbo; omega
  go_wp2_with (first
    | (go_at_call 45; go_must (refine (FI.out _ _ _ hb3 hs3 hi3).mono ?_; rintro e w4 ⟨v4, rfl, hf4, hg4, hR4⟩; dsimp only))
    | (go_at_call 42; go_must (refine (LI.out _).mono ?_; rintro e w3 ⟨v3, rfl, ⟨a3, c3, rfl, hs3, hi3, -⟩, hb3⟩; dsimp only)))
  go_ret2
  have hz3 := hb3.size
  have hzZ := hbZ.size
  have hfw : FirstV w w4 v4 res := hf4.weak (by omega)
  exact ⟨v4, rfl, hfw, (hbZ.trans (hb3.mono hzZ)).grown hg4 (by omega) (fun k e => by have := Option.some.inj e; omega)⟩
end Go.Proofs.YtcgplocmncionaaGreat
