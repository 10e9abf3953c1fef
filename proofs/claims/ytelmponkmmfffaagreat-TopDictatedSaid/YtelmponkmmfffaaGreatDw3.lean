/- What is proved here: the contract of the laws' Awake of layer 9. No condition. -/
import Derived.Test.YtelmponkmmfffaaGreatDw2G
set_option linter.unusedVariables false
set_option linter.unusedSimpArgs false
namespace Go.Proofs.YtelmponkmmfffaaGreat
open Go Go.RowKit
theorem DInts_true {a b : Option Addr} {l m : List Int} {c d : Nat} {w : World} (h : l = m) (hl : l.length ≤ 100) (hi : IntsC w a l) (hj : IntsC w b m) :
    Calls Tryz.prog 30 #[.slice a l.length c, .slice b m.length d] w fun e w' => e = .returned (.bool true) ∧ Below w.heap.size w w' := by
  have C := Ints_any a b l m c d w (by omega) (by rw [← h]; omega) hi hj
  rw [intsB_iff.2 h] at C
  exact C.mono fun e w' ⟨h1, q, h2⟩ => ⟨h1, by rw [h2]; exact below_draws _ _ q⟩
theorem DInts_one {a : Option Addr} {l : List Int} {c : Nat} {w : World} (x : Int) (t : TypeId) (h : l = [x]) (hi : IntsC w a l) :
    Calls Tryz.prog 30 #[.slice a l.length c, .slice (some ⟨w.heap.size, 0, none⟩) 1 1] (w.alloc (.cells #[.int .i64 x] t)) fun e w' => e = .returned (.bool true) ∧ Below w.heap.size w w' :=
  (DInts_true (m := [x]) (d := 1) h (by rw [h]; simp) (hi.mono (al_on w _)) (ints_blk (alloc_at _ _ rfl))).mono fun e w' ⟨h1, h2⟩ => ⟨h1, (al_on w _).trans (h2.mono (by simp))⟩
theorem DInts_two {a : Option Addr} {l : List Int} {c : Nat} {w : World} (x y : Int) (t : TypeId) (h : l = [x, y]) (hi : IntsC w a l) :
    Calls Tryz.prog 30 #[.slice a l.length c, .slice (some ⟨w.heap.size, 0, none⟩) 2 2] (w.alloc (.cells #[.int .i64 x, .int .i64 y] t)) fun e w' => e = .returned (.bool true) ∧ Below w.heap.size w w' :=
  (DInts_true (m := [x, y]) (d := 2) h (by rw [h]; simp) (hi.mono (al_on w _)) (ints_blk (alloc_at _ _ rfl))).mono fun e w' ⟨h1, h2⟩ => ⟨h1, (al_on w _).trans (h2.mono (by simp))⟩
theorem spans_three {W : World} {b : Nat} {t : TypeId} (h : W.heap[b]? = some (.cells #[.int .i64 13, .int .i64 20, .int .i64 7, .int .i64 11, .int .i64 7, .int .i64 11] t (0, 0))) : SpansC W (some ⟨b, 0, none⟩) [(13, 20), (7, 11), (7, 11)] := fun i hi => by
  have h9 : i = 0 ∨ i = 1 ∨ i = 2 := by simp at hi; omega
  rcases h9 with rfl | rfl | rfl <;> exact ⟨b, 0, rfl, lt_of_block h, blk_cell _ h rfl, blk_cell _ h rfl⟩
theorem DSpans_three {a : Option Addr} {l : List (Int × Int)} {c : Nat} {w : World} (t : TypeId) (h : l = [(13, 20), (7, 11), (7, 11)]) (ho : SlOk a l.length c) (hi : SpansC w a l) :
    Calls Tryz.prog 41 #[.slice a l.length c, .slice (some ⟨w.heap.size, 0, none⟩) 3 3] (w.alloc (.cells #[.int .i64 13, .int .i64 20, .int .i64 7, .int .i64 11, .int .i64 7, .int .i64 11] t)) fun e w' => e = .returned (.bool true) ∧ Below w.heap.size w w' := by
  have hs : SmallS [(13, 20), (7, 11), (7, 11)] := fun s hs => by
    have : s = (13, 20) ∨ s = (7, 11) ∨ s = (7, 11) := by simpa using hs
    rcases this with rfl | rfl | rfl <;> decide
  have C := DRSpans_any a (some ⟨w.heap.size, 0, none⟩) l [(13, 20), (7, 11), (7, 11)] c 3 (w.alloc (.cells #[.int .i64 13, .int .i64 20, .int .i64 7, .int .i64 11, .int .i64 7, .int .i64 11] t)) ho ⟨Nat.le_refl _, by decide, fun h => by cases h⟩ (hi.mono (al_on w _)) (spans_three (alloc_at _ _ rfl)) (h ▸ hs) hs
  rw [decide_eq_true h] at C
  exact C.mono fun e w' ⟨h1, q, h2⟩ => ⟨h1, by rw [h2]; exact (al_on w _).trans (below_draws _ _ q)⟩
theorem DRows_same {a b : Option Addr} {A : List (List Int)} {ca cb : Nat} {w : World} (hoa : SlOk a A.length ca) (hob : SlOk b A.length cb) (hi : RowsC w a A) (hj : RowsC w b A) :
    Calls Tryz.prog 43 #[.slice a A.length ca, .slice b A.length cb] w fun e w' => e = .returned (.bool true) ∧ Below w.heap.size w w' := by
  have C := DRRows_any a b A A ca cb w hoa hob hi hj
  rw [decide_eq_true rfl] at C
  exact C.mono fun e w' ⟨h1, q, h2⟩ => ⟨h1, by rw [h2]; exact below_draws _ _ q⟩
/-- The other plan of the examples, just built. -/
theorem fate_other {r : DeH} {aw ac : Option Addr} {kw kc : Nat} (hf : deFate r exO = (2, 0)) (w : World) (hm : HallC w aw ac kw kc r) :
    Calls Tryz.prog 36 #[.agg #[.int .i64 r.wax, .slice aw r.writers.length kw, .slice ac r.customers.length kc], .slice (some ⟨w.heap.size + 1 + 1, 0, none⟩) 2 2] (((w.alloc (.cells #[.int .i64 0, .int .i64 1] 3)).alloc (.cells #[.int .i64 2] 3)).alloc (.cells #[.slice (some ⟨w.heap.size, 0, none⟩) 2 2, .slice (some ⟨w.heap.size + 1, 0, none⟩) 1 1] 35)) fun e w' => e = .returned (.tuple #[.int .i64 2, .int .i64 0]) ∧ Below w.heap.size w w' := by
  obtain ⟨X, hX⟩ : ∃ X : World, X = (((w.alloc (.cells #[.int .i64 0, .int .i64 1] 3)).alloc (.cells #[.int .i64 2] 3)).alloc (.cells #[.slice (some ⟨w.heap.size, 0, none⟩) 2 2, .slice (some ⟨w.heap.size + 1, 0, none⟩) 1 1] 35)) := ⟨_, rfl⟩
  have hwX : Below w.heap.size w X := by rw [hX]; exact (by (repeat' (first | assumption | exact Below.refl _ _ | refine below_drew' ?_ | refine Below.setCell ?_ (by first | omega | (simp <;> omega)) _ | refine Below.alloc ?_ (by first | omega | (simp <;> omega)) _)))
  have hr : RowsC X (some ⟨w.heap.size + 1 + 1, 0, none⟩) [[0, 1], [2]] := by
    refine rows_two (b1 := w.heap.size) (b2 := w.heap.size + 1) (t := 35) (t1 := 3) (t2 := 3) ?_ ?_ ?_ rfl rfl (by decide) (by decide)
    all_goals (rw [hX]; (repeat' (first | exact alloc_at _ _ (by simp) | refine (heap_alloc_old _ _ (by first | omega | (simp <;> omega))).trans ?_)))
  rw [← hX]
  have C := DA_Fate aw ac kw kc r (some ⟨w.heap.size + 1 + 1, 0, none⟩) exO 2 2 0 hf X (hm.mono hwX) ⟨Nat.le_refl _, by decide, fun h => by cases h⟩ (by decide) hr
  exact C.mono fun e w' ⟨h1, h2⟩ => ⟨h1, hwX.trans (h2.mono hwX.size)⟩
set_option maxRecDepth 100000 in
set_option maxHeartbeats 16000000 in
theorem DAwake_any (w : World) : Calls Tryz.prog 7 #[] w fun e w' => e = .returned (.bool true) ∧ Below w.heap.size w w' := by
  have R1 : ∀ W : World, Calls Tryz.prog 33 #[.int .i64 20] W fun e w' => ∃ aw ac, e = .returned (.agg #[.int .i64 (exH 20).wax, .slice aw (exH 20).writers.length 2, .slice ac (exH 20).customers.length 3]) ∧ HallC w' aw ac 2 3 (exH 20) ∧ Below W.heap.size W w' := fun W => DHallL_any 20 W
  have R2 : ∀ W : World, Calls Tryz.prog 33 #[.int .i64 17] W fun e w' => ∃ aw ac, e = .returned (.agg #[.int .i64 (exH 17).wax, .slice aw (exH 17).writers.length 2, .slice ac (exH 17).customers.length 3]) ∧ HallC w' aw ac 2 3 (exH 17) ∧ Below W.heap.size W w' := fun W => DHallL_any 17 W
  have PL := fun W => DPlanL_any W
  have hPs : exP.flatten.length ≤ 1048576 := by decide
  have F1 := ex_ends
  have F2 := ex_must
  have F3 := ex_may
  have F4 := ex_never
  have F5 := ex_late
  have F6 := ex_none
  have F7 := ex_best
  have F8 := ex_down
  have F9 := ex_enough
  have F10 := ex_away
  have F11 := ex_six
  have F12 := ex_three
  have FO := fun (aw ac : Option Addr) (W : World) (h : HallC W aw ac 2 3 (exH 17)) => fate_other F4 W h
  clear F4
  generalize exH 20 = r1 at R1 F1 F2 F6 F7 F9
  generalize exH 17 = r2 at R2 FO F3 F5 F8 F10 F11 F12
  generalize exP = P at PL hPs F1 F2 F3 F5 F6 F7
  obtain ⟨l1, hl1⟩ : ∃ l : List (Int × Int), l = [(13, 20), (7, 11), (7, 11)] := ⟨_, rfl⟩
  rw [← hl1] at F1
  obtain ⟨l2, hl2⟩ : ∃ l : List Int, l = [0, 1] := ⟨_, rfl⟩
  rw [← hl2] at F9
  obtain ⟨l3, hl3⟩ : ∃ l : List Int, l = [0] := ⟨_, rfl⟩
  rw [← hl3] at F10
  replace R1 := Lib.hid R1
  replace R2 := Lib.hid R2
  replace PL := Lib.hid PL
  replace hPs := Lib.hid hPs
  replace FO := Lib.hid FO
  replace hl1 := Lib.hid hl1
  replace hl2 := Lib.hid hl2
  replace hl3 := Lib.hid hl3
  replace F1 := Lib.hid F1
  replace F2 := Lib.hid F2
  replace F3 := Lib.hid F3
  replace F5 := Lib.hid F5
  replace F6 := Lib.hid F6
  replace F7 := Lib.hid F7
  replace F8 := Lib.hid F8
  replace F9 := Lib.hid F9
  replace F10 := Lib.hid F10
  replace F11 := Lib.hid F11
  replace F12 := Lib.hid F12
  go_enter Tryz.func7, Tryz.ntmps7
  go_upto_region 2 with (first
    | (go_at_call 33; (with_reducible refine (R2.out _).mono ?_); rintro e w3 ⟨aw2, ac2, rfl, hR2, hb3⟩; dsimp only)
    | (go_at_call 33; (with_reducible refine (R1.out _).mono ?_); rintro e w2 ⟨aw1, ac1, rfl, hR1, hb2⟩; dsimp only))
  obtain ⟨X, hX⟩ : ∃ X : World, X = ((w3.alloc (.cells #[.int .i64 r1.wax, .slice aw1 r1.writers.length 2, .slice ac1 r1.customers.length 3] 28)).alloc (.cells #[.int .i64 r2.wax, .slice aw2 r2.writers.length 2, .slice ac2 r2.customers.length 3] 28)) := ⟨_, rfl⟩
  rw [← hX]
  have hw3 : Below w.heap.size w w3 := hb2.trans (hb3.mono hb2.size)
  have h3X : Below w3.heap.size w3 X := by rw [hX]; exact (by (repeat' (first | assumption | exact Below.refl _ _ | refine below_drew' ?_ | refine Below.setCell ?_ (by first | omega | (simp <;> omega)) _ | refine Below.alloc ?_ (by first | omega | (simp <;> omega)) _)))
  have hwX := hw3.trans (h3X.mono hw3.size)
  have g1 : X.heap[w3.heap.size]? = some (.cells #[.int .i64 r1.wax, .slice aw1 r1.writers.length 2, .slice ac1 r1.customers.length 3] 28 (0, 0)) := by rw [hX]; (repeat' (first | exact alloc_at _ _ (by simp) | refine (heap_alloc_old _ _ (by first | omega | (simp <;> omega))).trans ?_))
  have g2 : X.heap[w3.heap.size + 1]? = some (.cells #[.int .i64 r2.wax, .slice aw2 r2.writers.length 2, .slice ac2 r2.customers.length 3] 28 (0, 0)) := by rw [hX]; (repeat' (first | exact alloc_at _ _ (by simp) | refine (heap_alloc_old _ _ (by first | omega | (simp <;> omega))).trans ?_))
  clear hX
  replace g1 := fun (V : World) (h : Below X.heap.size X V) => (h.block _ (lt_of_block g1)).trans g1
  replace g2 := fun (V : World) (h : Below X.heap.size X V) => (h.block _ (lt_of_block g2)).trans g2
  have HC : Hid (∀ V, Below X.heap.size X V → (V.cell? ⟨w3.heap.size, 0, none⟩ = some (.int .i64 r1.wax) ∧ V.cell? ⟨w3.heap.size, 1, none⟩ = some (.slice aw1 r1.writers.length 2) ∧ V.cell? ⟨w3.heap.size, 2, none⟩ = some (.slice ac1 r1.customers.length 3) ∧ V.cell? ⟨w3.heap.size + 1, 0, none⟩ = some (.int .i64 r2.wax) ∧ V.cell? ⟨w3.heap.size + 1, 1, none⟩ = some (.slice aw2 r2.writers.length 2) ∧ V.cell? ⟨w3.heap.size + 1, 2, none⟩ = some (.slice ac2 r2.customers.length 3) ∧ w3.heap.size < V.heap.size ∧ w3.heap.size + 1 < V.heap.size)) := Lib.hid (fun V h => ⟨blk_cell 0 (g1 V h) rfl, blk_cell 1 (g1 V h) rfl, blk_cell 2 (g1 V h) rfl, blk_cell 0 (g2 V h) rfl, blk_cell 1 (g2 V h) rfl, blk_cell 2 (g2 V h) rfl, lt_of_block (g1 V h), lt_of_block (g2 V h)⟩)
  have KE : Hid (∀ V, Below X.heap.size X V → (fun V => Below X.heap.size X V ∧ V.cell? ⟨w3.heap.size, 0, none⟩ = some (.int .i64 r1.wax) ∧ V.cell? ⟨w3.heap.size, 1, none⟩ = some (.slice aw1 r1.writers.length 2) ∧ V.cell? ⟨w3.heap.size, 2, none⟩ = some (.slice ac1 r1.customers.length 3) ∧ V.cell? ⟨w3.heap.size + 1, 0, none⟩ = some (.int .i64 r2.wax) ∧ V.cell? ⟨w3.heap.size + 1, 1, none⟩ = some (.slice aw2 r2.writers.length 2) ∧ V.cell? ⟨w3.heap.size + 1, 2, none⟩ = some (.slice ac2 r2.customers.length 3) ∧ w3.heap.size < V.heap.size ∧ w3.heap.size + 1 < V.heap.size) V) := Lib.hid (fun V h => ⟨h, HC.out V h⟩)
  have M1 := Lib.hid (fun (V : World) (h : Below X.heap.size X V) => ((hR1.mono hb3).mono h3X).mono h)
  have M2 := Lib.hid (fun (V : World) (h : Below X.heap.size X V) => (hR2.mono h3X).mono h)
  clear g1 g2 hR1 hR2 hb2 hb3 R1 R2
  have hQ := Below.refl X.heap.size X
  go_upto_region 2 with (fail)
  have hg0 := below_drew' hQ
  go_region_held3 (fun V => Below X.heap.size X V ∧ V.cell? ⟨w3.heap.size, 0, none⟩ = some (.int .i64 r1.wax) ∧ V.cell? ⟨w3.heap.size, 1, none⟩ = some (.slice aw1 r1.writers.length 2) ∧ V.cell? ⟨w3.heap.size, 2, none⟩ = some (.slice ac1 r1.customers.length 3) ∧ V.cell? ⟨w3.heap.size + 1, 0, none⟩ = some (.int .i64 r2.wax) ∧ V.cell? ⟨w3.heap.size + 1, 1, none⟩ = some (.slice aw2 r2.writers.length 2) ∧ V.cell? ⟨w3.heap.size + 1, 2, none⟩ = some (.slice ac2 r2.customers.length 3) ∧ w3.heap.size < V.heap.size ∧ w3.heap.size + 1 < V.heap.size) (first | exact KE.out _ (by assumption)) (first
    | (go_at_call 34; have hh := hgp; (with_reducible refine (DA_Ends _ _ _ _ r1 _ P 2 l1 0 F1.out _ (M1.out _ hgp) op hPs.out rp).mono ?_); rintro e v2 ⟨b2, c2, rfl, o2, i2, hb⟩; have hg := q_on hgp hb; dsimp only)
    | (go_at_call 35; (with_reducible refine (PL.out _).mono ?_); rintro e u2 ⟨a2, rfl, op, rp, hb1⟩; have hgp := q_on (And.left (by assumption)) hb1; dsimp only))
  replace hQ := hg
  clear hg hgp hg0 op rp hb hb1
  replace hwX := hwX.trans (hQ.mono hwX.size)
  replace HC := Lib.hid (fun (V : World) (h : Below v2.heap.size v2 V) => HC.out V (q_on hQ h))
  replace M1 := Lib.hid (fun (V : World) (h : Below v2.heap.size v2 V) => M1.out V (q_on hQ h))
  replace M2 := Lib.hid (fun (V : World) (h : Below v2.heap.size v2 V) => M2.out V (q_on hQ h))
  replace KE : Hid (∀ V, Below v2.heap.size v2 V → (fun V => Below v2.heap.size v2 V ∧ V.cell? ⟨w3.heap.size, 0, none⟩ = some (.int .i64 r1.wax) ∧ V.cell? ⟨w3.heap.size, 1, none⟩ = some (.slice aw1 r1.writers.length 2) ∧ V.cell? ⟨w3.heap.size, 2, none⟩ = some (.slice ac1 r1.customers.length 3) ∧ V.cell? ⟨w3.heap.size + 1, 0, none⟩ = some (.int .i64 r2.wax) ∧ V.cell? ⟨w3.heap.size + 1, 1, none⟩ = some (.slice aw2 r2.writers.length 2) ∧ V.cell? ⟨w3.heap.size + 1, 2, none⟩ = some (.slice ac2 r2.customers.length 3) ∧ w3.heap.size < V.heap.size ∧ w3.heap.size + 1 < V.heap.size) V) := Lib.hid (fun V h => ⟨h, HC.out V h⟩)
  replace hQ := Below.refl v2.heap.size v2
  go_upto_region 3 with (fail)
  have hg0 := below_drew' hQ
  go_region_held3 (fun V => Below v2.heap.size v2 V ∧ V.cell? ⟨w3.heap.size, 0, none⟩ = some (.int .i64 r1.wax) ∧ V.cell? ⟨w3.heap.size, 1, none⟩ = some (.slice aw1 r1.writers.length 2) ∧ V.cell? ⟨w3.heap.size, 2, none⟩ = some (.slice ac1 r1.customers.length 3) ∧ V.cell? ⟨w3.heap.size + 1, 0, none⟩ = some (.int .i64 r2.wax) ∧ V.cell? ⟨w3.heap.size + 1, 1, none⟩ = some (.slice aw2 r2.writers.length 2) ∧ V.cell? ⟨w3.heap.size + 1, 2, none⟩ = some (.slice ac2 r2.customers.length 3) ∧ w3.heap.size < V.heap.size ∧ w3.heap.size + 1 < V.heap.size) (first | exact KE.out _ (by assumption)) (first
    | (go_at_call 36; have hh := hgp; (with_reducible refine (DA_Fate _ _ _ _ r1 _ P 2 1 0 F2.out _ (M1.out _ hgp) op hPs.out rp).mono ?_); rintro e v3 ⟨rfl, hb⟩; have hg := q_on hgp hb; dsimp only)
    | (go_at_call 35; (with_reducible refine (PL.out _).mono ?_); rintro e u3 ⟨a3, rfl, op, rp, hb1⟩; have hgp := q_on (And.left (by assumption)) hb1; dsimp only))
  replace hQ := hg
  clear hg hgp hg0 op rp hb hb1
  go_upto_region 4 with (fail)
  have hg0 := below_drew' hQ
  go_region_held3 (fun V => Below v2.heap.size v2 V ∧ V.cell? ⟨w3.heap.size, 0, none⟩ = some (.int .i64 r1.wax) ∧ V.cell? ⟨w3.heap.size, 1, none⟩ = some (.slice aw1 r1.writers.length 2) ∧ V.cell? ⟨w3.heap.size, 2, none⟩ = some (.slice ac1 r1.customers.length 3) ∧ V.cell? ⟨w3.heap.size + 1, 0, none⟩ = some (.int .i64 r2.wax) ∧ V.cell? ⟨w3.heap.size + 1, 1, none⟩ = some (.slice aw2 r2.writers.length 2) ∧ V.cell? ⟨w3.heap.size + 1, 2, none⟩ = some (.slice ac2 r2.customers.length 3) ∧ w3.heap.size < V.heap.size ∧ w3.heap.size + 1 < V.heap.size) (first | exact KE.out _ (by assumption)) (first
    | (go_at_call 36; have hh := hgp; (with_reducible refine (DA_Fate _ _ _ _ r2 _ P 2 0 0 F3.out _ (M2.out _ hgp) op hPs.out rp).mono ?_); rintro e v4 ⟨rfl, hb⟩; have hg := q_on hgp hb; dsimp only)
    | (go_at_call 35; (with_reducible refine (PL.out _).mono ?_); rintro e u4 ⟨a4, rfl, op, rp, hb1⟩; have hgp := q_on (And.left (by assumption)) hb1; dsimp only))
  replace hQ := hg
  clear hg hgp hg0 op rp hb hb1
  have hx := HC.out _ hQ
  go_upto_region 6 with (go_at_call 36; (with_reducible refine (FO.out _ _ _ (M2.out _ hQ)).mono ?_); rintro e v5 ⟨rfl, hb⟩; replace hQ := q_on hQ hb; dsimp only)
  clear hx hb
  go_upto_region 6 with (fail)
  have hg0 := below_drew' hQ
  go_region_held3 (fun V => Below v2.heap.size v2 V ∧ V.cell? ⟨w3.heap.size, 0, none⟩ = some (.int .i64 r1.wax) ∧ V.cell? ⟨w3.heap.size, 1, none⟩ = some (.slice aw1 r1.writers.length 2) ∧ V.cell? ⟨w3.heap.size, 2, none⟩ = some (.slice ac1 r1.customers.length 3) ∧ V.cell? ⟨w3.heap.size + 1, 0, none⟩ = some (.int .i64 r2.wax) ∧ V.cell? ⟨w3.heap.size + 1, 1, none⟩ = some (.slice aw2 r2.writers.length 2) ∧ V.cell? ⟨w3.heap.size + 1, 2, none⟩ = some (.slice ac2 r2.customers.length 3) ∧ w3.heap.size < V.heap.size ∧ w3.heap.size + 1 < V.heap.size) (first | exact KE.out _ (by assumption)) (first
    | (go_at_call 37; have hh := hgp; (with_reducible refine (DA_Late _ _ _ _ r2 _ P 2 0 0 F5.out _ (M2.out _ hgp) op hPs.out rp).mono ?_); rintro e v6 ⟨rfl, hb⟩; have hg := q_on hgp hb; dsimp only)
    | (go_at_call 35; (with_reducible refine (PL.out _).mono ?_); rintro e u6 ⟨a6, rfl, op, rp, hb1⟩; have hgp := q_on (And.left (by assumption)) hb1; dsimp only))
  replace hQ := hg
  clear hg hgp hg0 op rp hb hb1
  go_upto_region 7 with (fail)
  have hg0 := below_drew' hQ
  go_region_held3 (fun V => Below v2.heap.size v2 V ∧ V.cell? ⟨w3.heap.size, 0, none⟩ = some (.int .i64 r1.wax) ∧ V.cell? ⟨w3.heap.size, 1, none⟩ = some (.slice aw1 r1.writers.length 2) ∧ V.cell? ⟨w3.heap.size, 2, none⟩ = some (.slice ac1 r1.customers.length 3) ∧ V.cell? ⟨w3.heap.size + 1, 0, none⟩ = some (.int .i64 r2.wax) ∧ V.cell? ⟨w3.heap.size + 1, 1, none⟩ = some (.slice aw2 r2.writers.length 2) ∧ V.cell? ⟨w3.heap.size + 1, 2, none⟩ = some (.slice ac2 r2.customers.length 3) ∧ w3.heap.size < V.heap.size ∧ w3.heap.size + 1 < V.heap.size) (first | exact KE.out _ (by assumption)) (first
    | (go_at_call 37; have hh := hgp; (with_reducible refine (DA_Late _ _ _ _ r1 _ P 2 0 9 F6.out _ (M1.out _ hgp) op hPs.out rp).mono ?_); rintro e v7 ⟨rfl, hb⟩; have hg := q_on hgp hb; dsimp only)
    | (go_at_call 35; (with_reducible refine (PL.out _).mono ?_); rintro e u7 ⟨a7, rfl, op, rp, hb1⟩; have hgp := q_on (And.left (by assumption)) hb1; dsimp only))
  replace hQ := hg
  clear hg hgp hg0 op rp hb hb1
  replace i2 := i2.mono hQ
  have hx := HC.out _ hQ
  go_upto_region 14 with (first
    | (go_at_call 40; (with_reducible refine (DA_Later _ _ _ _ r2 2 3 0 F12.out _ (M2.out _ hQ)).mono ?_); rintro e v13 ⟨rfl, hb⟩; replace i2 := i2.mono hb; replace i8 := i8.mono hb; replace i10 := i10.mono hb; replace i11 := i11.mono hb; replace hQ := q_on hQ hb; replace hx := HC.out _ hQ; dsimp only)
    | (go_at_call 40; (with_reducible refine (DA_Later _ _ _ _ r2 1 6 0 F11.out _ (M2.out _ hQ)).mono ?_); rintro e v12 ⟨rfl, hb⟩; replace i2 := i2.mono hb; replace i8 := i8.mono hb; replace i10 := i10.mono hb; replace i11 := i11.mono hb; replace hQ := q_on hQ hb; replace hx := HC.out _ hQ; dsimp only)
    | (go_at_call 39; (with_reducible refine (DA_Away _ _ _ _ r2 l3 0 F10.out _ (M2.out _ hQ)).mono ?_); rintro e v11 ⟨b11, c11, rfl, o11, i11, hb⟩; replace i2 := i2.mono hb; replace i8 := i8.mono hb; replace i10 := i10.mono hb; replace hQ := q_on hQ hb; replace hx := HC.out _ hQ; dsimp only)
    | (go_at_call 38; (with_reducible refine (DA_Enough _ _ _ _ r1 l2 0 F9.out _ (M1.out _ hQ)).mono ?_); rintro e v10 ⟨b10, c10, rfl, o10, i10, hb⟩; replace i2 := i2.mono hb; replace i8 := i8.mono hb; replace hQ := q_on hQ hb; replace hx := HC.out _ hQ; dsimp only)
    | (go_at_call 12; (with_reducible refine (DA_Best _ _ _ _ r2 [] 0 9 F8.out _ (M2.out _ hQ)).mono ?_); rintro e v9 ⟨b9, c9, rfl, -, -, hb⟩; replace i2 := i2.mono hb; replace i8 := i8.mono hb; replace hQ := q_on hQ hb; replace hx := HC.out _ hQ; dsimp only [List.length_nil])
    | (go_at_call 12; (with_reducible refine (DA_Best _ _ _ _ r1 P 20 0 F7.out _ (M1.out _ hQ)).mono ?_); rintro e v8 ⟨b8, c8, rfl, o8, i8, hb⟩; replace i2 := i2.mono hb; replace hQ := q_on hQ hb; replace hx := HC.out _ hQ; dsimp only))
  have I1 := Lib.hid (fun (V : World) (h : Below v13.heap.size v13 V) => DSpans_three (c := c2) 37 hl1.out o2 (i2.mono h))
  have I2 := Lib.hid (fun (V : World) (ap : Option Addr) (h : Below v13.heap.size v13 V) (op : SlOk ap P.length 2) (rp : RowsC V ap P) => DRows_same (ca := c8) o8 op (i8.mono h) rp)
  have I3 := Lib.hid (fun (V : World) (h : Below v13.heap.size v13 V) => DInts_two (c := c10) 0 1 3 hl2.out (i10.mono h))
  have I4 := Lib.hid (fun (V : World) (h : Below v13.heap.size v13 V) => DInts_one (c := c11) 0 3 hl3.out (i11.mono h))
  have hE := Lib.hid (hwX.trans (hQ.mono hwX.size))
  have hEz := Lib.hid hE.out.size
  clear hb i2 i8 i10 i11 o2 o8 o10 o11 hQ hx hwX h3X hw3 HC M1 M2 F1 F2 F3 F5 F6 F7 F8 F9 F10 F11 F12 FO hl1 hl2 hl3 hPs KE
  have hB := Below.refl v13.heap.size v13
  simp only [List.append]
  go_wp2_with (first
    | (go_at_call 30; (with_reducible refine (I4.out _ hB).mono ?_); rintro e w26 ⟨rfl, hb⟩; replace hB := q_on hB hb; dsimp only)
    | (go_at_call 30; (with_reducible refine (I3.out _ hB).mono ?_); rintro e w25 ⟨rfl, hb⟩; replace hB := q_on hB hb; dsimp only)
    | (go_at_call 43; (with_reducible refine (I2.out _ _ hB op rp).mono ?_); rintro e w24 ⟨rfl, hb⟩; replace hB := q_on hB hb; dsimp only)
    | (go_at_call 35; (with_reducible refine (PL.out _).mono ?_); rintro e w23 ⟨ap, rfl, op, rp, hb⟩; replace hB := q_on hB hb; dsimp only)
    | (go_at_call 41; (with_reducible refine (I1.out _ hB).mono ?_); rintro e w22 ⟨rfl, hb⟩; replace hB := q_on hB hb; dsimp only)
    | (go_at_call 42; (with_reducible refine (DSpan_any _ _ _).mono ?_); rintro e w21 ⟨rfl, hb⟩; replace hB := q_on hB hb; dsimp only))
  go_ret
  exact ⟨rfl, hE.out.trans (hB.mono hEz.out)⟩
end Go.Proofs.YtelmponkmmfffaaGreat
