/- What is proved here: the contract of the laws' caught of layer 12, and the walk of SecretKnown: it returns true. No condition. -/
import Derived.Test.YtmhbjohpggghgaaSw3
import Derived.Test.YtmhbjohpggghgaaEndG
set_option linter.unusedVariables false
set_option linter.unusedSimpArgs false
namespace Go.Proofs.Ytmhbjohpggghgaa
open Go Go.RowKit
theorem Room_none3 (w : World) : Calls Try.prog 34 #[.int .i64 (-1), .bool false] w fun e w' => ∃ a1 a2 a3 b4 o4 a5 k1 k2 k3 k4 k5, e = .returned (.agg #[.slice a1 3 k1, .slice a2 2 k2, .slice a3 2 k3, .slice (some ⟨b4, o4, none⟩) 3 k4, .slice a5 0 k5]) ∧ RoomC w' a1 a2 a3 (some ⟨b4, o4, none⟩) a5 k1 k2 k3 k4 k5 (exR []) ∧ 3 ≤ k4 ∧ k4 ≤ 9223372036854775807 ∧ Below w.heap.size w w' :=
  (Room_none w).mono fun e w' ⟨a1, a2, a3, a4, a5, k1, k2, k3, k4, k5, h1, h2, h3⟩ => by
    obtain ⟨b4, o4, rfl, _⟩ := h2.letters 0 (by decide)
    exact ⟨a1, a2, a3, b4, o4, a5, k1, k2, k3, k4, k5, h1, h2, h2.ok4.1, h2.ok4.2.1, h3⟩
theorem far1 {X : World} {g b o a : Nat} {u : Value} (h : b ≠ g) : (X.setCell ⟨g, a, none⟩ u).cell? ⟨b, o, none⟩ = X.cell? ⟨b, o, none⟩ :=
  World.cell?_of_block (a := ⟨b, o, none⟩) (Below.heap_setCell X ⟨g, a, none⟩ u b h)
theorem cell_apart5 {W : World} {b b2 o : Nat} {v : Value} {t : TypeId} {v1 v2 v3 v4 v5 : Option Addr} {n1 n2 n3 n4 n5 m1 m2 m3 m4 m5 : Nat} (h : W.cell? ⟨b2, o, none⟩ = some v) (hb : W.heap[b]? = some (.cells #[Value.slice v1 n1 m1, .slice v2 n2 m2, .slice v3 n3 m3, .slice v4 n4 m4, .slice v5 n5 m5] t (0, 0))) (hn : ∀ a n c, v ≠ .slice a n c) : b2 ≠ b := fun e => by
  subst e
  simp only [World.cell?, hb] at h
  match o, h with
  | 0, h => exact hn _ _ _ (by simpa using h.symm)
  | 1, h => exact hn _ _ _ (by simpa using h.symm)
  | 2, h => exact hn _ _ _ (by simpa using h.symm)
  | 3, h => exact hn _ _ _ (by simpa using h.symm)
  | 4, h => exact hn _ _ _ (by simpa using h.symm)
  | o + 5, h => simp at h
theorem letters_tail {w : World} {b o k : Nat} {x : SeLetter} {l : List SeLetter} (h : LettersC w (some ⟨b, o, none⟩) (x :: l)) : SrcAt w (.slice (some ⟨b, o + 1 * 3, none⟩) l.length k) l.length 3 (flatC letterCells l) := by
  refine SrcAt.letters (a := some ⟨b, o + 1 * 3, none⟩) (by intro e; cases e) fun i hi => ?_
  obtain ⟨_, _, e, h1, h2, h3, h4⟩ := h (i + 1) (by simp; omega)
  cases e
  refine ⟨b, o + 1 * 3, rfl, h1, ?_, ?_, ?_⟩
  · rw [show o + 1 * 3 + i * 3 = o + (i + 1) * 3 by omega]; exact h2
  · rw [show o + 1 * 3 + i * 3 + 1 = o + (i + 1) * 3 + 1 by omega]; exact h3
  · rw [show o + 1 * 3 + i * 3 + 2 = o + (i + 1) * 3 + 2 by omega]; exact h4
theorem letter_own1 (W : World) (a b c : Int) (e : TypeId) : (W.alloc (.cells #[.int .i64 a, .int .i64 b, .int .i64 c] e)).ownsRow W.heap.size e 3 (.slice (some ⟨W.heap.size, 0, none⟩) 1 1) 1 [.int .i64 a, .int .i64 b, .int .i64 c] :=
  ⟨rfl, .inr ⟨W.heap.size, 1, #[.int .i64 a, .int .i64 b, .int .i64 c], rfl, Nat.le_refl _, alloc_at _ _ rfl, Nat.le_refl _, by decide, rfl, rfl⟩⟩
set_option maxRecDepth 100000 in
set_option maxHeartbeats 2000000 in
theorem Caught_any (w : World) : Calls Try.prog 35 #[] w fun e w' => ∃ a1 a2 a3 a4 a5 k1 k2 k3 k4 k5, e = .returned (roomV a1 a2 a3 a4 a5 k1 k2 k3 k4 k5 exC) ∧ RoomC w' a1 a2 a3 a4 a5 k1 k2 k3 k4 k5 exC ∧ Below w.heap.size w w' := by
  have R := Lib.hid (fun W => Room_none3 W)
  go_enter Try.func35, Try.ntmps35
  go_upto_region 2 with (go_at_call 34; go_must ((with_reducible refine (R.out _).mono ?_); rintro e w2 ⟨a1, a2, a3, b4, o4, a5, k1, k2, k3, k4, k5, rfl, hR, hk4, hk5, hb2⟩; dsimp only))
  obtain ⟨Z, hZ⟩ : ∃ Z : World, Z = w2.alloc (.cells #[.slice a1 3 k1, .slice a2 2 k2, .slice a3 2 k3, .slice (some ⟨b4, o4, none⟩) 3 k4, .slice a5 0 k5] 28) := ⟨_, rfl⟩
  rw [← hZ]
  have hw2 : w.heap.size + 1 ≤ w2.heap.size := by have := hb2.size; simpa using this
  have hO := (hb2.block w.heap.size (by simp)).trans (alloc_at w _ rfl)
  have hbw : Below w.heap.size w w2 := (al_on w _).trans (hb2.mono (by simp))
  have hbZ : Below w2.heap.size w2 Z := by rw [hZ]; exact al_on _ _
  have hZ1 : Z.heap[w2.heap.size]? = some (.cells #[.slice a1 3 k1, .slice a2 2 k2, .slice a3 2 k3, .slice (some ⟨b4, o4, none⟩) 3 k4, .slice a5 0 k5] 28 (0, 0)) := by rw [hZ]; exact alloc_at _ _ rfl
  have hZO := (hbZ.block _ (by omega)).trans hO
  have hRZ := hR.mono hbZ
  have zs : w2.heap.size < Z.heap.size := by rw [hZ]; simp
  clear hZ hb2 hO
  have x3 : Z.cell? ⟨w2.heap.size, 3, none⟩ = some (.slice (some ⟨b4, o4, none⟩) 3 k4) := blk_cell 3 hZ1 rfl
  have f3 := blk_free 3 hZ1
  have z1 := lt_of_block hZ1
  go_upto_region 3 with (at_builtin; go_must (refine wpList_app (.tmp 4) (.tmp 7) E_letter rfl rfl rfl rfl Z.heap.size 1 2 [.int .i64 0, .int .i64 1, .int .i64 2] (flatC letterCells [⟨1, 2, -1⟩, ⟨1, 1, -1⟩]) (letter_own1 Z 0 1 2 _) ?g1 (by omega) (by decide) (by simp) ?_; (case g1 => exact letters_tail (hRZ.letters.mono (al_on _ _))); intro v1 w3 ho1 hg1 _; (have hb3 := app_fresh (n := 1) (c := 1) hg1); clear hg1; (have ho2 : w3.ownsRow Z.heap.size _ 3 v1 3 (flatC letterCells exC.letters) := ho1); (obtain ⟨-, a9, c9, rfl, hs9, -⟩ := letters_own ho2); (have x3 := cell_below hb3 x3); (have hW1 := (hb3.block _ z1).trans hZ1); (have hWO := (hb3.block _ (by omega)).trans hZO); (have f3 := blk_free 3 hW1); (have z1 := lt_of_block hW1); simp only [Act.put, List.setIfInBounds_toArray, List.set_cons_succ, List.set_cons_zero]))
  obtain ⟨U, hU⟩ : ∃ U : World, U = w3.setCell ⟨w2.heap.size, 3, none⟩ (.slice a9 exC.letters.length c9) := ⟨_, rfl⟩
  rw [← hU]
  have hU1 : U.heap[w2.heap.size]? = some (.cells #[.slice a1 3 k1, .slice a2 2 k2, .slice a3 2 k3, .slice a9 exC.letters.length c9, .slice a5 0 k5] 28 (0, 0)) := by rw [hU]; exact blk_set 3 _ hW1
  have hUO : U.heap[w.heap.size]? = some (.cells #[.slice none 0 0, .slice none 0 0, .slice none 0 0, .slice none 0 0, .slice none 0 0] 28 (0, 0)) := by rw [hU]; exact (Below.heap_setCell _ _ _ _ (show w.heap.size ≠ w2.heap.size by omega)).trans hWO
  have hoU : U.ownsRow Z.heap.size 68 3 (.slice a9 exC.letters.length c9) 3 (flatC letterCells exC.letters) := by rw [hU]; exact ownsRow_setCell_other ho2 (fun e => by have := (ho2.lt _ e).1; simp only at this; omega) _
  have hw3 : w2.heap.size ≤ w3.heap.size := by omega
  have hbU : Below w2.heap.size w2 U := by rw [hU]; exact (hbZ.trans (hb3.mono hbZ.size)).setCell (Nat.le_refl _) _
  have hRU := hR.mono hbU
  have hwU : Below w.heap.size w U := hbw.trans (hbU.mono hbw.size)
  clear hU hW1 hWO hb3 hbU hbZ ho1 ho2 x3 f3 z1 hRZ hZ1 hZO
  have y0 : U.cell? ⟨w2.heap.size, 0, none⟩ = some (.slice a1 3 k1) := blk_cell 0 hU1 rfl
  have y1 : U.cell? ⟨w2.heap.size, 1, none⟩ = some (.slice a2 2 k2) := blk_cell 1 hU1 rfl
  have y2 : U.cell? ⟨w2.heap.size, 2, none⟩ = some (.slice a3 2 k3) := blk_cell 2 hU1 rfl
  have y3 : U.cell? ⟨w2.heap.size, 3, none⟩ = some (.slice a9 exC.letters.length c9) := blk_cell 3 hU1 rfl
  have y4 : U.cell? ⟨w2.heap.size, 4, none⟩ = some (.slice a5 0 k5) := blk_cell 4 hU1 rfl
  have zu := lt_of_block hU1
  have g0 := blk_free 0 hUO
  have g1 := blk_free 1 hUO
  have g2 := blk_free 2 hUO
  have g3 := blk_free 3 hUO
  have g4 := blk_free 4 hUO
  have o0 : U.cell? ⟨w.heap.size, 0, none⟩ = some (.slice none 0 0) := blk_cell 0 hUO rfl
  have o1 : U.cell? ⟨w.heap.size, 1, none⟩ = some (.slice none 0 0) := blk_cell 1 hUO rfl
  have o2 : U.cell? ⟨w.heap.size, 2, none⟩ = some (.slice none 0 0) := blk_cell 2 hUO rfl
  have o3 : U.cell? ⟨w.heap.size, 3, none⟩ = some (.slice none 0 0) := blk_cell 3 hUO rfl
  have o4 : U.cell? ⟨w.heap.size, 4, none⟩ = some (.slice none 0 0) := blk_cell 4 hUO rfl
  have zo := lt_of_block hUO
  have hlen : exC.letters.length = 3 := rfl
  replace hlen := Lib.hid hlen
  go_wp2
  (try simp only [Exit.inBlock, Exit.then])
  refine bodyPost_ret (v := .agg #[.slice a1 3 k1, .slice a2 2 k2, .slice a3 2 k3, .slice a9 exC.letters.length c9, .slice a5 0 k5]) ?_ rfl ⟨a1, a2, a3, a9, a5, k1, k2, k3, c9, k5, rfl, ?_, ?_⟩
  · rw [results_cell1 rfl]
    go_simp
  · have hne : (Value.slice a9 exC.letters.length c9).ownBlock ≠ some w.heap.size := fun e => by have := (hoU.lt _ e).1; omega
    have hF := ownsRow_setCell_other (ownsRow_setCell_other (ownsRow_setCell_other (ownsRow_setCell_other (ownsRow_setCell_other hoU (a := ⟨w.heap.size, 0, none⟩) hne (.slice a1 3 k1)) (a := ⟨w.heap.size, 1, none⟩) hne (.slice a2 2 k2)) (a := ⟨w.heap.size, 2, none⟩) hne (.slice a3 2 k3)) (a := ⟨w.heap.size, 3, none⟩) hne (.slice a9 exC.letters.length c9)) (a := ⟨w.heap.size, 4, none⟩) hne (.slice a5 0 k5)
    obtain ⟨-, b6, d6, e6, hs6, hh6⟩ := letters_own hF
    cases e6
    have key : ∀ (b o : Nat) (v : Value), U.cell? ⟨b, o, none⟩ = some v → (∀ a n c, v ≠ .slice a n c) → (((((U.setCell ⟨w.heap.size, 0, none⟩ (.slice a1 3 k1)).setCell ⟨w.heap.size, 1, none⟩ (.slice a2 2 k2)).setCell ⟨w.heap.size, 2, none⟩ (.slice a3 2 k3)).setCell ⟨w.heap.size, 3, none⟩ (.slice a9 exC.letters.length c9)).setCell ⟨w.heap.size, 4, none⟩ (.slice a5 0 k5)).cell? ⟨b, o, none⟩ = some v := fun b o v h hn => by
      have hb := cell_apart5 h hUO hn
      rw [far1 hb, far1 hb, far1 hb, far1 hb, far1 hb]; exact h
    refine ⟨hRU.ok1, hRU.ok2, hRU.ok3, hs6, hRU.ok5, fun i hi => ?_, fun i hi => ?_, fun i hi => ?_, hh6, fun i hi => absurd hi (Nat.not_lt_zero i), hRU.wsize⟩
    · obtain ⟨b, off, e, h1, h2⟩ := hRU.writers i hi
      exact ⟨b, off, e, by simpa using h1, key _ _ _ h2 (fun a n c e => by cases e)⟩
    · obtain ⟨b, off, e, h1, h2⟩ := hRU.kept i hi
      exact ⟨b, off, e, by simpa using h1, key _ _ _ h2 (fun a n c e => by cases e)⟩
    · obtain ⟨b, off, e, h1, h2, h3, h4⟩ := hRU.leaks i hi
      exact ⟨b, off, e, by simpa using h1, key _ _ _ h2 (fun a n c e => by cases e), key _ _ _ h3 (fun a n c e => by cases e), key _ _ _ h4 (fun a n c e => by cases e)⟩
  · exact ((((hwU.setCell (by simp) _).setCell (by simp) _).setCell (by simp) _).setCell (by simp) _).setCell (by simp) _
set_option maxRecDepth 100000 in
set_option maxHeartbeats 16000000 in
theorem SecretKnown_walk (w : World) : Calls Try.prog 7 #[] w fun e w' => e = .returned (.bool true) ∧ Below w.heap.size w w' := by
  have R1 := fun W => Room_none W
  have R2 := fun W => Room_some 3 true W (by decide)
  have R3 := fun W => Caught_any W
  have F1 := ex_ana
  have F2 := ex_two2
  have F3 := ex_sure
  have F4 := ex_may
  have F5 := ex_none
  have F6 := ex_nobody
  have F7 := ex_nothing
  have F8 := ex_downc
  generalize exC = r3 at R3 F8
  generalize exR [] = r1 at R1 F1 F3 F4 F6 F7
  generalize exR [⟨2, 0, 3, true⟩] = r2 at R2 F2 F5
  replace R1 := Lib.hid R1
  replace R2 := Lib.hid R2
  replace R3 := Lib.hid R3
  replace F1 := Lib.hid F1
  replace F2 := Lib.hid F2
  replace F3 := Lib.hid F3
  replace F4 := Lib.hid F4
  replace F5 := Lib.hid F5
  replace F6 := Lib.hid F6
  replace F7 := Lib.hid F7
  replace F8 := Lib.hid F8
  go_enter Try.func7, Try.ntmps7
  go_upto_region 2 with (first
    | (go_at_call 35; (with_reducible refine (R3.out _).mono ?_); rintro e w4 ⟨p31, p32, p33, p34, p35, q31, q32, q33, q34, q35, rfl, hR3, hb4⟩; dsimp only)
    | (go_at_call 34; (with_reducible refine (R2.out _).mono ?_); rintro e w3 ⟨p21, p22, p23, p24, p25, q21, q22, q23, q24, q25, rfl, hR2, hb3⟩; dsimp only)
    | (go_at_call 34; (with_reducible refine (R1.out _).mono ?_); rintro e w2 ⟨p11, p12, p13, p14, p15, q11, q12, q13, q14, q15, rfl, hR1, hb2⟩; dsimp only))
  obtain ⟨X, hX⟩ : ∃ X : World, X = (((w4.alloc (.cells #[.slice p11 r1.writers.length q11, .slice p12 r1.kept.length q12, .slice p13 r1.leaks.length q13, .slice p14 r1.letters.length q14, .slice p15 r1.heard.length q15] 28)).alloc (.cells #[.slice p21 r2.writers.length q21, .slice p22 r2.kept.length q22, .slice p23 r2.leaks.length q23, .slice p24 r2.letters.length q24, .slice p25 r2.heard.length q25] 28)).alloc (.cells #[.slice p31 r3.writers.length q31, .slice p32 r3.kept.length q32, .slice p33 r3.leaks.length q33, .slice p34 r3.letters.length q34, .slice p35 r3.heard.length q35] 28)) := ⟨_, rfl⟩
  rw [← hX]
  have hw5 : Below w.heap.size w w4 := hb2.trans ((hb3.trans (hb4.mono hb3.size)).mono hb2.size)
  have h5X : Below w4.heap.size w4 X := by rw [hX]; exact (by (repeat' (first | assumption | exact Below.refl _ _ | refine below_drew' ?_ | refine Below.setCell ?_ (by first | omega | (simp <;> omega)) _ | refine Below.alloc ?_ (by first | omega | (simp <;> omega)) _)))
  have hwX := hw5.trans (h5X.mono hw5.size)
  have g1 : X.heap[w4.heap.size]? = some (.cells #[.slice p11 r1.writers.length q11, .slice p12 r1.kept.length q12, .slice p13 r1.leaks.length q13, .slice p14 r1.letters.length q14, .slice p15 r1.heard.length q15] 28 (0, 0)) := by rw [hX]; exact (by first | exact alloc_at _ _ (by simp) | (repeat' (first | exact alloc_at _ _ (by simp) | refine (heap_alloc_old _ _ (by first | omega | (simp <;> omega))).trans ?_)))
  have g2 : X.heap[w4.heap.size + 1]? = some (.cells #[.slice p21 r2.writers.length q21, .slice p22 r2.kept.length q22, .slice p23 r2.leaks.length q23, .slice p24 r2.letters.length q24, .slice p25 r2.heard.length q25] 28 (0, 0)) := by rw [hX]; exact (by first | exact alloc_at _ _ (by simp) | (repeat' (first | exact alloc_at _ _ (by simp) | refine (heap_alloc_old _ _ (by first | omega | (simp <;> omega))).trans ?_)))
  have g3 : X.heap[w4.heap.size + 1 + 1]? = some (.cells #[.slice p31 r3.writers.length q31, .slice p32 r3.kept.length q32, .slice p33 r3.leaks.length q33, .slice p34 r3.letters.length q34, .slice p35 r3.heard.length q35] 28 (0, 0)) := by rw [hX]; exact (by first | exact alloc_at _ _ (by simp) | (repeat' (first | exact alloc_at _ _ (by simp) | refine (heap_alloc_old _ _ (by first | omega | (simp <;> omega))).trans ?_)))
  clear hX
  replace g1 := fun (V : World) (h : Below X.heap.size X V) => (h.block _ (lt_of_block g1)).trans g1
  replace g2 := fun (V : World) (h : Below X.heap.size X V) => (h.block _ (lt_of_block g2)).trans g2
  replace g3 := fun (V : World) (h : Below X.heap.size X V) => (h.block _ (lt_of_block g3)).trans g3
  have HC : Hid (∀ V, Below X.heap.size X V → (V.cell? ⟨w4.heap.size, 0, none⟩ = some (.slice p11 r1.writers.length q11) ∧ V.cell? ⟨w4.heap.size, 1, none⟩ = some (.slice p12 r1.kept.length q12) ∧ V.cell? ⟨w4.heap.size, 2, none⟩ = some (.slice p13 r1.leaks.length q13) ∧ V.cell? ⟨w4.heap.size, 3, none⟩ = some (.slice p14 r1.letters.length q14) ∧ V.cell? ⟨w4.heap.size, 4, none⟩ = some (.slice p15 r1.heard.length q15) ∧ V.cell? ⟨w4.heap.size + 1, 0, none⟩ = some (.slice p21 r2.writers.length q21) ∧ V.cell? ⟨w4.heap.size + 1, 1, none⟩ = some (.slice p22 r2.kept.length q22) ∧ V.cell? ⟨w4.heap.size + 1, 2, none⟩ = some (.slice p23 r2.leaks.length q23) ∧ V.cell? ⟨w4.heap.size + 1, 3, none⟩ = some (.slice p24 r2.letters.length q24) ∧ V.cell? ⟨w4.heap.size + 1, 4, none⟩ = some (.slice p25 r2.heard.length q25) ∧ V.cell? ⟨w4.heap.size + 1 + 1, 0, none⟩ = some (.slice p31 r3.writers.length q31) ∧ V.cell? ⟨w4.heap.size + 1 + 1, 1, none⟩ = some (.slice p32 r3.kept.length q32) ∧ V.cell? ⟨w4.heap.size + 1 + 1, 2, none⟩ = some (.slice p33 r3.leaks.length q33) ∧ V.cell? ⟨w4.heap.size + 1 + 1, 3, none⟩ = some (.slice p34 r3.letters.length q34) ∧ V.cell? ⟨w4.heap.size + 1 + 1, 4, none⟩ = some (.slice p35 r3.heard.length q35) ∧ w4.heap.size < V.heap.size ∧ w4.heap.size + 1 < V.heap.size ∧ w4.heap.size + 1 + 1 < V.heap.size)) := Lib.hid (fun V h => ⟨blk_cell 0 (g1 V h) rfl, blk_cell 1 (g1 V h) rfl, blk_cell 2 (g1 V h) rfl, blk_cell 3 (g1 V h) rfl, blk_cell 4 (g1 V h) rfl, blk_cell 0 (g2 V h) rfl, blk_cell 1 (g2 V h) rfl, blk_cell 2 (g2 V h) rfl, blk_cell 3 (g2 V h) rfl, blk_cell 4 (g2 V h) rfl, blk_cell 0 (g3 V h) rfl, blk_cell 1 (g3 V h) rfl, blk_cell 2 (g3 V h) rfl, blk_cell 3 (g3 V h) rfl, blk_cell 4 (g3 V h) rfl, lt_of_block (g1 V h), lt_of_block (g2 V h), lt_of_block (g3 V h)⟩)
  have M1 := Lib.hid (fun (V : World) (h : Below X.heap.size X V) => ((hR1.mono (hb3.trans (hb4.mono hb3.size))).mono h5X).mono h)
  have M2 := Lib.hid (fun (V : World) (h : Below X.heap.size X V) => ((hR2.mono (hb4)).mono h5X).mono h)
  have M3 := Lib.hid (fun (V : World) (h : Below X.heap.size X V) => (hR3.mono h5X).mono h)
  clear g1 g2 g3 hR1 hR2 hR3 hb2 hb3 hb4 R1 R2 R3
  have hQ := Below.refl X.heap.size X
  have hx := HC.out _ hQ
  go_upto_region 9 with (first
    | (go_at_call 32; (with_reducible refine (A_Cut _ _ _ _ _ _ _ _ _ _ r1 1 [] 0 F7.out _ (M1.out _ hQ)).mono ?_); rintro e w12 ⟨a3, c3, rfl, o3, -, hb⟩; replace hQ := q_on hQ hb; replace hx := HC.out _ hQ; replace s1 := sp_on s1 hb; dsimp only [List.length_nil])
    | (go_at_call 28; (with_reducible refine (A_May _ _ _ _ _ _ _ _ _ _ r1 2 [] 0 F6.out _ (M1.out _ hQ)).mono ?_); rintro e w11 ⟨a2, c2, rfl, o2, -, hb⟩; replace hQ := q_on hQ hb; replace hx := HC.out _ hQ; replace s1 := sp_on s1 hb; dsimp only [List.length_nil])
    | (go_at_call 25; (with_reducible refine (A_Wrong _ _ _ _ _ _ _ _ _ _ r2 [] 0 F5.out _ (M2.out _ hQ)).mono ?_); rintro e w10 ⟨a1, c1, rfl, o1, -, hb⟩; replace hQ := q_on hQ hb; replace hx := HC.out _ hQ; replace s1 := sp_on s1 hb; dsimp only [List.length_nil])
    | (go_at_call 23; (with_reducible refine (A_Told _ _ _ _ _ _ _ _ _ _ r1 1 0 0 F4.out _ (M1.out _ hQ)).mono ?_); rintro e w9 ⟨rfl, hb⟩; replace hQ := q_on hQ hb; replace hx := HC.out _ hQ; replace s1 := sp_on s1 hb; dsimp only)
    | (go_at_call 23; (with_reducible refine (A_Told _ _ _ _ _ _ _ _ _ _ r1 0 1 0 F3.out _ (M1.out _ hQ)).mono ?_); rintro e w8 ⟨rfl, hb⟩; replace hQ := q_on hQ hb; replace hx := HC.out _ hQ; replace s1 := sp_on s1 hb; dsimp only)
    | (go_at_call 20; (with_reducible refine (A_Knows _ _ _ _ _ _ _ _ _ _ r2 2 0 2 1 0 F2.out _ (M2.out _ hQ)).mono ?_); rintro e w7 ⟨rfl, hb⟩; replace hQ := q_on hQ hb; replace hx := HC.out _ hQ; replace s1 := sp_on s1 hb; dsimp only)
    | (go_at_call 18; (with_reducible refine (A_Since _ _ _ _ _ _ _ _ _ _ r1 0 0 0 0 1 0 F1.out _ (M1.out _ hQ)).mono ?_); rintro e w6 ⟨rfl, hb⟩; replace hQ := q_on hQ hb; replace hx := HC.out _ hQ; have s1 := sp_new w6 0 0 34; replace hb := al_on w6 (.cells #[.int .i64 0, .int .i64 0] 34); replace hQ := q_on hQ hb; replace hx := HC.out _ hQ; dsimp only))
  go_upto_region 10 with (go_at_call 32; (with_reducible refine (A_Cut _ _ _ _ _ _ _ _ _ _ r3 0 [] 9 F8.out _ (M3.out _ hQ)).mono ?_); rintro e w13 ⟨a4, c4, rfl, o4, -, hb⟩; replace hQ := q_on hQ hb; replace hx := HC.out _ hQ; replace s1 := sp_on s1 hb; dsimp only [List.length_nil])
  have KE : Hid (∀ V, Below w13.heap.size w13 V → (fun V => Below w13.heap.size w13 V ∧ V.cell? ⟨w6.heap.size, 0, none⟩ = some (.int .i64 0) ∧ V.cell? ⟨w6.heap.size, 1, none⟩ = some (.int .i64 0) ∧ w6.heap.size < V.heap.size) V) := Lib.hid (fun V h => by
    have p1 := sp_on s1 h
    exact ⟨h, p1.1, p1.2.1, p1.2.2⟩)
  have hE := Lib.hid (hwX.trans (hQ.mono hwX.size))
  have hEz := Lib.hid hE.out.size
  clear hb s1 hQ hx hwX h5X hw5 HC M1 M2 M3 F1 F2 F3 F4 F5 F6 F7 F8
  have hB := below_drew' (Below.refl w13.heap.size w13)
  simp only [List.append]
  as_aux_lemma =>
    refine wp_region_held_drew (S := (fun V => Below w13.heap.size w13 V ∧ V.cell? ⟨w6.heap.size, 0, none⟩ = some (.int .i64 0) ∧ V.cell? ⟨w6.heap.size, 1, none⟩ = some (.int .i64 0) ∧ w6.heap.size < V.heap.size)) (by kernel_rfl) (KE.out _ hB) (fun hHeld => ?_)
    (refine wpAnyH_take (i := 0) (v := ?_) rfl (by kernel_rfl) (by kernel_rfl) (by kernel_rfl) (fun _ _ _ h => h) (Or.inl ⟨by kernel_rfl, ?_⟩) (by assumption) ?_; rotate_left 1; (focus (intro w hSw; (try dsimp only at hSw); go_simp; first | done | with_reducible rfl)); simp only [Act.put, List.getElem_toArray, List.getElem_cons_succ, List.getElem_cons_zero, List.setIfInBounds_toArray, List.set_cons_succ, List.set_cons_zero])
    (refine wpAnyH_take (i := 1) (v := ?_) rfl (by kernel_rfl) (by kernel_rfl) (by kernel_rfl) (fun _ _ _ h => h) (Or.inl ⟨by kernel_rfl, ?_⟩) (by assumption) ?_; rotate_left 1; (focus (intro w hSw; (try dsimp only at hSw); go_simp; first | done | with_reducible rfl)); simp only [Act.put, List.getElem_toArray, List.getElem_cons_succ, List.getElem_cons_zero, List.setIfInBounds_toArray, List.set_cons_succ, List.set_cons_zero])
    (refine wpAnyH_take (i := 2) (v := ?_) rfl (by kernel_rfl) (by kernel_rfl) (by kernel_rfl) (fun _ _ _ h => h) (Or.inl ⟨by kernel_rfl, ?_⟩) (by assumption) ?_; rotate_left 1; (focus (intro w hSw; (try dsimp only at hSw); go_simp; first | done | with_reducible rfl)); simp only [Act.put, List.getElem_toArray, List.getElem_cons_succ, List.getElem_cons_zero, List.setIfInBounds_toArray, List.set_cons_succ, List.set_cons_zero])
    (refine wpAnyH_take (i := 3) (v := ?_) rfl (by kernel_rfl) (by kernel_rfl) (by kernel_rfl) (fun _ _ _ h => h) (Or.inl ⟨by kernel_rfl, ?_⟩) (by assumption) ?_; rotate_left 1; (focus (intro w hSw; (try dsimp only at hSw); go_simp; first | done | with_reducible rfl)); simp only [Act.put, List.getElem_toArray, List.getElem_cons_succ, List.getElem_cons_zero, List.setIfInBounds_toArray, List.set_cons_succ, List.set_cons_zero])
    (refine wpAnyH_take (i := 4) (v := ?_) rfl (by kernel_rfl) (by kernel_rfl) (by kernel_rfl) (fun _ _ _ h => h) (Or.inl ⟨by kernel_rfl, ?_⟩) (by assumption) ?_; rotate_left 1; (focus (intro w hSw; (try dsimp only at hSw); go_simp; first | done | with_reducible rfl)); simp only [Act.put, List.getElem_toArray, List.getElem_cons_succ, List.getElem_cons_zero, List.setIfInBounds_toArray, List.set_cons_succ, List.set_cons_zero])
    (refine wpAnyH_take (i := 5) (v := ?_) rfl (by kernel_rfl) (by kernel_rfl) (by kernel_rfl) (fun _ _ _ h => h) (Or.inl ⟨by kernel_rfl, ?_⟩) (by assumption) ?_; rotate_left 1; (focus (intro w hSw; (try dsimp only at hSw); go_simp; first | done | with_reducible rfl)); simp only [Act.put, List.getElem_toArray, List.getElem_cons_succ, List.getElem_cons_zero, List.setIfInBounds_toArray, List.set_cons_succ, List.set_cons_zero])
    (refine wpAnyH_take (i := 6) (v := ?_) rfl (by kernel_rfl) (by kernel_rfl) (by kernel_rfl) (fun _ _ _ h => h) (Or.inl ⟨by kernel_rfl, ?_⟩) (by assumption) ?_; rotate_left 1; (focus (intro w hSw; (try dsimp only at hSw); go_simp; first | done | with_reducible rfl)); simp only [Act.put, List.getElem_toArray, List.getElem_cons_succ, List.getElem_cons_zero, List.setIfInBounds_toArray, List.set_cons_succ, List.set_cons_zero])
    as_aux_lemma =>
      (refine wpAnyH_take (i := 7) (v := ?_) rfl (by kernel_rfl) (by kernel_rfl) (by kernel_rfl) (fun _ _ _ h => h) (Or.inl ⟨by kernel_rfl, ?_⟩) (by assumption) ?_; rotate_left 1; (focus (intro w hSw; (try dsimp only at hSw); go_simp; first | done | with_reducible rfl)); simp only [Act.put, List.getElem_toArray, List.getElem_cons_succ, List.getElem_cons_zero, List.setIfInBounds_toArray, List.set_cons_succ, List.set_cons_zero])
      (refine wpAnyH_take (i := 8) (v := ?_) rfl (by kernel_rfl) (by kernel_rfl) (by kernel_rfl) (fun _ _ _ h => h) (Or.inl ⟨by kernel_rfl, ?_⟩) (by assumption) ?_; rotate_left 1; (focus (intro w hSw; (try dsimp only at hSw); go_simp; first | done | with_reducible rfl)); simp only [Act.put, List.getElem_toArray, List.getElem_cons_succ, List.getElem_cons_zero, List.setIfInBounds_toArray, List.set_cons_succ, List.set_cons_zero])
      (refine wpAnyH_take (i := 9) (v := ?_) rfl (by kernel_rfl) (by kernel_rfl) (by kernel_rfl) (fun _ _ _ h => h) (Or.inl ⟨by kernel_rfl, ?_⟩) (by assumption) ?_; rotate_left 1; (focus (intro w hSw; (try dsimp only at hSw); go_simp; first | done | with_reducible rfl)); simp only [Act.put, List.getElem_toArray, List.getElem_cons_succ, List.getElem_cons_zero, List.setIfInBounds_toArray, List.set_cons_succ, List.set_cons_zero])
      (refine wpAnyH_take (i := 10) (v := ?_) rfl (by kernel_rfl) (by kernel_rfl) (by kernel_rfl) (fun _ _ _ h => h) (Or.inl ⟨by kernel_rfl, ?_⟩) (by assumption) ?_; rotate_left 1; (focus (intro w hSw; (try dsimp only at hSw); go_simp; first | done | with_reducible rfl)); simp only [Act.put, List.getElem_toArray, List.getElem_cons_succ, List.getElem_cons_zero, List.setIfInBounds_toArray, List.set_cons_succ, List.set_cons_zero])
      (refine wpAnyH_take (i := 11) (v := ?_) rfl (by kernel_rfl) (by kernel_rfl) (by kernel_rfl) (fun _ _ _ h => h) (Or.inl ⟨by kernel_rfl, ?_⟩) (by assumption) ?_; rotate_left 1; (focus (intro w hSw; (try dsimp only at hSw); go_simp; first | done | with_reducible rfl)); simp only [Act.put, List.getElem_toArray, List.getElem_cons_succ, List.getElem_cons_zero, List.setIfInBounds_toArray, List.set_cons_succ, List.set_cons_zero])
      (refine wpAnyH_take (i := 12) (v := ?_) rfl (by kernel_rfl) (by kernel_rfl) (by kernel_rfl) (fun _ _ _ h => h) (Or.inl ⟨by kernel_rfl, ?_⟩) (by assumption) ?_; rotate_left 1; (focus (intro w hSw; (try dsimp only at hSw); go_simp; first | done | with_reducible rfl)); simp only [Act.put, List.getElem_toArray, List.getElem_cons_succ, List.getElem_cons_zero, List.setIfInBounds_toArray, List.set_cons_succ, List.set_cons_zero])
      (refine wpAnyH_take (i := 13) (v := ?_) rfl (by kernel_rfl) (by kernel_rfl) (by kernel_rfl) (fun _ _ _ h => h) (Or.inl ⟨by kernel_rfl, ?_⟩) (by assumption) ?_; rotate_left 1; (focus (intro w hSw; (try dsimp only at hSw); go_simp; first | done | with_reducible rfl)); simp only [Act.put, List.getElem_toArray, List.getElem_cons_succ, List.getElem_cons_zero, List.setIfInBounds_toArray, List.set_cons_succ, List.set_cons_zero])
      (refine wpAnyH_take (i := 14) (v := ?_) rfl (by kernel_rfl) (by kernel_rfl) (by kernel_rfl) (fun _ _ _ h => h) (Or.inl ⟨by kernel_rfl, ?_⟩) (by assumption) ?_; rotate_left 1; (focus (intro w hSw; (try dsimp only at hSw); go_simp; first | done | with_reducible rfl)); simp only [Act.put, List.getElem_toArray, List.getElem_cons_succ, List.getElem_cons_zero, List.setIfInBounds_toArray, List.set_cons_succ, List.set_cons_zero])
      as_aux_lemma =>
        (refine wpAnyH_take (i := 15) (v := ?_) rfl (by kernel_rfl) (by kernel_rfl) (by kernel_rfl) (fun _ _ _ h => h) (Or.inl ⟨by kernel_rfl, ?_⟩) (by assumption) ?_; rotate_left 1; (focus (intro w hSw; (try dsimp only at hSw); go_simp; first | done | with_reducible rfl)); simp only [Act.put, List.getElem_toArray, List.getElem_cons_succ, List.getElem_cons_zero, List.setIfInBounds_toArray, List.set_cons_succ, List.set_cons_zero])
        (refine wpAnyH_take (i := 16) (v := ?_) rfl (by kernel_rfl) (by kernel_rfl) (by kernel_rfl) (fun _ _ _ h => h) (Or.inl ⟨by kernel_rfl, ?_⟩) (by assumption) ?_; rotate_left 1; (focus (intro w hSw; (try dsimp only at hSw); go_simp; first | done | with_reducible rfl)); simp only [Act.put, List.getElem_toArray, List.getElem_cons_succ, List.getElem_cons_zero, List.setIfInBounds_toArray, List.set_cons_succ, List.set_cons_zero])
        (refine wpAnyH_take (i := 17) (v := ?_) rfl (by kernel_rfl) (by kernel_rfl) (by kernel_rfl) (fun _ _ _ h => h) (Or.inl ⟨by kernel_rfl, ?_⟩) (by assumption) ?_; rotate_left 1; (focus (intro w hSw; (try dsimp only at hSw); go_simp; first | done | with_reducible rfl)); simp only [Act.put, List.getElem_toArray, List.getElem_cons_succ, List.getElem_cons_zero, List.setIfInBounds_toArray, List.set_cons_succ, List.set_cons_zero])
        (refine wpAnyH_take (i := 18) (v := ?_) rfl (by kernel_rfl) (by kernel_rfl) (by kernel_rfl) (fun _ _ _ h => h) (Or.inl ⟨by kernel_rfl, ?_⟩) (by assumption) ?_; rotate_left 1; (focus (intro w hSw; (try dsimp only at hSw); go_simp; first | done | with_reducible rfl)); simp only [Act.put, List.getElem_toArray, List.getElem_cons_succ, List.getElem_cons_zero, List.setIfInBounds_toArray, List.set_cons_succ, List.set_cons_zero])
        (refine wpAnyH_take (i := 19) (v := ?_) rfl (by kernel_rfl) (by kernel_rfl) (by kernel_rfl) (fun _ _ _ h => h) (Or.inl ⟨by kernel_rfl, ?_⟩) (by assumption) ?_; rotate_left 1; (focus (intro w hSw; (try dsimp only at hSw); go_simp; first | done | with_reducible rfl)); simp only [Act.put, List.getElem_toArray, List.getElem_cons_succ, List.getElem_cons_zero, List.setIfInBounds_toArray, List.set_cons_succ, List.set_cons_zero])
        (refine wpAnyH_take (i := 20) (v := ?_) rfl (by kernel_rfl) (by kernel_rfl) (by kernel_rfl) (fun _ _ _ h => h) (Or.inl ⟨by kernel_rfl, ?_⟩) (by assumption) ?_; rotate_left 1; (focus (intro w hSw; (try dsimp only at hSw); go_simp; first | done | with_reducible rfl)); simp only [Act.put, List.getElem_toArray, List.getElem_cons_succ, List.getElem_cons_zero, List.setIfInBounds_toArray, List.set_cons_succ, List.set_cons_zero])
        (refine wpAnyH_take (i := 21) (v := ?_) rfl (by kernel_rfl) (by kernel_rfl) (by kernel_rfl) (fun _ _ _ h => h) (Or.inl ⟨by kernel_rfl, ?_⟩) (by assumption) ?_; rotate_left 1; (focus (intro w hSw; (try dsimp only at hSw); go_simp; first | done | with_reducible rfl)); simp only [Act.put, List.getElem_toArray, List.getElem_cons_succ, List.getElem_cons_zero, List.setIfInBounds_toArray, List.set_cons_succ, List.set_cons_zero])
        (refine wpAnyH_take (i := 22) (v := ?_) rfl (by kernel_rfl) (by kernel_rfl) (by kernel_rfl) (fun _ _ _ h => h) (Or.inl ⟨by kernel_rfl, ?_⟩) (by assumption) ?_; rotate_left 1; (focus (intro w hSw; (try dsimp only at hSw); go_simp; first | done | with_reducible rfl)); simp only [Act.put, List.getElem_toArray, List.getElem_cons_succ, List.getElem_cons_zero, List.setIfInBounds_toArray, List.set_cons_succ, List.set_cons_zero])
        as_aux_lemma =>
          (refine wpAnyH_take (i := 23) (v := ?_) rfl (by kernel_rfl) (by kernel_rfl) (by kernel_rfl) (fun _ _ _ h => h) (Or.inl ⟨by kernel_rfl, ?_⟩) (by assumption) ?_; rotate_left 1; (focus (intro w hSw; (try dsimp only at hSw); go_simp; first | done | with_reducible rfl)); simp only [Act.put, List.getElem_toArray, List.getElem_cons_succ, List.getElem_cons_zero, List.setIfInBounds_toArray, List.set_cons_succ, List.set_cons_zero])
          (refine wpAnyH_take (i := 24) (v := ?_) rfl (by kernel_rfl) (by kernel_rfl) (by kernel_rfl) (fun _ _ _ h => h) (Or.inl ⟨by kernel_rfl, ?_⟩) (by assumption) ?_; rotate_left 1; (focus (intro w hSw; (try dsimp only at hSw); go_simp; first | done | with_reducible rfl)); simp only [Act.put, List.getElem_toArray, List.getElem_cons_succ, List.getElem_cons_zero, List.setIfInBounds_toArray, List.set_cons_succ, List.set_cons_zero])
          (refine wpAnyH_take (i := 25) (v := ?_) rfl (by kernel_rfl) (by kernel_rfl) (by kernel_rfl) (fun _ _ _ h => h) (Or.inl ⟨by kernel_rfl, ?_⟩) (by assumption) ?_; rotate_left 1; (focus (intro w hSw; (try dsimp only at hSw); go_simp; first | done | with_reducible rfl)); simp only [Act.put, List.getElem_toArray, List.getElem_cons_succ, List.getElem_cons_zero, List.setIfInBounds_toArray, List.set_cons_succ, List.set_cons_zero])
          (refine wpAnyH_take (i := 26) (v := ?_) rfl (by kernel_rfl) (by kernel_rfl) (by kernel_rfl) (fun _ _ _ h => h) (Or.inl ⟨by kernel_rfl, ?_⟩) (by assumption) ?_; rotate_left 1; (focus (intro w hSw; (try dsimp only at hSw); go_simp; first | done | with_reducible rfl)); simp only [Act.put, List.getElem_toArray, List.getElem_cons_succ, List.getElem_cons_zero, List.setIfInBounds_toArray, List.set_cons_succ, List.set_cons_zero])
          (refine wpAnyH_take (i := 27) (v := ?_) rfl (by kernel_rfl) (by kernel_rfl) (by kernel_rfl) (fun _ _ _ h => h) (Or.inl ⟨by kernel_rfl, ?_⟩) (by assumption) ?_; rotate_left 1; (focus (intro w hSw; (try dsimp only at hSw); go_simp; first | done | with_reducible rfl)); simp only [Act.put, List.getElem_toArray, List.getElem_cons_succ, List.getElem_cons_zero, List.setIfInBounds_toArray, List.set_cons_succ, List.set_cons_zero])
          (refine wpAnyH_take (i := 28) (v := ?_) rfl (by kernel_rfl) (by kernel_rfl) (by kernel_rfl) (fun _ _ _ h => h) (Or.inl ⟨by kernel_rfl, ?_⟩) (by assumption) ?_; rotate_left 1; (focus (intro w hSw; (try dsimp only at hSw); go_simp; first | done | with_reducible rfl)); simp only [Act.put, List.getElem_toArray, List.getElem_cons_succ, List.getElem_cons_zero, List.setIfInBounds_toArray, List.set_cons_succ, List.set_cons_zero])
          (refine wpAnyH_take (i := 29) (v := ?_) rfl (by kernel_rfl) (by kernel_rfl) (by kernel_rfl) (fun _ _ _ h => h) (Or.inl ⟨by kernel_rfl, ?_⟩) (by assumption) ?_; rotate_left 1; (focus (intro w hSw; (try dsimp only at hSw); go_simp; first | done | with_reducible rfl)); simp only [Act.put, List.getElem_toArray, List.getElem_cons_succ, List.getElem_cons_zero, List.setIfInBounds_toArray, List.set_cons_succ, List.set_cons_zero])
          (refine wpAnyH_take (i := 30) (v := ?_) rfl (by kernel_rfl) (by kernel_rfl) (by kernel_rfl) (fun _ _ _ h => h) (Or.inl ⟨by kernel_rfl, ?_⟩) (by assumption) ?_; rotate_left 1; (focus (intro w hSw; (try dsimp only at hSw); go_simp; first | done | with_reducible rfl)); simp only [Act.put, List.getElem_toArray, List.getElem_cons_succ, List.getElem_cons_zero, List.setIfInBounds_toArray, List.set_cons_succ, List.set_cons_zero])
          as_aux_lemma =>
            (refine wpAnyH_take (i := 31) (v := ?_) rfl (by kernel_rfl) (by kernel_rfl) (by kernel_rfl) (fun _ _ _ h => h) (Or.inl ⟨by kernel_rfl, ?_⟩) (by assumption) ?_; rotate_left 1; (focus (intro w hSw; (try dsimp only at hSw); go_simp; first | done | with_reducible rfl)); simp only [Act.put, List.getElem_toArray, List.getElem_cons_succ, List.getElem_cons_zero, List.setIfInBounds_toArray, List.set_cons_succ, List.set_cons_zero])
            (refine wpAnyH_ready (rs := [32]) (by kernel_rfl) (by simp) ?_; refine AllReadyH.cons rfl (fun K hK => ?_) AllReadyH.nil; go_simp)
            go_wp2_with (go_at_call 36; go_must (refine (Span_any _ _ _).mono ?_; rintro e w15 ⟨rfl, hb⟩; dsimp only))
            replace hB := hB.trans (hb.mono hB.size)
            clear hb
            refine hK.out _ _ (KE.out _ hB) (fun hHeld => ?_)
            (try simp only [Act.put, List.getElem_toArray, List.getElem_cons_succ, List.getElem_cons_zero, List.setIfInBounds_toArray, List.set_cons_succ, List.set_cons_zero])
            clear hK
            (refine wpAnyH_take (i := 33) (v := ?_) rfl (by kernel_rfl) (by kernel_rfl) (by kernel_rfl) (fun _ _ _ h => h) (Or.inl ⟨by kernel_rfl, ?_⟩) (by assumption) ?_; rotate_left 1; (focus (intro w hSw; (try dsimp only at hSw); go_simp; first | done | with_reducible rfl)); simp only [Act.put, List.getElem_toArray, List.getElem_cons_succ, List.getElem_cons_zero, List.setIfInBounds_toArray, List.set_cons_succ, List.set_cons_zero])
            (refine wpAnyH_take (i := 34) (v := ?_) rfl (by kernel_rfl) (by kernel_rfl) (by kernel_rfl) (fun _ _ _ h => h) (Or.inl ⟨by kernel_rfl, ?_⟩) (by assumption) ?_; rotate_left 1; (focus (intro w hSw; (try dsimp only at hSw); go_simp; first | done | with_reducible rfl)); simp only [Act.put, List.getElem_toArray, List.getElem_cons_succ, List.getElem_cons_zero, List.setIfInBounds_toArray, List.set_cons_succ, List.set_cons_zero])
            (refine wpAnyH_take (i := 35) (v := ?_) rfl (by kernel_rfl) (by kernel_rfl) (by kernel_rfl) (fun _ _ _ h => h) (Or.inl ⟨by kernel_rfl, ?_⟩) (by assumption) ?_; rotate_left 1; (focus (intro w hSw; (try dsimp only at hSw); go_simp; first | done | with_reducible rfl)); simp only [Act.put, List.getElem_toArray, List.getElem_cons_succ, List.getElem_cons_zero, List.setIfInBounds_toArray, List.set_cons_succ, List.set_cons_zero])
            (refine wpAnyH_take (i := 36) (v := ?_) rfl (by kernel_rfl) (by kernel_rfl) (by kernel_rfl) (fun _ _ _ h => h) (Or.inl ⟨by kernel_rfl, ?_⟩) (by assumption) ?_; rotate_left 1; (focus (intro w hSw; (try dsimp only at hSw); go_simp; first | done | with_reducible rfl)); simp only [Act.put, List.getElem_toArray, List.getElem_cons_succ, List.getElem_cons_zero, List.setIfInBounds_toArray, List.set_cons_succ, List.set_cons_zero])
            (refine wpAnyH_take (i := 37) (v := ?_) rfl (by kernel_rfl) (by kernel_rfl) (by kernel_rfl) (fun _ _ _ h => h) (Or.inl ⟨by kernel_rfl, ?_⟩) (by assumption) ?_; rotate_left 1; (focus (intro w hSw; (try dsimp only at hSw); go_simp; first | done | with_reducible rfl)); simp only [Act.put, List.getElem_toArray, List.getElem_cons_succ, List.getElem_cons_zero, List.setIfInBounds_toArray, List.set_cons_succ, List.set_cons_zero])
            (refine wpAnyH_take (i := 38) (v := ?_) rfl (by kernel_rfl) (by kernel_rfl) (by kernel_rfl) (fun _ _ _ h => h) (Or.inl ⟨by kernel_rfl, ?_⟩) (by assumption) ?_; rotate_left 1; (focus (intro w hSw; (try dsimp only at hSw); go_simp; first | done | with_reducible rfl)); simp only [Act.put, List.getElem_toArray, List.getElem_cons_succ, List.getElem_cons_zero, List.setIfInBounds_toArray, List.set_cons_succ, List.set_cons_zero])
            as_aux_lemma =>
              (refine wpAnyH_take (i := 39) (v := ?_) rfl (by kernel_rfl) (by kernel_rfl) (by kernel_rfl) (fun _ _ _ h => h) (Or.inl ⟨by kernel_rfl, ?_⟩) (by assumption) ?_; rotate_left 1; (focus (intro w hSw; (try dsimp only at hSw); go_simp; first | done | with_reducible rfl)); simp only [Act.put, List.getElem_toArray, List.getElem_cons_succ, List.getElem_cons_zero, List.setIfInBounds_toArray, List.set_cons_succ, List.set_cons_zero])
              (refine wpAnyH_take (i := 40) (v := ?_) rfl (by kernel_rfl) (by kernel_rfl) (by kernel_rfl) (fun _ _ _ h => h) (Or.inl ⟨by kernel_rfl, ?_⟩) (by assumption) ?_; rotate_left 1; (focus (intro w hSw; (try dsimp only at hSw); go_simp; first | done | with_reducible rfl)); simp only [Act.put, List.getElem_toArray, List.getElem_cons_succ, List.getElem_cons_zero, List.setIfInBounds_toArray, List.set_cons_succ, List.set_cons_zero])
              (refine wpAnyH_take (i := 41) (v := ?_) rfl (by kernel_rfl) (by kernel_rfl) (by kernel_rfl) (fun _ _ _ h => h) (Or.inl ⟨by kernel_rfl, ?_⟩) (by assumption) ?_; rotate_left 1; (focus (intro w hSw; (try dsimp only at hSw); go_simp; first | done | with_reducible rfl)); simp only [Act.put, List.getElem_toArray, List.getElem_cons_succ, List.getElem_cons_zero, List.setIfInBounds_toArray, List.set_cons_succ, List.set_cons_zero])
              (refine wpAnyH_take (i := 42) (v := ?_) rfl (by kernel_rfl) (by kernel_rfl) (by kernel_rfl) (fun _ _ _ h => h) (Or.inl ⟨by kernel_rfl, ?_⟩) (by assumption) ?_; rotate_left 1; (focus (intro w hSw; (try dsimp only at hSw); go_simp; first | done | with_reducible rfl)); simp only [Act.put, List.getElem_toArray, List.getElem_cons_succ, List.getElem_cons_zero, List.setIfInBounds_toArray, List.set_cons_succ, List.set_cons_zero])
              (refine wpAnyH_take (i := 43) (v := ?_) rfl (by kernel_rfl) (by kernel_rfl) (by kernel_rfl) (fun _ _ _ h => h) (Or.inl ⟨by kernel_rfl, ?_⟩) (by assumption) ?_; rotate_left 1; (focus (intro w hSw; (try dsimp only at hSw); go_simp; first | done | with_reducible rfl)); simp only [Act.put, List.getElem_toArray, List.getElem_cons_succ, List.getElem_cons_zero, List.setIfInBounds_toArray, List.set_cons_succ, List.set_cons_zero])
              (refine wpAnyH_take (i := 44) (v := ?_) rfl (by kernel_rfl) (by kernel_rfl) (by kernel_rfl) (fun _ _ _ h => h) (Or.inl ⟨by kernel_rfl, ?_⟩) (by assumption) ?_; rotate_left 1; (focus (intro w hSw; (try dsimp only at hSw); go_simp; first | done | with_reducible rfl)); simp only [Act.put, List.getElem_toArray, List.getElem_cons_succ, List.getElem_cons_zero, List.setIfInBounds_toArray, List.set_cons_succ, List.set_cons_zero])
              (refine wpAnyH_take (i := 45) (v := ?_) rfl (by kernel_rfl) (by kernel_rfl) (by kernel_rfl) (fun _ _ _ h => h) (Or.inl ⟨by kernel_rfl, ?_⟩) (by assumption) ?_; rotate_left 1; (focus (intro w hSw; (try dsimp only at hSw); go_simp; first | done | with_reducible rfl)); simp only [Act.put, List.getElem_toArray, List.getElem_cons_succ, List.getElem_cons_zero, List.setIfInBounds_toArray, List.set_cons_succ, List.set_cons_zero])
              (refine wpAnyH_take (i := 46) (v := ?_) rfl (by kernel_rfl) (by kernel_rfl) (by kernel_rfl) (fun _ _ _ h => h) (Or.inl ⟨by kernel_rfl, ?_⟩) (by assumption) ?_; rotate_left 1; (focus (intro w hSw; (try dsimp only at hSw); go_simp; first | done | with_reducible rfl)); simp only [Act.put, List.getElem_toArray, List.getElem_cons_succ, List.getElem_cons_zero, List.setIfInBounds_toArray, List.set_cons_succ, List.set_cons_zero])
              as_aux_lemma =>
                (refine wpAnyH_take (i := 47) (v := ?_) rfl (by kernel_rfl) (by kernel_rfl) (by kernel_rfl) (fun _ _ _ h => h) (Or.inl ⟨by kernel_rfl, ?_⟩) (by assumption) ?_; rotate_left 1; (focus (intro w hSw; (try dsimp only at hSw); go_simp; first | done | with_reducible rfl)); simp only [Act.put, List.getElem_toArray, List.getElem_cons_succ, List.getElem_cons_zero, List.setIfInBounds_toArray, List.set_cons_succ, List.set_cons_zero])
                (refine wpAnyH_take (i := 48) (v := ?_) rfl (by kernel_rfl) (by kernel_rfl) (by kernel_rfl) (fun _ _ _ h => h) (Or.inl ⟨by kernel_rfl, ?_⟩) (by assumption) ?_; rotate_left 1; (focus (intro w hSw; (try dsimp only at hSw); go_simp; first | done | with_reducible rfl)); simp only [Act.put, List.getElem_toArray, List.getElem_cons_succ, List.getElem_cons_zero, List.setIfInBounds_toArray, List.set_cons_succ, List.set_cons_zero])
                (refine wpAnyH_take (i := 49) (v := ?_) rfl (by kernel_rfl) (by kernel_rfl) (by kernel_rfl) (fun _ _ _ h => h) (Or.inl ⟨by kernel_rfl, ?_⟩) (by assumption) ?_; rotate_left 1; (focus (intro w hSw; (try dsimp only at hSw); go_simp; first | done | with_reducible rfl)); simp only [Act.put, List.getElem_toArray, List.getElem_cons_succ, List.getElem_cons_zero, List.setIfInBounds_toArray, List.set_cons_succ, List.set_cons_zero])
                (refine wpAnyH_take (i := 50) (v := ?_) rfl (by kernel_rfl) (by kernel_rfl) (by kernel_rfl) (fun _ _ _ h => h) (Or.inl ⟨by kernel_rfl, ?_⟩) (by assumption) ?_; rotate_left 1; (focus (intro w hSw; (try dsimp only at hSw); go_simp; first | done | with_reducible rfl)); simp only [Act.put, List.getElem_toArray, List.getElem_cons_succ, List.getElem_cons_zero, List.setIfInBounds_toArray, List.set_cons_succ, List.set_cons_zero])
                (refine wpAnyH_take (i := 51) (v := ?_) rfl (by kernel_rfl) (by kernel_rfl) (by kernel_rfl) (fun _ _ _ h => h) (Or.inl ⟨by kernel_rfl, ?_⟩) (by assumption) ?_; rotate_left 1; (focus (intro w hSw; (try dsimp only at hSw); go_simp; first | done | with_reducible rfl)); simp only [Act.put, List.getElem_toArray, List.getElem_cons_succ, List.getElem_cons_zero, List.setIfInBounds_toArray, List.set_cons_succ, List.set_cons_zero])
                (refine wpAnyH_take (i := 52) (v := ?_) rfl (by kernel_rfl) (by kernel_rfl) (by kernel_rfl) (fun _ _ _ h => h) (Or.inl ⟨by kernel_rfl, ?_⟩) (by assumption) ?_; rotate_left 1; (focus (intro w hSw; (try dsimp only at hSw); go_simp; first | done | with_reducible rfl)); simp only [Act.put, List.getElem_toArray, List.getElem_cons_succ, List.getElem_cons_zero, List.setIfInBounds_toArray, List.set_cons_succ, List.set_cons_zero])
                (refine wpAnyH_take (i := 53) (v := ?_) rfl (by kernel_rfl) (by kernel_rfl) (by kernel_rfl) (fun _ _ _ h => h) (Or.inl ⟨by kernel_rfl, ?_⟩) (by assumption) ?_; rotate_left 1; (focus (intro w hSw; (try dsimp only at hSw); go_simp; first | done | with_reducible rfl)); simp only [Act.put, List.getElem_toArray, List.getElem_cons_succ, List.getElem_cons_zero, List.setIfInBounds_toArray, List.set_cons_succ, List.set_cons_zero])
                (refine wpAnyH_take (i := 54) (v := ?_) rfl (by kernel_rfl) (by kernel_rfl) (by kernel_rfl) (fun _ _ _ h => h) (Or.inl ⟨by kernel_rfl, ?_⟩) (by assumption) ?_; rotate_left 1; (focus (intro w hSw; (try dsimp only at hSw); go_simp; first | done | with_reducible rfl)); simp only [Act.put, List.getElem_toArray, List.getElem_cons_succ, List.getElem_cons_zero, List.setIfInBounds_toArray, List.set_cons_succ, List.set_cons_zero])
                as_aux_lemma =>
                  (refine wpAnyH_take (i := 55) (v := ?_) rfl (by kernel_rfl) (by kernel_rfl) (by kernel_rfl) (fun _ _ _ h => h) (Or.inl ⟨by kernel_rfl, ?_⟩) (by assumption) ?_; rotate_left 1; (focus (intro w hSw; (try dsimp only at hSw); go_simp; first | done | with_reducible rfl)); simp only [Act.put, List.getElem_toArray, List.getElem_cons_succ, List.getElem_cons_zero, List.setIfInBounds_toArray, List.set_cons_succ, List.set_cons_zero])
                  (refine wpAnyH_take (i := 56) (v := ?_) rfl (by kernel_rfl) (by kernel_rfl) (by kernel_rfl) (fun _ _ _ h => h) (Or.inl ⟨by kernel_rfl, ?_⟩) (by assumption) ?_; rotate_left 1; (focus (intro w hSw; (try dsimp only at hSw); go_simp; first | done | with_reducible rfl)); simp only [Act.put, List.getElem_toArray, List.getElem_cons_succ, List.getElem_cons_zero, List.setIfInBounds_toArray, List.set_cons_succ, List.set_cons_zero])
                  (refine wpAnyH_take (i := 57) (v := ?_) rfl (by kernel_rfl) (by kernel_rfl) (by kernel_rfl) (fun _ _ _ h => h) (Or.inl ⟨by kernel_rfl, ?_⟩) (by assumption) ?_; rotate_left 1; (focus (intro w hSw; (try dsimp only at hSw); go_simp; first | done | with_reducible rfl)); simp only [Act.put, List.getElem_toArray, List.getElem_cons_succ, List.getElem_cons_zero, List.setIfInBounds_toArray, List.set_cons_succ, List.set_cons_zero])
                  (refine wpAnyH_take (i := 58) (v := ?_) rfl (by kernel_rfl) (by kernel_rfl) (by kernel_rfl) (fun _ _ _ h => h) (Or.inl ⟨by kernel_rfl, ?_⟩) (by assumption) ?_; rotate_left 1; (focus (intro w hSw; (try dsimp only at hSw); go_simp; first | done | with_reducible rfl)); simp only [Act.put, List.getElem_toArray, List.getElem_cons_succ, List.getElem_cons_zero, List.setIfInBounds_toArray, List.set_cons_succ, List.set_cons_zero])
                  (refine wpAnyH_take (i := 59) (v := ?_) rfl (by kernel_rfl) (by kernel_rfl) (by kernel_rfl) (fun _ _ _ h => h) (Or.inl ⟨by kernel_rfl, ?_⟩) (by assumption) ?_; rotate_left 1; (focus (intro w hSw; (try dsimp only at hSw); go_simp; first | done | with_reducible rfl)); simp only [Act.put, List.getElem_toArray, List.getElem_cons_succ, List.getElem_cons_zero, List.setIfInBounds_toArray, List.set_cons_succ, List.set_cons_zero])
                  (refine wpAnyH_take (i := 60) (v := ?_) rfl (by kernel_rfl) (by kernel_rfl) (by kernel_rfl) (fun _ _ _ h => h) (Or.inl ⟨by kernel_rfl, ?_⟩) (by assumption) ?_; rotate_left 1; (focus (intro w hSw; (try dsimp only at hSw); go_simp; first | done | with_reducible rfl)); simp only [Act.put, List.getElem_toArray, List.getElem_cons_succ, List.getElem_cons_zero, List.setIfInBounds_toArray, List.set_cons_succ, List.set_cons_zero])
                  (refine wpAnyH_take (i := 61) (v := ?_) rfl (by kernel_rfl) (by kernel_rfl) (by kernel_rfl) (fun _ _ _ h => h) (Or.inl ⟨by kernel_rfl, ?_⟩) (by assumption) ?_; rotate_left 1; (focus (intro w hSw; (try dsimp only at hSw); go_simp; first | done | with_reducible rfl)); simp only [Act.put, List.getElem_toArray, List.getElem_cons_succ, List.getElem_cons_zero, List.setIfInBounds_toArray, List.set_cons_succ, List.set_cons_zero])
                  (refine wpAnyH_take (i := 62) (v := ?_) rfl (by kernel_rfl) (by kernel_rfl) (by kernel_rfl) (fun _ _ _ h => h) (Or.inl ⟨by kernel_rfl, ?_⟩) (by assumption) ?_; rotate_left 1; (focus (intro w hSw; (try dsimp only at hSw); go_simp; first | done | with_reducible rfl)); simp only [Act.put, List.getElem_toArray, List.getElem_cons_succ, List.getElem_cons_zero, List.setIfInBounds_toArray, List.set_cons_succ, List.set_cons_zero])
                  as_aux_lemma =>
                    (refine wpAnyH_take (i := 63) (v := ?_) rfl (by kernel_rfl) (by kernel_rfl) (by kernel_rfl) (fun _ _ _ h => h) (Or.inl ⟨by kernel_rfl, ?_⟩) (by assumption) ?_; rotate_left 1; (focus (intro w hSw; (try dsimp only at hSw); go_simp; first | done | with_reducible rfl)); simp only [Act.put, List.getElem_toArray, List.getElem_cons_succ, List.getElem_cons_zero, List.setIfInBounds_toArray, List.set_cons_succ, List.set_cons_zero])
                    (refine wpAnyH_take (i := 64) (v := ?_) rfl (by kernel_rfl) (by kernel_rfl) (by kernel_rfl) (fun _ _ _ h => h) (Or.inl ⟨by kernel_rfl, ?_⟩) (by assumption) ?_; rotate_left 1; (focus (intro w hSw; (try dsimp only at hSw); go_simp; first | done | with_reducible rfl)); simp only [Act.put, List.getElem_toArray, List.getElem_cons_succ, List.getElem_cons_zero, List.setIfInBounds_toArray, List.set_cons_succ, List.set_cons_zero])
                    (refine wpAnyH_take (i := 65) (v := ?_) rfl (by kernel_rfl) (by kernel_rfl) (by kernel_rfl) (fun _ _ _ h => h) (Or.inl ⟨by kernel_rfl, ?_⟩) (by assumption) ?_; rotate_left 1; (focus (intro w hSw; (try dsimp only at hSw); go_simp; first | done | with_reducible rfl)); simp only [Act.put, List.getElem_toArray, List.getElem_cons_succ, List.getElem_cons_zero, List.setIfInBounds_toArray, List.set_cons_succ, List.set_cons_zero])
                    (refine wpAnyH_take (i := 66) (v := ?_) rfl (by kernel_rfl) (by kernel_rfl) (by kernel_rfl) (fun _ _ _ h => h) (Or.inl ⟨by kernel_rfl, ?_⟩) (by assumption) ?_; rotate_left 1; (focus (intro w hSw; (try dsimp only at hSw); go_simp; first | done | with_reducible rfl)); simp only [Act.put, List.getElem_toArray, List.getElem_cons_succ, List.getElem_cons_zero, List.setIfInBounds_toArray, List.set_cons_succ, List.set_cons_zero])
                    (refine wpAnyH_ready (rs := [67]) (by kernel_rfl) (by simp) ?_; refine AllReadyH.cons rfl (fun K hK => ?_) AllReadyH.nil; go_simp)
                    go_wp2_with (go_at_call 22; go_must (refine (Awake_any _).mono ?_; rintro e w16 ⟨rfl, hb⟩; dsimp only))
                    replace hB := hB.trans (hb.mono hB.size)
                    clear hb
                    refine hK.out _ _ (KE.out _ hB) (fun hHeld => ?_)
                    (try simp only [Act.put, List.getElem_toArray, List.getElem_cons_succ, List.getElem_cons_zero, List.setIfInBounds_toArray, List.set_cons_succ, List.set_cons_zero])
                    clear hK
                    (refine wpAnyH_take (i := 68) (v := ?_) rfl (by kernel_rfl) (by kernel_rfl) (by kernel_rfl) (fun _ _ _ h => h) (Or.inl ⟨by kernel_rfl, ?_⟩) (by assumption) ?_; rotate_left 1; (focus (intro w hSw; (try dsimp only at hSw); go_simp; first | done | with_reducible rfl)); simp only [Act.put, List.getElem_toArray, List.getElem_cons_succ, List.getElem_cons_zero, List.setIfInBounds_toArray, List.set_cons_succ, List.set_cons_zero])
                    (refine wpAnyH_take (i := 69) (v := ?_) rfl (by kernel_rfl) (by kernel_rfl) (by kernel_rfl) (fun _ _ _ h => h) (Or.inl ⟨by kernel_rfl, ?_⟩) (by assumption) ?_; rotate_left 1; (focus (intro w hSw; (try dsimp only at hSw); go_simp; first | done | with_reducible rfl)); simp only [Act.put, List.getElem_toArray, List.getElem_cons_succ, List.getElem_cons_zero, List.setIfInBounds_toArray, List.set_cons_succ, List.set_cons_zero])
                    refine wpAnyH_done (by kernel_rfl) ?_ _
                    go_wp2
                    go_ret
                    exact ⟨rfl, hE.out.trans (hB.mono hEz.out)⟩
end Go.Proofs.Ytmhbjohpggghgaa
