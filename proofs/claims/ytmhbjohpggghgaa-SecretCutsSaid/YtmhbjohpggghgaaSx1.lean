/- What is proved here: the walks of the statements of layer 12 that compare: they return true, and turn nothing that was there. Conditions: the room lies in memory. -/
import Derived.Test.YtmhbjohpggghgaaSw3
set_option linter.unusedVariables false
set_option linter.unusedSimpArgs false
namespace Go.Proofs.Ytmhbjohpggghgaa
open Go Go.RowKit
set_option maxRecDepth 100000 in
set_option maxHeartbeats 4000000 in
theorem SecretKnows_walk (a1 a2 a3 a4 a5 : Option Addr) (k1 k2 k3 k4 k5 : Nat) (r : SeRoom) (y0 y1 y2 : Int) (w : World) (hm : RoomC w a1 a2 a3 a4 a5 k1 k2 k3 k4 k5 r) : Calls Try.prog 3 #[(.agg #[.slice a1 r.writers.length k1, .slice a2 r.kept.length k2, .slice a3 r.leaks.length k3, .slice a4 r.letters.length k4, .slice a5 r.heard.length k5]), .agg #[.int .i64 y0, .int .i64 y1, .int .i64 y2]] w fun e w' => e = .returned (.bool true) ∧ Below w.heap.size w w' := by
  obtain ⟨⟨q1, q2, q3⟩, h1⟩ : ∃ x, seCheck r = x := ⟨_, rfl⟩
  obtain ⟨⟨⟨lo, hi⟩, m1, e1⟩, h2⟩ : ∃ x, sinceOf r y0 y1 = x := ⟨_, rfl⟩
  obtain ⟨⟨m2, e2⟩, h3⟩ : ∃ x, knowsOf r y0 y1 y2 = x := ⟨_, rfl⟩
  replace h1 := Lib.hid h1
  replace h2 := Lib.hid h2
  replace h3 := Lib.hid h3
  obtain ⟨X, hX⟩ : ∃ X : World, X = ((w.alloc (.cells #[.slice a1 r.writers.length k1, .slice a2 r.kept.length k2, .slice a3 r.leaks.length k3, .slice a4 r.letters.length k4, .slice a5 r.heard.length k5] 28)).alloc (.cells #[.int .i64 y0, .int .i64 y1, .int .i64 y2] 29)) := ⟨_, rfl⟩
  have hwX : Below w.heap.size w X := by rw [hX]; exact (by (repeat' (first | assumption | exact Below.refl _ _ | refine below_drew' ?_ | refine Below.setCell ?_ (by first | omega | (simp <;> omega)) _ | refine Below.alloc ?_ (by first | omega | (simp <;> omega)) _)))
  have g1 : X.heap[w.heap.size]? = some (.cells #[.slice a1 r.writers.length k1, .slice a2 r.kept.length k2, .slice a3 r.leaks.length k3, .slice a4 r.letters.length k4, .slice a5 r.heard.length k5] 28 (0, 0)) := by rw [hX]; (repeat' (first | exact alloc_at _ _ (by simp) | refine (heap_alloc_old _ _ (by first | omega | (simp <;> omega))).trans ?_))
  have g2 : X.heap[w.heap.size + 1]? = some (.cells #[.int .i64 y0, .int .i64 y1, .int .i64 y2] 29 (0, 0)) := by rw [hX]; (repeat' (first | exact alloc_at _ _ (by simp) | refine (heap_alloc_old _ _ (by first | omega | (simp <;> omega))).trans ?_))
  replace g1 := fun (V : World) (h : Below X.heap.size X V) => (h.block _ (lt_of_block g1)).trans g1
  replace g2 := fun (V : World) (h : Below X.heap.size X V) => (h.block _ (lt_of_block g2)).trans g2
  have HC : Hid (∀ V, Below X.heap.size X V → (V.cell? ⟨w.heap.size, 0, none⟩ = some (.slice a1 r.writers.length k1) ∧ V.cell? ⟨w.heap.size, 1, none⟩ = some (.slice a2 r.kept.length k2) ∧ V.cell? ⟨w.heap.size, 2, none⟩ = some (.slice a3 r.leaks.length k3) ∧ V.cell? ⟨w.heap.size, 3, none⟩ = some (.slice a4 r.letters.length k4) ∧ V.cell? ⟨w.heap.size, 4, none⟩ = some (.slice a5 r.heard.length k5) ∧ V.cell? ⟨w.heap.size + 1, 0, none⟩ = some (.int .i64 y0) ∧ V.cell? ⟨w.heap.size + 1, 1, none⟩ = some (.int .i64 y1) ∧ V.cell? ⟨w.heap.size + 1, 2, none⟩ = some (.int .i64 y2) ∧ w.heap.size < V.heap.size ∧ w.heap.size + 1 < V.heap.size)) := Lib.hid (fun V h => ⟨blk_cell 0 (g1 V h) rfl, blk_cell 1 (g1 V h) rfl, blk_cell 2 (g1 V h) rfl, blk_cell 3 (g1 V h) rfl, blk_cell 4 (g1 V h) rfl, blk_cell 0 (g2 V h) rfl, blk_cell 1 (g2 V h) rfl, blk_cell 2 (g2 V h) rfl, lt_of_block (g1 V h), lt_of_block (g2 V h)⟩)
  have M := Lib.hid (fun (V : World) (h : Below X.heap.size X V) => (hm.mono hwX).mono h)
  clear g1 g2
  have hQ := Below.refl X.heap.size X
  have hx := HC.out _ hQ
  go_enter Try.func3, Try.ntmps3
  go_upto_region 1 with (fail)
  rw [← hX]
  clear hX
  go_wp2_with (first
    | (go_at_call 22; (with_reducible refine (Awake_any _).mono ?_); rintro e w8 ⟨rfl, hb⟩; replace hQ := q_on hQ hb; replace hx := HC.out _ hQ; dsimp only)
    | (go_at_call 21; (with_reducible refine (B_Knows _ _ _ _ _ _ _ _ _ _ r y0 y1 y2 m2 e2 h3.out _ (M.out _ hQ)).mono ?_); rintro e w7 ⟨rfl, hb⟩; replace hQ := q_on hQ hb; replace hx := HC.out _ hQ; dsimp only)
    | (go_at_call 20; (with_reducible refine (A_Knows _ _ _ _ _ _ _ _ _ _ r y0 y1 y2 m2 e2 h3.out _ (M.out _ hQ)).mono ?_); rintro e w6 ⟨rfl, hb⟩; replace hQ := q_on hQ hb; replace hx := HC.out _ hQ; dsimp only)
    | (go_at_call 19; (with_reducible refine (B_Since _ _ _ _ _ _ _ _ _ _ r y0 y1 lo hi m1 e1 h2.out _ (M.out _ hQ)).mono ?_); rintro e w5 ⟨rfl, hb⟩; replace hQ := q_on hQ hb; replace hx := HC.out _ hQ; replace s1 := sp_on s1 hb; have s2 := sp_new w5 lo hi 34; replace hb := al_on w5 (.cells #[.int .i64 lo, .int .i64 hi] 34); replace hQ := q_on hQ hb; replace hx := HC.out _ hQ; replace s1 := sp_on s1 hb; obtain ⟨p1, p2, p3⟩ := s1; obtain ⟨p4, p5, p6⟩ := s2; dsimp only)
    | (go_at_call 18; (with_reducible refine (A_Since _ _ _ _ _ _ _ _ _ _ r y0 y1 lo hi m1 e1 h2.out _ (M.out _ hQ)).mono ?_); rintro e w4 ⟨rfl, hb⟩; replace hQ := q_on hQ hb; replace hx := HC.out _ hQ; have s1 := sp_new w4 lo hi 34; replace hb := al_on w4 (.cells #[.int .i64 lo, .int .i64 hi] 34); replace hQ := q_on hQ hb; replace hx := HC.out _ hQ; dsimp only)
    | (go_at_call 17; (with_reducible refine (B_Check _ _ _ _ _ _ _ _ _ _ r q1 q2 q3 h1.out _ (M.out _ hQ)).mono ?_); rintro e w3 ⟨rfl, hb⟩; replace hQ := q_on hQ hb; replace hx := HC.out _ hQ; dsimp only)
    | (go_at_call 16; (with_reducible refine (A_Check _ _ _ _ _ _ _ _ _ _ r q1 q2 q3 h1.out _ (M.out _ hQ)).mono ?_); rintro e w2 ⟨rfl, hb⟩; replace hQ := q_on hQ hb; replace hx := HC.out _ hQ; dsimp only))
  go_ret
  exact ⟨rfl, hwX.trans (hQ.mono hwX.size)⟩
set_option maxRecDepth 100000 in
set_option maxHeartbeats 4000000 in
theorem SecretTolds_walk (a1 a2 a3 a4 a5 : Option Addr) (k1 k2 k3 k4 k5 : Nat) (r : SeRoom) (n : Int) (w : World) (hm : RoomC w a1 a2 a3 a4 a5 k1 k2 k3 k4 k5 r) : Calls Try.prog 4 #[(.agg #[.slice a1 r.writers.length k1, .slice a2 r.kept.length k2, .slice a3 r.leaks.length k3, .slice a4 r.letters.length k4, .slice a5 r.heard.length k5]), .int .i64 n] w fun e w' => e = .returned (.bool true) ∧ Below w.heap.size w w' := by
  obtain ⟨⟨m1, e1⟩, h1⟩ : ∃ x, toldOf r n = x := ⟨_, rfl⟩
  obtain ⟨⟨l2, e2⟩, h2⟩ : ∃ x, seWrongOf r = x := ⟨_, rfl⟩
  replace h1 := Lib.hid h1
  replace h2 := Lib.hid h2
  obtain ⟨X, hX⟩ : ∃ X : World, X = (w.alloc (.cells #[.slice a1 r.writers.length k1, .slice a2 r.kept.length k2, .slice a3 r.leaks.length k3, .slice a4 r.letters.length k4, .slice a5 r.heard.length k5] 28)) := ⟨_, rfl⟩
  have hwX : Below w.heap.size w X := by rw [hX]; exact (by (repeat' (first | assumption | exact Below.refl _ _ | refine below_drew' ?_ | refine Below.setCell ?_ (by first | omega | (simp <;> omega)) _ | refine Below.alloc ?_ (by first | omega | (simp <;> omega)) _)))
  have g1 : X.heap[w.heap.size]? = some (.cells #[.slice a1 r.writers.length k1, .slice a2 r.kept.length k2, .slice a3 r.leaks.length k3, .slice a4 r.letters.length k4, .slice a5 r.heard.length k5] 28 (0, 0)) := by rw [hX]; (repeat' (first | exact alloc_at _ _ (by simp) | refine (heap_alloc_old _ _ (by first | omega | (simp <;> omega))).trans ?_))
  replace g1 := fun (V : World) (h : Below X.heap.size X V) => (h.block _ (lt_of_block g1)).trans g1
  have HC : Hid (∀ V, Below X.heap.size X V → (V.cell? ⟨w.heap.size, 0, none⟩ = some (.slice a1 r.writers.length k1) ∧ V.cell? ⟨w.heap.size, 1, none⟩ = some (.slice a2 r.kept.length k2) ∧ V.cell? ⟨w.heap.size, 2, none⟩ = some (.slice a3 r.leaks.length k3) ∧ V.cell? ⟨w.heap.size, 3, none⟩ = some (.slice a4 r.letters.length k4) ∧ V.cell? ⟨w.heap.size, 4, none⟩ = some (.slice a5 r.heard.length k5) ∧ w.heap.size < V.heap.size)) := Lib.hid (fun V h => ⟨blk_cell 0 (g1 V h) rfl, blk_cell 1 (g1 V h) rfl, blk_cell 2 (g1 V h) rfl, blk_cell 3 (g1 V h) rfl, blk_cell 4 (g1 V h) rfl, lt_of_block (g1 V h)⟩)
  have M := Lib.hid (fun (V : World) (h : Below X.heap.size X V) => (hm.mono hwX).mono h)
  clear g1
  have hQ := Below.refl X.heap.size X
  have hx := HC.out _ hQ
  go_enter Try.func4, Try.ntmps4
  go_upto_region 1 with (fail)
  rw [← hX]
  clear hX
  go_wp2_with (first
    | (go_at_call 22; (with_reducible refine (Awake_any _).mono ?_); rintro e w7 ⟨rfl, hb⟩; replace hQ := q_on hQ hb; replace hx := HC.out _ hQ; replace i1 := i1.mono hb; replace i2 := i2.mono hb; dsimp only)
    | (go_at_call 27; (with_reducible refine (Ints_same o1 i1 i2).mono ?_); rintro e w6 ⟨rfl, hb⟩; replace hQ := q_on hQ hb; replace hx := HC.out _ hQ; replace i1 := i1.mono hb; replace i2 := i2.mono hb; dsimp only)
    | (go_at_call 26; (with_reducible refine (B_Wrong _ _ _ _ _ _ _ _ _ _ r l2 e2 h2.out _ (M.out _ hQ)).mono ?_); rintro e w5 ⟨a92, c2, rfl, o2, i2, hb⟩; replace hQ := q_on hQ hb; replace hx := HC.out _ hQ; replace i1 := i1.mono hb; dsimp only)
    | (go_at_call 25; (with_reducible refine (A_Wrong _ _ _ _ _ _ _ _ _ _ r l2 e2 h2.out _ (M.out _ hQ)).mono ?_); rintro e w4 ⟨a91, c1, rfl, o1, i1, hb⟩; replace hQ := q_on hQ hb; replace hx := HC.out _ hQ; dsimp only)
    | (go_at_call 24; (with_reducible refine (B_Told _ _ _ _ _ _ _ _ _ _ r n m1 e1 h1.out _ (M.out _ hQ)).mono ?_); rintro e w3 ⟨rfl, hb⟩; replace hQ := q_on hQ hb; replace hx := HC.out _ hQ; dsimp only)
    | (go_at_call 23; (with_reducible refine (A_Told _ _ _ _ _ _ _ _ _ _ r n m1 e1 h1.out _ (M.out _ hQ)).mono ?_); rintro e w2 ⟨rfl, hb⟩; replace hQ := q_on hQ hb; replace hx := HC.out _ hQ; dsimp only))
  go_ret
  exact ⟨rfl, hwX.trans (hQ.mono hwX.size)⟩
set_option maxRecDepth 100000 in
set_option maxHeartbeats 4000000 in
theorem SecretPlans_walk (a1 a2 a3 a4 a5 : Option Addr) (k1 k2 k3 k4 k5 : Nat) (r : SeRoom) (n : Int) (w : World) (hm : RoomC w a1 a2 a3 a4 a5 k1 k2 k3 k4 k5 r) : Calls Try.prog 5 #[(.agg #[.slice a1 r.writers.length k1, .slice a2 r.kept.length k2, .slice a3 r.leaks.length k3, .slice a4 r.letters.length k4, .slice a5 r.heard.length k5]), .int .i64 n] w fun e w' => e = .returned (.bool true) ∧ Below w.heap.size w w' := by
  obtain ⟨⟨l1, e1⟩, h1⟩ : ∃ x, mayOf r n = x := ⟨_, rfl⟩
  obtain ⟨⟨l2, n2, e2⟩, h2⟩ : ∃ x, planOf r = x := ⟨_, rfl⟩
  replace h1 := Lib.hid h1
  replace h2 := Lib.hid h2
  obtain ⟨X, hX⟩ : ∃ X : World, X = (w.alloc (.cells #[.slice a1 r.writers.length k1, .slice a2 r.kept.length k2, .slice a3 r.leaks.length k3, .slice a4 r.letters.length k4, .slice a5 r.heard.length k5] 28)) := ⟨_, rfl⟩
  have hwX : Below w.heap.size w X := by rw [hX]; exact (by (repeat' (first | assumption | exact Below.refl _ _ | refine below_drew' ?_ | refine Below.setCell ?_ (by first | omega | (simp <;> omega)) _ | refine Below.alloc ?_ (by first | omega | (simp <;> omega)) _)))
  have g1 : X.heap[w.heap.size]? = some (.cells #[.slice a1 r.writers.length k1, .slice a2 r.kept.length k2, .slice a3 r.leaks.length k3, .slice a4 r.letters.length k4, .slice a5 r.heard.length k5] 28 (0, 0)) := by rw [hX]; (repeat' (first | exact alloc_at _ _ (by simp) | refine (heap_alloc_old _ _ (by first | omega | (simp <;> omega))).trans ?_))
  replace g1 := fun (V : World) (h : Below X.heap.size X V) => (h.block _ (lt_of_block g1)).trans g1
  have HC : Hid (∀ V, Below X.heap.size X V → (V.cell? ⟨w.heap.size, 0, none⟩ = some (.slice a1 r.writers.length k1) ∧ V.cell? ⟨w.heap.size, 1, none⟩ = some (.slice a2 r.kept.length k2) ∧ V.cell? ⟨w.heap.size, 2, none⟩ = some (.slice a3 r.leaks.length k3) ∧ V.cell? ⟨w.heap.size, 3, none⟩ = some (.slice a4 r.letters.length k4) ∧ V.cell? ⟨w.heap.size, 4, none⟩ = some (.slice a5 r.heard.length k5) ∧ w.heap.size < V.heap.size)) := Lib.hid (fun V h => ⟨blk_cell 0 (g1 V h) rfl, blk_cell 1 (g1 V h) rfl, blk_cell 2 (g1 V h) rfl, blk_cell 3 (g1 V h) rfl, blk_cell 4 (g1 V h) rfl, lt_of_block (g1 V h)⟩)
  have M := Lib.hid (fun (V : World) (h : Below X.heap.size X V) => (hm.mono hwX).mono h)
  clear g1
  have hQ := Below.refl X.heap.size X
  have hx := HC.out _ hQ
  go_enter Try.func5, Try.ntmps5
  go_upto_region 1 with (fail)
  rw [← hX]
  clear hX
  go_wp2_with (first
    | (go_at_call 22; (with_reducible refine (Awake_any _).mono ?_); rintro e w8 ⟨rfl, hb⟩; replace hQ := q_on hQ hb; replace hx := HC.out _ hQ; replace i1 := i1.mono hb; replace i2 := i2.mono hb; replace i3 := i3.mono hb; replace i4 := i4.mono hb; dsimp only)
    | (go_at_call 27; (with_reducible refine (Ints_same o3 i3 i4).mono ?_); rintro e w7 ⟨rfl, hb⟩; replace hQ := q_on hQ hb; replace hx := HC.out _ hQ; replace i1 := i1.mono hb; replace i2 := i2.mono hb; replace i3 := i3.mono hb; replace i4 := i4.mono hb; dsimp only)
    | (go_at_call 31; (with_reducible refine (B_Plan _ _ _ _ _ _ _ _ _ _ r l2 n2 e2 h2.out _ (M.out _ hQ)).mono ?_); rintro e w6 ⟨a94, c4, rfl, o4, i4, hb⟩; replace hQ := q_on hQ hb; replace hx := HC.out _ hQ; replace i1 := i1.mono hb; replace i2 := i2.mono hb; replace i3 := i3.mono hb; dsimp only)
    | (go_at_call 30; (with_reducible refine (A_Plan _ _ _ _ _ _ _ _ _ _ r l2 n2 e2 h2.out _ (M.out _ hQ)).mono ?_); rintro e w5 ⟨a93, c3, rfl, o3, i3, hb⟩; replace hQ := q_on hQ hb; replace hx := HC.out _ hQ; replace i1 := i1.mono hb; replace i2 := i2.mono hb; dsimp only)
    | (go_at_call 27; (with_reducible refine (Ints_same o1 i1 i2).mono ?_); rintro e w4 ⟨rfl, hb⟩; replace hQ := q_on hQ hb; replace hx := HC.out _ hQ; replace i1 := i1.mono hb; replace i2 := i2.mono hb; dsimp only)
    | (go_at_call 29; (with_reducible refine (B_May _ _ _ _ _ _ _ _ _ _ r n l1 e1 h1.out _ (M.out _ hQ)).mono ?_); rintro e w3 ⟨a92, c2, rfl, o2, i2, hb⟩; replace hQ := q_on hQ hb; replace hx := HC.out _ hQ; replace i1 := i1.mono hb; dsimp only)
    | (go_at_call 28; (with_reducible refine (A_May _ _ _ _ _ _ _ _ _ _ r n l1 e1 h1.out _ (M.out _ hQ)).mono ?_); rintro e w2 ⟨a91, c1, rfl, o1, i1, hb⟩; replace hQ := q_on hQ hb; replace hx := HC.out _ hQ; dsimp only))
  go_ret
  exact ⟨rfl, hwX.trans (hQ.mono hwX.size)⟩
set_option maxRecDepth 100000 in
set_option maxHeartbeats 4000000 in
theorem SecretCuts_walk (a1 a2 a3 a4 a5 : Option Addr) (k1 k2 k3 k4 k5 : Nat) (r : SeRoom) (n : Int) (w : World) (hm : RoomC w a1 a2 a3 a4 a5 k1 k2 k3 k4 k5 r) : Calls Try.prog 6 #[(.agg #[.slice a1 r.writers.length k1, .slice a2 r.kept.length k2, .slice a3 r.leaks.length k3, .slice a4 r.letters.length k4, .slice a5 r.heard.length k5]), .int .i64 n] w fun e w' => e = .returned (.bool true) ∧ Below w.heap.size w w' := by
  obtain ⟨⟨l1, e1⟩, h1⟩ : ∃ x, cutOf r n = x := ⟨_, rfl⟩
  replace h1 := Lib.hid h1
  obtain ⟨X, hX⟩ : ∃ X : World, X = (w.alloc (.cells #[.slice a1 r.writers.length k1, .slice a2 r.kept.length k2, .slice a3 r.leaks.length k3, .slice a4 r.letters.length k4, .slice a5 r.heard.length k5] 28)) := ⟨_, rfl⟩
  have hwX : Below w.heap.size w X := by rw [hX]; exact (by (repeat' (first | assumption | exact Below.refl _ _ | refine below_drew' ?_ | refine Below.setCell ?_ (by first | omega | (simp <;> omega)) _ | refine Below.alloc ?_ (by first | omega | (simp <;> omega)) _)))
  have g1 : X.heap[w.heap.size]? = some (.cells #[.slice a1 r.writers.length k1, .slice a2 r.kept.length k2, .slice a3 r.leaks.length k3, .slice a4 r.letters.length k4, .slice a5 r.heard.length k5] 28 (0, 0)) := by rw [hX]; (repeat' (first | exact alloc_at _ _ (by simp) | refine (heap_alloc_old _ _ (by first | omega | (simp <;> omega))).trans ?_))
  replace g1 := fun (V : World) (h : Below X.heap.size X V) => (h.block _ (lt_of_block g1)).trans g1
  have HC : Hid (∀ V, Below X.heap.size X V → (V.cell? ⟨w.heap.size, 0, none⟩ = some (.slice a1 r.writers.length k1) ∧ V.cell? ⟨w.heap.size, 1, none⟩ = some (.slice a2 r.kept.length k2) ∧ V.cell? ⟨w.heap.size, 2, none⟩ = some (.slice a3 r.leaks.length k3) ∧ V.cell? ⟨w.heap.size, 3, none⟩ = some (.slice a4 r.letters.length k4) ∧ V.cell? ⟨w.heap.size, 4, none⟩ = some (.slice a5 r.heard.length k5) ∧ w.heap.size < V.heap.size)) := Lib.hid (fun V h => ⟨blk_cell 0 (g1 V h) rfl, blk_cell 1 (g1 V h) rfl, blk_cell 2 (g1 V h) rfl, blk_cell 3 (g1 V h) rfl, blk_cell 4 (g1 V h) rfl, lt_of_block (g1 V h)⟩)
  have M := Lib.hid (fun (V : World) (h : Below X.heap.size X V) => (hm.mono hwX).mono h)
  clear g1
  have hQ := Below.refl X.heap.size X
  have hx := HC.out _ hQ
  go_enter Try.func6, Try.ntmps6
  go_upto_region 1 with (fail)
  rw [← hX]
  clear hX
  go_wp2_with (first
    | (go_at_call 22; (with_reducible refine (Awake_any _).mono ?_); rintro e w5 ⟨rfl, hb⟩; replace hQ := q_on hQ hb; replace hx := HC.out _ hQ; replace i1 := i1.mono hb; replace i2 := i2.mono hb; dsimp only)
    | (go_at_call 27; (with_reducible refine (Ints_same o1 i1 i2).mono ?_); rintro e w4 ⟨rfl, hb⟩; replace hQ := q_on hQ hb; replace hx := HC.out _ hQ; replace i1 := i1.mono hb; replace i2 := i2.mono hb; dsimp only)
    | (go_at_call 33; (with_reducible refine (B_Cut _ _ _ _ _ _ _ _ _ _ r n l1 e1 h1.out _ (M.out _ hQ)).mono ?_); rintro e w3 ⟨a92, c2, rfl, o2, i2, hb⟩; replace hQ := q_on hQ hb; replace hx := HC.out _ hQ; replace i1 := i1.mono hb; dsimp only)
    | (go_at_call 32; (with_reducible refine (A_Cut _ _ _ _ _ _ _ _ _ _ r n l1 e1 h1.out _ (M.out _ hQ)).mono ?_); rintro e w2 ⟨a91, c1, rfl, o1, i1, hb⟩; replace hQ := q_on hQ hb; replace hx := HC.out _ hQ; dsimp only))
  go_ret
  exact ⟨rfl, hwX.trans (hQ.mono hwX.size)⟩
end Go.Proofs.Ytmhbjohpggghgaa
