/- What is proved here: the walk of SecretDays: it returns true, and turns nothing that was there. Conditions: the room lies in memory. -/
import Derived.Test.YtmhbjohpggghgaaSwB
import Derived.Test.YtmhbjohpggghgaaSw3
set_option linter.unusedVariables false
set_option linter.unusedSimpArgs false
namespace Go.Proofs.Ytmhbjohpggghgaa
open Go Go.RowKit
set_option maxRecDepth 100000 in
set_option maxHeartbeats 4000000 in
theorem SecretDays_walk (a1 a2 a3 a4 a5 : Option Addr) (k1 k2 k3 k4 k5 : Nat) (r : SeRoom) (x0 x1 x2 x3 x4 : Nat) (g0 : x0 ≤ 255) (g1 : x1 ≤ 255) (g2 : x2 ≤ 255) (g3 : x3 ≤ 255) (g4 : x4 ≤ 255) (w : World) (hm : RoomC w a1 a2 a3 a4 a5 k1 k2 k3 k4 k5 r) : Calls Try.prog 12 #[(.agg #[.slice a1 r.writers.length k1, .slice a2 r.kept.length k2, .slice a3 r.leaks.length k3, .slice a4 r.letters.length k4, .slice a5 r.heard.length k5]), .agg #[.int .u8 (x0 : Int), .int .u8 (x1 : Int), .int .u8 (x2 : Int), .int .u8 (x3 : Int), .int .u8 (x4 : Int)]] w fun e w' => e = .returned (.bool true) ∧ Below w.heap.size w w' := by
  obtain ⟨X, hX⟩ : ∃ X : World, X = ((w.alloc (.cells #[.slice a1 r.writers.length k1, .slice a2 r.kept.length k2, .slice a3 r.leaks.length k3, .slice a4 r.letters.length k4, .slice a5 r.heard.length k5] 28)).alloc (.cells #[.int .u8 (x0 : Int), .int .u8 (x1 : Int), .int .u8 (x2 : Int), .int .u8 (x3 : Int), .int .u8 (x4 : Int)] 77)) := ⟨_, rfl⟩
  have hwX : Below w.heap.size w X := by rw [hX]; exact (by (repeat' (first | assumption | exact Below.refl _ _ | refine below_drew' ?_ | refine Below.setCell ?_ (by first | omega | (simp <;> omega)) _ | refine Below.alloc ?_ (by first | omega | (simp <;> omega)) _)))
  have g1 : X.heap[w.heap.size]? = some (.cells #[.slice a1 r.writers.length k1, .slice a2 r.kept.length k2, .slice a3 r.leaks.length k3, .slice a4 r.letters.length k4, .slice a5 r.heard.length k5] 28 (0, 0)) := by rw [hX]; (repeat' (first | exact alloc_at _ _ (by simp) | refine (heap_alloc_old _ _ (by first | omega | (simp <;> omega))).trans ?_))
  have g2 : X.heap[w.heap.size + 1]? = some (.cells #[.int .u8 (x0 : Int), .int .u8 (x1 : Int), .int .u8 (x2 : Int), .int .u8 (x3 : Int), .int .u8 (x4 : Int)] 77 (0, 0)) := by rw [hX]; (repeat' (first | exact alloc_at _ _ (by simp) | refine (heap_alloc_old _ _ (by first | omega | (simp <;> omega))).trans ?_))
  replace g1 := fun (V : World) (h : Below X.heap.size X V) => (h.block _ (lt_of_block g1)).trans g1
  replace g2 := fun (V : World) (h : Below X.heap.size X V) => (h.block _ (lt_of_block g2)).trans g2
  have HC : Hid (∀ V, Below X.heap.size X V → (V.cell? ⟨w.heap.size, 0, none⟩ = some (.slice a1 r.writers.length k1) ∧ V.cell? ⟨w.heap.size, 1, none⟩ = some (.slice a2 r.kept.length k2) ∧ V.cell? ⟨w.heap.size, 2, none⟩ = some (.slice a3 r.leaks.length k3) ∧ V.cell? ⟨w.heap.size, 3, none⟩ = some (.slice a4 r.letters.length k4) ∧ V.cell? ⟨w.heap.size, 4, none⟩ = some (.slice a5 r.heard.length k5) ∧ V.cell? ⟨w.heap.size + 1, 0, none⟩ = some (.int .u8 (x0 : Int)) ∧ V.cell? ⟨w.heap.size + 1, 1, none⟩ = some (.int .u8 (x1 : Int)) ∧ V.cell? ⟨w.heap.size + 1, 2, none⟩ = some (.int .u8 (x2 : Int)) ∧ V.cell? ⟨w.heap.size + 1, 3, none⟩ = some (.int .u8 (x3 : Int)) ∧ V.cell? ⟨w.heap.size + 1, 4, none⟩ = some (.int .u8 (x4 : Int)) ∧ w.heap.size < V.heap.size ∧ w.heap.size + 1 < V.heap.size)) := Lib.hid (fun V h => ⟨blk_cell 0 (g1 V h) rfl, blk_cell 1 (g1 V h) rfl, blk_cell 2 (g1 V h) rfl, blk_cell 3 (g1 V h) rfl, blk_cell 4 (g1 V h) rfl, blk_cell 0 (g2 V h) rfl, blk_cell 1 (g2 V h) rfl, blk_cell 2 (g2 V h) rfl, blk_cell 3 (g2 V h) rfl, blk_cell 4 (g2 V h) rfl, lt_of_block (g1 V h), lt_of_block (g2 V h)⟩)
  have M := Lib.hid (fun (V : World) (h : Below X.heap.size X V) => (hm.mono hwX).mono h)
  clear g1 g2
  have hQ := Below.refl X.heap.size X
  have hx := HC.out _ hQ
  by_cases hs : someB r = true
  · have l1 := hm.ok1.len
    have l2 := hm.ok2.len
    have l3 := hm.ok3.len
    by_cases hz1 : r.writers.length = 0
    · have q1 : ((r.writers.length : Int) == 0) = true := eqi_t (by omega)
      have hno := days_none (r := r) (.inr (.inl hz1))
      obtain ⟨m0, e0, hk0, he0⟩ := hno
      have hk := Lib.hid hk0
      have hne := nei_t he0
      clear hk0 he0 hz1
      go_enter Try.func12, Try.ntmps12
      go_upto_region 1 with (fail)
      rw [← hX]
      clear hX
      go_wp2_with (first
        | (go_at_call 22; (with_reducible refine (Awake_any _).mono ?_); rintro e w4 ⟨rfl, hb⟩; replace hQ := q_on hQ hb; replace hx := HC.out _ hQ; dsimp only)
        | (go_at_call 20; (with_reducible refine (A_Knows _ _ _ _ _ _ _ _ _ _ r (0) (0) (0) m0 e0 hk.out _ (M.out _ hQ)).mono ?_); rintro e w3 ⟨rfl, hb⟩; replace hQ := q_on hQ hb; replace hx := HC.out _ hQ; dsimp only)
        | (go_at_call 43; (with_reducible refine (Some_is _ _ _ _ _ _ _ _ _ _ r true hs _ (M.out _ hQ)).mono ?_); rintro e w2 ⟨rfl, hb⟩; replace hQ := q_on hQ hb; replace hx := HC.out _ hQ; dsimp only))
      go_ret
      exact ⟨rfl, hwX.trans (hQ.mono hwX.size)⟩
    · by_cases hz2 : r.kept.length = 0
      · have q1 : ((r.writers.length : Int) == 0) = false := eqi_f (by omega)
        have q2 : ((r.kept.length : Int) == 0) = true := eqi_t (by omega)
        have hno := days_none (r := r) (.inr (.inr hz2))
        obtain ⟨m0, e0, hk0, he0⟩ := hno
        have hk := Lib.hid hk0
        have hne := nei_t he0
        clear hk0 he0 hz2
        go_enter Try.func12, Try.ntmps12
        go_upto_region 1 with (fail)
        rw [← hX]
        clear hX
        go_wp2_with (first
          | (go_at_call 22; (with_reducible refine (Awake_any _).mono ?_); rintro e w4 ⟨rfl, hb⟩; replace hQ := q_on hQ hb; replace hx := HC.out _ hQ; dsimp only)
          | (go_at_call 20; (with_reducible refine (A_Knows _ _ _ _ _ _ _ _ _ _ r (0) (0) (0) m0 e0 hk.out _ (M.out _ hQ)).mono ?_); rintro e w3 ⟨rfl, hb⟩; replace hQ := q_on hQ hb; replace hx := HC.out _ hQ; dsimp only)
          | (go_at_call 43; (with_reducible refine (Some_is _ _ _ _ _ _ _ _ _ _ r true hs _ (M.out _ hQ)).mono ?_); rintro e w2 ⟨rfl, hb⟩; replace hQ := q_on hQ hb; replace hx := HC.out _ hQ; dsimp only))
        go_ret
        exact ⟨rfl, hwX.trans (hQ.mono hwX.size)⟩
      · have q1 : ((r.writers.length : Int) == 0) = false := eqi_f (by omega)
        have q2 : ((r.kept.length : Int) == 0) = false := eqi_f (by omega)
        obtain ⟨u, hu⟩ : ∃ u : Nat, u = x0 % r.writers.length := ⟨_, rfl⟩
        obtain ⟨s, hsn⟩ : ∃ s : Nat, s = x1 % r.kept.length := ⟨_, rfl⟩
        obtain ⟨a, ha⟩ : ∃ a : Nat, a = x2 % 10 := ⟨_, rfl⟩
        obtain ⟨b, hb⟩ : ∃ b : Nat, b = x3 % 10 := ⟨_, rfl⟩
        have hul : u < r.writers.length := by rw [hu]; exact Nat.mod_lt _ (by omega)
        have hsl : s < r.kept.length := by rw [hsn]; exact Nat.mod_lt _ (by omega)
        have f0 : (x0 : Int) % (r.writers.length : Int) = (u : Int) := by rw [hu]; exact (Int.natCast_emod _ _).symm
        have f1 : (x1 : Int) % (r.kept.length : Int) = (s : Int) := by rw [hsn]; exact (Int.natCast_emod _ _).symm
        have f2 : (x2 : Int) % 10 = (a : Int) := by omega
        have f3 : (x3 : Int) % 10 = (b : Int) := by omega
        have ha9 : a ≤ 9 := by omega
        have hb9 : b ≤ 9 := by omega
        clear hu hsn ha hb
        obtain ⟨m, n, hk1, hk2, hmn1, hmn2⟩ := days_knows hs hul hsl (a := min a b) (b := max a b) (by omega) (by omega)
        obtain ⟨lo, hi, how, m', hsi, hk9, hk1', hd1, hd2⟩ := days_since hs hul hsl (a := min a b) (by omega)
        obtain rfl : m = m' := by rw [hk1] at hk1'; exact (Prod.mk.inj hk1').1
        clear hk1'
        have hm3 := knows_lit _ _ _ _ hk1
        have hn3 := knows_lit _ _ _ _ hk2
        have ho3 := knows_lit _ _ _ _ hk9
        obtain ⟨lw, hlw0⟩ : ∃ lw : Nat, lw = min a b := ⟨_, rfl⟩
        obtain ⟨hg, hhg0⟩ : ∃ hg : Nat, hg = max a b := ⟨_, rfl⟩
        rw [← hlw0] at hk1 hd1 hd2
        rw [← hhg0] at hk2
        have hlw := Lib.hid hlw0
        have hhg := Lib.hid hhg0
        clear hlw0 hhg0
        replace hk1 := Lib.hid hk1
        replace hk2 := Lib.hid hk2
        replace hk9 := Lib.hid hk9
        replace hsi := Lib.hid hsi
        replace hmn1 := Lib.hid hmn1
        replace hmn2 := Lib.hid hmn2
        replace hd1 := Lib.hid hd1
        replace hd2 := Lib.hid hd2
        have DL := Lib.hid (fun (i : Nat) (hi : i < r.leaks.length) (d : Nat) (hd : d ≤ 8) => days_leak hs hi hsl hd)
        replace hs := Lib.hid hs
        clear hul hsl
        go_enter Try.func12, Try.ntmps12
        go_upto_region 1 with (fail)
        rw [← hX]
        clear hX
        go_upto_region 4 with (first
          | (go_at_call 43; (with_reducible refine (Some_is _ _ _ _ _ _ _ _ _ _ r true hs.out _ (M.out _ hQ)).mono ?_); rintro e w2 ⟨rfl, hb⟩; replace hQ := q_on hQ hb; replace hx := HC.out _ hQ; dsimp only))
        go_quiet (fail); replace hQ := q_on hQ (below_draws _ _ nq); generalize World.drewN w2 nq = V1 at hQ ⊢; clear nq; replace hx := HC.out _ hQ
        go_upto_region 5 with (fail)
        go_quiet (fail); replace hQ := q_on hQ (below_draws _ _ nq); generalize World.drewN V1 nq = V2 at hQ ⊢; clear nq; replace hx := HC.out _ hQ
        simp only [f0, f1, f2, f3]
        clear f0 f1 f2 f3
        go_upto_region 6 with (fail)
        go_cut [11, 12] from 73 to 82 (fun v e W => v = .int .i64 m ∧ e = .int .i64 0 ∧ Below V2.heap.size V2 W)
        case first =>
          by_cases hba : b < a
          · obtain rfl : lw = b := by rw [hlw.out]; omega
            clear hlw
            go_wp2_with ((go_at_call 20; (with_reducible refine (A_Knows _ _ _ _ _ _ _ _ _ _ r (u : Int) (s : Int) _ m 0 hk1.out _ (M.out _ hQ)).mono ?_); rintro e w3 ⟨rfl, hb⟩; have hb0 := hb; replace hQ := q_on hQ hb; replace hx := HC.out _ hQ; dsimp only))
            go_meet
            case rel => exact ⟨rfl, rfl, hb0⟩
          · obtain rfl : lw = a := by rw [hlw.out]; omega
            clear hlw
            go_wp2_with ((go_at_call 20; (with_reducible refine (A_Knows _ _ _ _ _ _ _ _ _ _ r (u : Int) (s : Int) _ m 0 hk1.out _ (M.out _ hQ)).mono ?_); rintro e w3 ⟨rfl, hb⟩; have hb0 := hb; replace hQ := q_on hQ hb; replace hx := HC.out _ hQ; dsimp only))
            go_meet
            case rel => exact ⟨rfl, rfl, hb0⟩
        case rest =>
          obtain ⟨rfl, rfl, hb⟩ := hcut
          rename World => V3
          replace hQ := q_on hQ hb
          replace hx := HC.out _ hQ
          go_upto_region 7 with (fail)
          go_cut [13, 14] from 83 to 92 (fun v e W => v = .int .i64 n ∧ e = .int .i64 0 ∧ Below V3.heap.size V3 W)
          case first =>
            by_cases hab : a < b
            · obtain rfl : hg = b := by rw [hhg.out]; omega
              clear hhg
              go_wp2_with ((go_at_call 20; (with_reducible refine (A_Knows _ _ _ _ _ _ _ _ _ _ r (u : Int) (s : Int) _ n 0 hk2.out _ (M.out _ hQ)).mono ?_); rintro e w4 ⟨rfl, hb⟩; have hb0 := hb; replace hQ := q_on hQ hb; replace hx := HC.out _ hQ; dsimp only))
              go_meet
              case rel => exact ⟨rfl, rfl, hb0⟩
            · obtain rfl : hg = a := by rw [hhg.out]; omega
              clear hhg
              go_wp2_with ((go_at_call 20; (with_reducible refine (A_Knows _ _ _ _ _ _ _ _ _ _ r (u : Int) (s : Int) _ n 0 hk2.out _ (M.out _ hQ)).mono ?_); rintro e w4 ⟨rfl, hb⟩; have hb0 := hb; replace hQ := q_on hQ hb; replace hx := HC.out _ hQ; dsimp only))
              go_meet
              case rel => exact ⟨rfl, rfl, hb0⟩
          case rest =>
            obtain ⟨rfl, rfl, hb⟩ := hcut
            rename World => V4
            replace hQ := q_on hQ hb
            replace hx := HC.out _ hQ
            go_upto_region 8 with (fail)
            go_cut [114] from 93 to 114 (fun v W => v = .bool false ∧ W = V4)
            case first =>
              rcases hm3 with rfl | rfl | rfl <;> rcases hn3 with rfl | rfl | rfl
              all_goals
                first
                  | (exact absurd (hmn1.out rfl) (by decide))
                  | (exact absurd (hmn2.out rfl) (by decide))
                  | (clear hmn1 hmn2
                     go_wp2
                     go_meet
                     case rel => exact ⟨rfl, rfl⟩)
            case rest =>
              obtain ⟨rfl, rfl⟩ := hcut
              clear hmn1 hmn2 hn3 hk1 hk2 hhg
              go_upto_region 12 with (first
                | (go_at_call 20; (with_reducible refine (A_Knows _ _ _ _ _ _ _ _ _ _ r (u : Int) (s : Int) 9 how 0 hk9.out _ (M.out _ hQ)).mono ?_); rintro e w6 ⟨rfl, hb⟩; replace s1 := sp_on s1 hb; replace hQ := q_on hQ hb; replace hx := HC.out _ hQ; dsimp only)
                | (go_at_call 18; (with_reducible refine (A_Since _ _ _ _ _ _ _ _ _ _ r (u : Int) (s : Int) lo hi how 0 hsi.out _ (M.out _ hQ)).mono ?_); rintro e w5 ⟨rfl, hb⟩; replace hQ := q_on hQ hb; replace hx := HC.out _ hQ; have s1 := sp_new w5 lo hi 34; replace hb := al_on w5 (.cells #[.int .i64 lo, .int .i64 hi] 34); replace hQ := q_on hQ hb; replace hx := HC.out _ hQ; dsimp only))
              obtain ⟨t1, t2, t3⟩ := s1
              go_cut [168] from 130 to 168 (fun v W => v = .bool false ∧ W = w6)
              case first =>
                by_cases hba : b < a
                · as_aux_lemma =>
                  obtain rfl : lw = b := by rw [hlw.out]; omega
                  clear hlw
                  rcases hm3 with rfl | rfl | rfl
                  · rcases ho3 with rfl | rfl | rfl
                    · have hlo : ¬ ((lw : Int) < lo) := fun h => absurd (hd2.out (by decide) h) (by decide)
                      clear hd1 hd2
                      go_wp2
                      go_meet
                      case rel => exact ⟨rfl, rfl⟩
                    · have hlo : ¬ ((lw : Int) < lo) := fun h => absurd (hd2.out (by decide) h) (by decide)
                      clear hd1 hd2
                      go_wp2
                      go_meet
                      case rel => exact ⟨rfl, rfl⟩
                    · clear hd1 hd2
                      go_wp2
                      go_meet
                      case rel => exact ⟨rfl, rfl⟩
                  · have hhi : ¬ ((lw : Int) < hi) := by have := hd1.out rfl; omega
                    rcases ho3 with rfl | rfl | rfl
                    · have hlo : ¬ ((lw : Int) < lo) := fun h => absurd (hd2.out (by decide) h) (by decide)
                      clear hd1 hd2
                      go_wp2
                      go_meet
                      case rel => exact ⟨rfl, rfl⟩
                    · have hlo : ¬ ((lw : Int) < lo) := fun h => absurd (hd2.out (by decide) h) (by decide)
                      clear hd1 hd2
                      go_wp2
                      go_meet
                      case rel => exact ⟨rfl, rfl⟩
                    · clear hd1 hd2
                      go_wp2
                      go_meet
                      case rel => exact ⟨rfl, rfl⟩
                  · rcases ho3 with rfl | rfl | rfl
                    · by_cases hlo : (lw : Int) < lo
                      · clear hd1 hd2
                        go_wp2
                        go_meet
                        case rel => exact ⟨rfl, rfl⟩
                      · clear hd1 hd2
                        go_wp2
                        go_meet
                        case rel => exact ⟨rfl, rfl⟩
                    · by_cases hlo : (lw : Int) < lo
                      · clear hd1 hd2
                        go_wp2
                        go_meet
                        case rel => exact ⟨rfl, rfl⟩
                      · clear hd1 hd2
                        go_wp2
                        go_meet
                        case rel => exact ⟨rfl, rfl⟩
                    · clear hd1 hd2
                      go_wp2
                      go_meet
                      case rel => exact ⟨rfl, rfl⟩
                · as_aux_lemma =>
                  obtain rfl : lw = a := by rw [hlw.out]; omega
                  clear hlw
                  rcases hm3 with rfl | rfl | rfl
                  · rcases ho3 with rfl | rfl | rfl
                    · have hlo : ¬ ((lw : Int) < lo) := fun h => absurd (hd2.out (by decide) h) (by decide)
                      clear hd1 hd2
                      go_wp2
                      go_meet
                      case rel => exact ⟨rfl, rfl⟩
                    · have hlo : ¬ ((lw : Int) < lo) := fun h => absurd (hd2.out (by decide) h) (by decide)
                      clear hd1 hd2
                      go_wp2
                      go_meet
                      case rel => exact ⟨rfl, rfl⟩
                    · clear hd1 hd2
                      go_wp2
                      go_meet
                      case rel => exact ⟨rfl, rfl⟩
                  · have hhi : ¬ ((lw : Int) < hi) := by have := hd1.out rfl; omega
                    rcases ho3 with rfl | rfl | rfl
                    · have hlo : ¬ ((lw : Int) < lo) := fun h => absurd (hd2.out (by decide) h) (by decide)
                      clear hd1 hd2
                      go_wp2
                      go_meet
                      case rel => exact ⟨rfl, rfl⟩
                    · have hlo : ¬ ((lw : Int) < lo) := fun h => absurd (hd2.out (by decide) h) (by decide)
                      clear hd1 hd2
                      go_wp2
                      go_meet
                      case rel => exact ⟨rfl, rfl⟩
                    · clear hd1 hd2
                      go_wp2
                      go_meet
                      case rel => exact ⟨rfl, rfl⟩
                  · rcases ho3 with rfl | rfl | rfl
                    · by_cases hlo : (lw : Int) < lo
                      · clear hd1 hd2
                        go_wp2
                        go_meet
                        case rel => exact ⟨rfl, rfl⟩
                      · clear hd1 hd2
                        go_wp2
                        go_meet
                        case rel => exact ⟨rfl, rfl⟩
                    · by_cases hlo : (lw : Int) < lo
                      · clear hd1 hd2
                        go_wp2
                        go_meet
                        case rel => exact ⟨rfl, rfl⟩
                      · clear hd1 hd2
                        go_wp2
                        go_meet
                        case rel => exact ⟨rfl, rfl⟩
                    · clear hd1 hd2
                      go_wp2
                      go_meet
                      case rel => exact ⟨rfl, rfl⟩
              case rest =>
                as_aux_lemma =>
                obtain ⟨rfl, rfl⟩ := hcut
                rename World => U
                clear hm3 ho3 hd1 hd2 hsi hk9 t1 t2 t3 hlw
                by_cases hz3 : r.leaks.length = 0
                · have q3 : ((r.leaks.length : Int) == 0) = true := eqi_t (by omega)
                  clear hz3
                  go_wp2_with (go_at_call 22; (with_reducible refine (Awake_any _).mono ?_); rintro e w7 ⟨rfl, hb⟩; replace hQ := q_on hQ hb; replace hx := HC.out _ hQ; dsimp only)
                  go_ret
                  exact ⟨rfl, hwX.trans (hQ.mono hwX.size)⟩
                · have q3 : ((r.leaks.length : Int) == 0) = false := eqi_f (by omega)
                  obtain ⟨i, hi0⟩ : ∃ i : Nat, i = x4 % r.leaks.length := ⟨_, rfl⟩
                  have hil : i < r.leaks.length := by rw [hi0]; exact Nat.mod_lt _ (by omega)
                  have f4 : (x4 : Int) % (r.leaks.length : Int) = (i : Int) := by rw [hi0]; exact (Int.natCast_emod _ _).symm
                  have hil2 : (i : Int) < (r.leaks.length : Int) := by omega
                  clear hi0
                  obtain ⟨dd, hdd0⟩ : ∃ dd : Nat, dd = min a 8 := ⟨_, rfl⟩
                  have hdd8 : dd ≤ 8 := by omega
                  obtain ⟨kk, ll, e1, e2, hlk⟩ := DL.out i hil dd hdd8
                  have hdd := Lib.hid hdd0
                  clear hdd0
                  have hk3 := knows_lit _ _ _ _ e1
                  have hl3 := knows_lit _ _ _ _ e2
                  obtain ⟨bl, ol, rfl, hbl, c1, c2, c3⟩ := hm.leaks i hil
                  generalize r.leaks[i] = lk at e1 e2 hlk c1 c2 c3
                  obtain ⟨src, dst, sure⟩ := lk
                  simp only at e1 e2 hlk c1 c2 c3
                  have hwU := hwX.trans (hQ.mono hwX.size)
                  replace c1 := cell_below hwU c1
                  replace c2 := cell_below hwU c2
                  replace c3 := cell_below hwU c3
                  replace hbl := lt_of_cell c1
                  replace hlk := Lib.hid hlk
                  replace e1 := Lib.hid e1
                  replace e2 := Lib.hid e2
                  clear DL
                  go_upto_region 16 with (fail)
                  apply wp_mid _ (fun W => Below U.heap.size U W ∧ W.heap[U.heap.size]? = some (.cells #[.int .i64 src, .int .i64 dst, .bool sure] 79 (0, 0)))
                  · (focus go_region)
                    all_goals
                      first
                        | exact ⟨rfl, below_drew' (al_on U _), by rw [drew_heap]; exact alloc_at _ _ rfl⟩
                        | exact ⟨rfl, (below_drew' (Below.refl _ _)).alloc (Nat.le_refl _) _, alloc_at U.drew _ rfl⟩
                  · as_aux_lemma =>
                    intro W hW
                    (try simp only [f4])
                    clear f4
                    obtain ⟨hb, hWb⟩ := hW
                    replace hQ := q_on hQ hb
                    replace hx := HC.out _ hQ
                    clear hwU
                    have k0 : W.cell? ⟨U.heap.size, 0, none⟩ = some (.int .i64 src) := blk_cell 0 hWb rfl
                    have k1 : W.cell? ⟨U.heap.size, 1, none⟩ = some (.int .i64 dst) := blk_cell 1 hWb rfl
                    have kz := lt_of_block hWb
                    go_upto_region 17 with (fail)
                    go_cut [21] from 185 to 186 (fun v V => v = .int .i64 (dd : Int) ∧ V = W)
                    case first =>
                      by_cases h8 : 8 < a
                      · obtain rfl : dd = 8 := by rw [hdd.out]; omega
                        go_wp2
                        go_meet
                        case rel => exact ⟨rfl, rfl⟩
                      · obtain rfl : dd = a := by rw [hdd.out]; omega
                        go_wp2
                        go_meet
                        case rel => exact ⟨rfl, rfl⟩
                    case rest =>
                      as_aux_lemma =>
                      obtain ⟨rfl, hWW⟩ := hcut
                      subst hWW
                      clear hdd
                      go_upto_region 20 with (first
                        | (go_at_call 20; (with_reducible refine (A_Knows _ _ _ _ _ _ _ _ _ _ r dst (s : Int) ((dd : Int) + 1) ll 0 e2.out _ (M.out _ hQ)).mono ?_); rintro e w9 ⟨rfl, hb⟩; replace hWb := (hb.block _ (lt_of_block hWb)).trans hWb; have k2 := blk_cell 2 hWb rfl; replace hQ := q_on hQ hb; replace hx := HC.out _ hQ; dsimp only)
                        | (go_at_call 20; (with_reducible refine (A_Knows _ _ _ _ _ _ _ _ _ _ r src (s : Int) (dd : Int) kk 0 e1.out _ (M.out _ hQ)).mono ?_); rintro e w8 ⟨rfl, hb⟩; replace hWb := (hb.block _ (lt_of_block hWb)).trans hWb; replace k1 := cell_below hb k1; replace kz := lt_of_block hWb; replace hQ := q_on hQ hb; replace hx := HC.out _ hQ; dsimp only))
                      have k2 : w9.cell? ⟨U.heap.size, 2, none⟩ = some (.bool sure) := blk_cell 2 hWb rfl
                      clear e1 e2
                      cases sure
                      · clear hlk
                        go_wp2_with (go_at_call 22; (with_reducible refine (Awake_any _).mono ?_); rintro e w10 ⟨rfl, hb⟩; replace hQ := q_on hQ hb; replace hx := HC.out _ hQ; dsimp only)
                        go_ret
                        exact ⟨rfl, hwX.trans (hQ.mono hwX.size)⟩
                      · rcases hk3 with rfl | rfl | rfl <;> rcases hl3 with rfl | rfl | rfl
                        all_goals
                          first
                            | (exact absurd ((hlk.out rfl).1 rfl) (by decide))
                            | (exact absurd rfl ((hlk.out rfl).2 (by decide)))
                            | (clear hlk
                               go_wp2_with (go_at_call 22; (with_reducible refine (Awake_any _).mono ?_); rintro e w10 ⟨rfl, hb⟩; replace hQ := q_on hQ hb; replace hx := HC.out _ hQ; dsimp only)
                               go_ret
                               exact ⟨rfl, hwX.trans (hQ.mono hwX.size)⟩)
  · have hs := Bool.eq_false_iff.2 hs
    have hno := days_none (r := r) (.inl hs)
    obtain ⟨m0, e0, hk0, he0⟩ := hno
    have hk := Lib.hid hk0
    have hne := nei_t he0
    clear hk0 he0
    go_enter Try.func12, Try.ntmps12
    go_upto_region 1 with (fail)
    rw [← hX]
    clear hX
    go_wp2_with (first
      | (go_at_call 22; (with_reducible refine (Awake_any _).mono ?_); rintro e w4 ⟨rfl, hb⟩; replace hQ := q_on hQ hb; replace hx := HC.out _ hQ; dsimp only)
      | (go_at_call 20; (with_reducible refine (A_Knows _ _ _ _ _ _ _ _ _ _ r (0) (0) (0) m0 e0 hk.out _ (M.out _ hQ)).mono ?_); rintro e w3 ⟨rfl, hb⟩; replace hQ := q_on hQ hb; replace hx := HC.out _ hQ; dsimp only)
      | (go_at_call 43; (with_reducible refine (Some_is _ _ _ _ _ _ _ _ _ _ r false hs _ (M.out _ hQ)).mono ?_); rintro e w2 ⟨rfl, hb⟩; replace hQ := q_on hQ hb; replace hx := HC.out _ hQ; dsimp only))
    go_ret
    exact ⟨rfl, hwX.trans (hQ.mono hwX.size)⟩
end Go.Proofs.Ytmhbjohpggghgaa
