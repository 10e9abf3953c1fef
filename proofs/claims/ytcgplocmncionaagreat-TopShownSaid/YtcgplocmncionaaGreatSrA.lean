/- What is proved here: contracts of the reference of layer 12: bits, writer, leak. Conditions: the room lies in memory. -/
/- What is proved here: contracts of the reference of layer 12: letter. Conditions: the room lies in memory. -/
/- What is proved here: the contract of the reference's Check of layer 12. Conditions: the room lies in memory. -/
/- What is proved here: how the reference's From of layer 12 lies in memory. No condition. -/
import Derived.Test.YtcgplocmncionaaGreatSePl4
set_option linter.unusedVariables false
set_option linter.unusedSimpArgs false
namespace Go.Proofs.YtcgplocmncionaaGreat
open Go Go.RowKit Go.Shelf

theorem allBits_succ (k : Nat) : allBits (k+1) = 2 * allBits k + 1 := by unfold allBits; rw [Int.pow_succ]; omega
theorem allBits_small (k : Nat) (h : k ≤ 6) : 0 ≤ allBits k ∧ allBits k ≤ 63 := by
  have : k = 0 ∨ k = 1 ∨ k = 2 ∨ k = 3 ∨ k = 4 ∨ k = 5 ∨ k = 6 := by omega
  rcases this with rfl | rfl | rfl | rfl | rfl | rfl | rfl <;> decide
set_option maxHeartbeats 400000 in
theorem RBits_any (n : Int) (K : Nat) (w : World) (h6 : K ≤ 6) : Calls Tryz.prog 17 #[.int .i64 n, .int .i64 (K : Int)] w fun e w' => e = .returned (.bool (inB n 0 (allBits K))) ∧ w' = w := by
  have C := Lib.hid (fun (m : Int) (w' : World) => In_any n 0 m w')
  go_enter Tryz.func17, Tryz.ntmps17
  go_wp2
  go_loop [5, 6] (fun m i => ∃ (j : Nat) (x : Int), j ≤ K ∧ i = .int .i64 j ∧ m = .int .i64 x ∧ 0 ≤ x ∧ x ≤ 63 ∧ Hid (x = allBits j)) (fun _ i => K - (intOf i).toNat)
  case atStart => exact ⟨0, 0, Nat.zero_le _, rfl, rfl, by omega, by omega, Lib.hid rfl⟩
  case round =>
    obtain ⟨j, x, hj, rfl, rfl, hx0, hx1, HX⟩ := hrel
    by_cases hlt : j < K
    · have hs := allBits_small (j+1) (by omega)
      have HS := Lib.hid (allBits_succ j)
      rw [HS.out, ← HX.out] at hs
      go_wp2
      go_round
      case rel => exact ⟨j+1, 2 * x + 1, by omega, by go_num, rfl, hs.1, hs.2, Lib.hid (by rw [HS.out, ← HX.out])⟩
      case measure => simp [intOf]; omega
    · go_wp2_with (go_at_call 21; (with_reducible refine (C.out x _).mono ?_); rintro e w' ⟨rfl, rfl⟩; dsimp only)
      go_ret
      exact ⟨ret_bool (by rw [HX.out, show j = K by omega]), rfl⟩
theorem RWriter_any (a1 a2 a3 a4 a5 : Option Addr) (k1 k2 k3 k4 k5 : Nat) (r : SeRoom) (n : Int) (w : World) (l1 : r.writers.length ≤ 9223372036854775807) : Calls Tryz.prog 20 #[(.agg #[.slice a1 r.writers.length k1, .slice a2 r.kept.length k2, .slice a3 r.leaks.length k3, .slice a4 r.letters.length k4, .slice a5 r.heard.length k5]), .int .i64 n] w fun e w' => e = .returned (.bool (seWho r n)) ∧ Below w.heap.size w w' := by
  have C := Lib.hid (fun (w' : World) => In_any n 0 ((r.writers.length : Int) - 1) w')
  unfold seWho
  go_enter Tryz.func20, Tryz.ntmps20
  go_wp2_with (go_at_call 21; (with_reducible refine (C.out _).mono ?_); rintro e w' ⟨rfl, rfl⟩; dsimp only)
  go_ret
  exact ⟨rfl, by go_grown⟩

theorem any_take_succ {α : Type} (l : List α) (f : α → Bool) (j : Nat) (h : j < l.length) : (l.take (j + 1)).any f = ((l.take j).any f || f l[j]) := by
  rw [List.take_succ_eq_append_getElem h, List.any_append]; simp
theorem any_take_le {α : Type} (l : List α) (f : α → Bool) (j k : Nat) (h : j ≤ k) (h2 : (l.take j).any f = true) : (l.take k).any f = true := by
  rw [List.any_eq_true] at h2 ⊢
  obtain ⟨x, hx, hf⟩ := h2
  exact ⟨x, (List.take_subset_take_left l h) hx, hf⟩

set_option maxRecDepth 100000 in
set_option maxHeartbeats 1000000 in
theorem RLeak_any (a1 a2 a3 a4 a5 : Option Addr) (k1 k2 k3 k4 k5 : Nat) (r : SeRoom) (k : Nat) (w : World) (hm : RoomC w a1 a2 a3 a4 a5 k1 k2 k3 k4 k5 r) (hk : k < r.leaks.length) :
    Calls Tryz.prog 18 #[(.agg #[.slice a1 r.writers.length k1, .slice a2 r.kept.length k2, .slice a3 r.leaks.length k3, .slice a4 r.letters.length k4, .slice a5 r.heard.length k5]), .int .i64 (k : Int)] w fun e w' => e = .returned (.int .i64 (leakErr r k)) ∧ Below w.heap.size w w' := by
  have l1 := hm.ok1.len
  have l3 := hm.ok3.len
  have l3c := hm.ok3.1
  have HF : Hid (leakErr r k = leakErrOf r k r.leaks[k]) := by
    show leakErr r k = _
    simp [leakErr, hk]
  generalize leakErr r k = er at HF ⊢
  obtain ⟨b, off, ha3, hb, h1, h2, h3⟩ := hm.leaks k hk
  have HL := Lib.hid (fun (W : World) (h : Below w.heap.size w W) => (hm.mono h).leaks)
  generalize r.leaks[k] = x at HF h1 h2 h3
  obtain ⟨src, dst, sure⟩ := x
  unfold leakErrOf at HF
  simp only at HF h1 h2 h3
  have W1 := Lib.hid (fun W => RWriter_any a1 a2 a3 a4 a5 k1 k2 k3 k4 k5 r src W l1)
  have W2 := Lib.hid (fun W => RWriter_any a1 a2 a3 a4 a5 k1 k2 k3 k4 k5 r dst W l1)
  generalize seWho r src = b1 at W1 HF
  generalize seWho r dst = b2 at W2 HF
  subst ha3
  have hkk : (k : Int) < k3 := by omega
  have hkl : (k : Int) < r.leaks.length := by omega
  go_enter Tryz.func18, Tryz.ntmps18
  go_upto_region 2 with (fail)
  obtain ⟨Y, hY⟩ : ∃ Y : World, Y = (w.alloc (.cells #[.slice a1 r.writers.length k1, .slice a2 r.kept.length k2, .slice (some ⟨b, off, none⟩) r.leaks.length k3, .slice a4 r.letters.length k4, .slice a5 r.heard.length k5] 28)).alloc (.cells #[.int .i64 src, .int .i64 dst, .bool sure] 37) := ⟨_, rfl⟩
  rw [← hY]
  have hYs : Y.heap.size = w.heap.size + 1 + 1 := by rw [hY]; simp
  have hYb : Below w.heap.size w Y := by rw [hY]; exact (by (repeat' (first | assumption | exact Below.refl _ _ | refine below_drew' ?_ | refine Below.setCell ?_ (by first | omega | (simp <;> omega)) _ | refine Below.alloc ?_ (by first | omega | (simp <;> omega)) _)))
  have hY0 : Y.heap[w.heap.size]? = some (.cells #[.slice a1 r.writers.length k1, .slice a2 r.kept.length k2, .slice (some ⟨b, off, none⟩) r.leaks.length k3, .slice a4 r.letters.length k4, .slice a5 r.heard.length k5] 28 (0, 0)) := by rw [hY]; exact (heap_alloc_old _ _ (by simp)).trans (alloc_at _ _ rfl)
  have hY1 : Y.heap[w.heap.size + 1]? = some (.cells #[.int .i64 src, .int .i64 dst, .bool sure] 37 (0, 0)) := by rw [hY]; exact alloc_at _ _ (by simp)
  clear hY h1 h2 h3 hb hm
  have HCELL : Hid (∀ V : World, Below Y.heap.size Y V → Below w.heap.size w V ∧ V.cell? ⟨w.heap.size, 0, none⟩ = some (.slice a1 r.writers.length k1) ∧ V.cell? ⟨w.heap.size, 1, none⟩ = some (.slice a2 r.kept.length k2) ∧ V.cell? ⟨w.heap.size, 2, none⟩ = some (.slice (some ⟨b, off, none⟩) r.leaks.length k3) ∧ V.cell? ⟨w.heap.size, 3, none⟩ = some (.slice a4 r.letters.length k4) ∧ V.cell? ⟨w.heap.size, 4, none⟩ = some (.slice a5 r.heard.length k5) ∧ V.cell? ⟨w.heap.size + 1, 0, none⟩ = some (.int .i64 src) ∧ V.cell? ⟨w.heap.size + 1, 1, none⟩ = some (.int .i64 dst) ∧ w.heap.size < V.heap.size ∧ w.heap.size + 1 < V.heap.size) := Lib.hid (fun V h => by
    have h0 := (h.block _ (lt_of_block hY0)).trans hY0
    have h1 := (h.block _ (lt_of_block hY1)).trans hY1
    exact ⟨hYb.trans (h.mono hYb.size), blk_cell 0 h0 rfl, blk_cell 1 h0 rfl, blk_cell 2 h0 rfl, blk_cell 3 h0 rfl, blk_cell 4 h0 rfl, blk_cell 0 h1 rfl, blk_cell 1 h1 rfl, lt_of_block h0, lt_of_block h1⟩)
  clear hY0 hY1 hYb
  replace hYs := Lib.hid hYs
  obtain ⟨hb0, x0, x1, x2, x3, x4, y0, y1, z0, z1⟩ := HCELL.out Y (Below.refl _ _)
  cases b1
  · have hr := Lib.hid (show er = 4 from HF.out.trans (by simp))
    go_wp2_with (go_at_call 20; go_must ((with_reducible refine (W1.out Y).mono ?_); rintro e w2 ⟨rfl, hb2⟩; dsimp only))
    go_ret
    exact ⟨ret_int hr.out.symm, hb0.trans (hb2.mono hb0.size)⟩
  · cases b2
    · have hr := Lib.hid (show er = 4 from HF.out.trans (by simp))
      go_wp2_with (first | (go_at_call 20; have hh := hb2; go_must ((with_reducible refine (W2.out w2).mono ?_); rintro e w3 ⟨rfl, hb3⟩; dsimp only)) | (go_at_call 20; go_must ((with_reducible refine (W1.out Y).mono ?_); rintro e w2 ⟨rfl, hb2⟩; (obtain ⟨-, x0, x1, x2, x3, x4, y0, y1, z0, z1⟩ := HCELL.out w2 hb2); dsimp only)))
      go_ret
      exact ⟨ret_int hr.out.symm, hb0.trans ((hb2.trans (hb3.mono hb2.size)).mono hb0.size)⟩
    · by_cases hsd : src = dst
      · have g1 := eqi_t hsd
        have hr := Lib.hid (show er = 2 from HF.out.trans (by simp [hsd]))
        clear hsd
        go_upto_region 4 with (first | (go_at_call 20; have hh := hb2; go_must ((with_reducible refine (W2.out w2).mono ?_); rintro e w3 ⟨rfl, hb3⟩; dsimp only)) | (go_at_call 20; go_must ((with_reducible refine (W1.out Y).mono ?_); rintro e w2 ⟨rfl, hb2⟩; (obtain ⟨-, x0, x1, x2, x3, x4, y0, y1, z0, z1⟩ := HCELL.out w2 hb2); dsimp only)))
        obtain ⟨hb0, x0, x1, x2, x3, x4, y0, y1, z0, z1⟩ := HCELL.out w3 (hb2.trans (hb3.mono hb2.size))
        go_wp2
        go_ret
        exact ⟨ret_int hr.out.symm, hb0⟩
      · have g1 := eqi_f hsd
        have HR2 := Lib.hid (show er = if (r.leaks.take k).any (fun y => decide (y.src = src) && decide (y.dst = dst)) then 5 else 0 from HF.out.trans (by simp [hsd]))
        clear hsd
        go_upto_region 4 with (first | (go_at_call 20; have hh := hb2; go_must ((with_reducible refine (W2.out w2).mono ?_); rintro e w3 ⟨rfl, hb3⟩; dsimp only)) | (go_at_call 20; go_must ((with_reducible refine (W1.out Y).mono ?_); rintro e w2 ⟨rfl, hb2⟩; (obtain ⟨-, x0, x1, x2, x3, x4, y0, y1, z0, z1⟩ := HCELL.out w2 hb2); dsimp only)))
        have hB3 := hb2.trans (hb3.mono hb2.size)
        clear x0 x1 x2 x3 x4 y0 y1 z0 z1
        obtain ⟨hb0, x0, x1, x2, x3, x4, y0, y1, z0, z1⟩ := HCELL.out w3 hB3
        go_wp2
        go_loopw [6] (fun i wr => ∃ j : Nat, j ≤ k ∧ i = .int .i64 j ∧ Below Y.heap.size Y wr ∧ Hid ((r.leaks.take j).any (fun y => decide (y.src = src) && decide (y.dst = dst)) = false)) (fun i _ => k - (intOf i).toNat)
        case atStart => exact ⟨0, Nat.zero_le _, rfl, hB3, Lib.hid (by simp)⟩
        case round =>
          clear x0 x1 x2 x3 x4 y0 y1 z0 z1
          obtain ⟨j, hj, rfl, hB, HA⟩ := hrel
          obtain ⟨hb0, x0, x1, x2, x3, x4, y0, y1, z0, z1⟩ := HCELL.out wr hB
          by_cases hlt : j < k
          · have hjl : j < r.leaks.length := by omega
            obtain ⟨b', off', e, hb', h1, h2, h3⟩ := HL.out wr hb0 j hjl
            have HST := Lib.hid (any_take_succ r.leaks (fun y => decide (y.src = src) && decide (y.dst = dst)) j hjl)
            have HLE := Lib.hid (fun h => any_take_le r.leaks (fun y => decide (y.src = src) && decide (y.dst = dst)) (j + 1) k (by omega) h)
            cases e
            generalize r.leaks[j] = y at h1 h2 h3 HST
            obtain ⟨s2, d2, u2⟩ := y
            simp only at h1 h2 h3 HST
            have hjk : (j : Int) < k3 := by omega
            have hji : (j : Int) < r.leaks.length := by omega
            by_cases q1 : s2 = src
            · have g2 := eqi_t q1
              by_cases q2 : d2 = dst
              · have g3 := eqi_t q2
                have hr := Lib.hid (HR2.out.trans (if_pos (HLE.out (by rw [HST.out]; simp [q1, q2]))))
                clear q1 q2
                go_wp2
                go_quiet (fail)
                go_wp2
                go_ret
                exact ⟨ret_int hr.out.symm, below_drewN' hb0 _⟩
              · have g3 := eqi_f q2
                have HN := Lib.hid (show (r.leaks.take (j + 1)).any (fun y => decide (y.src = src) && decide (y.dst = dst)) = false by rw [HST.out, HA.out]; simp [q2])
                clear q1 q2
                go_wp2
                go_quiet (fail)
                go_wp2
                go_roundw
                case rel => exact ⟨j + 1, by omega, by go_num, below_drewN' hB _, HN⟩
                case measure => simp [intOf]; omega
            · have g2 := eqi_f q1
              have HN := Lib.hid (show (r.leaks.take (j + 1)).any (fun y => decide (y.src = src) && decide (y.dst = dst)) = false by rw [HST.out, HA.out]; simp [q1])
              clear q1
              go_wp2
              go_quiet (fail)
              go_wp2
              go_roundw
              case rel => exact ⟨j + 1, by omega, by go_num, below_drewN' hB _, HN⟩
              case measure => simp [intOf]; omega
          · obtain rfl : j = k := by omega
            have hr := Lib.hid (HR2.out.trans (if_neg (by rw [HA.out]; simp)))
            go_wp2
            go_ret
            exact ⟨ret_int hr.out.symm, hb0⟩
end Go.Proofs.YtcgplocmncionaaGreat
namespace Go.Proofs.YtcgplocmncionaaGreat
open Go Go.RowKit Go.Shelf

theorem seWho_inB (r : SeRoom) (n : Int) (h : n ≠ -1) : inB n (-1) ((r.writers.length : Int) - 1) = seWho r n := by
  unfold seWho
  rw [Bool.eq_iff_iff, inB_iff, inB_iff]
  omega
set_option maxRecDepth 100000 in
set_option maxHeartbeats 1000000 in
theorem RLetter_any (a1 a2 a3 a4 a5 : Option Addr) (k1 k2 k3 k4 k5 : Nat) (r : SeRoom) (k : Nat) (w : World) (hm : RoomC w a1 a2 a3 a4 a5 k1 k2 k3 k4 k5 r) (hk : k < r.letters.length) (hk3 : r.kept.length ≤ 3) :
    Calls Tryz.prog 19 #[(.agg #[.slice a1 r.writers.length k1, .slice a2 r.kept.length k2, .slice a3 r.leaks.length k3, .slice a4 r.letters.length k4, .slice a5 r.heard.length k5]), .int .i64 (k : Int)] w fun e w' => e = .returned (.int .i64 (letterErr r k)) ∧ Below w.heap.size w w' := by
  have l1 := hm.ok1.len
  have l4 := hm.ok4.len
  have l4c := hm.ok4.1
  have HF : Hid (letterErr r k = letterErrOf r k r.letters[k]) := by
    show letterErr r k = _
    simp [letterErr, hk]
  generalize letterErr r k = er at HF ⊢
  obtain ⟨b, off, ha4, hb, h1, h2, h3⟩ := hm.letters k hk
  have HL := Lib.hid (fun (W : World) (h : Below w.heap.size w W) => (hm.mono h).letters)
  generalize r.letters[k] = x at HF h1 h2 h3
  obtain ⟨day, sec, wri⟩ := x
  unfold letterErrOf at HF
  simp only at HF h1 h2 h3
  have C1 := Lib.hid (fun (W : World) => In_any day 0 9 W)
  have C2 := Lib.hid (fun (W : World) => RBits_any sec r.kept.length W (by omega))
  generalize inB day 0 9 = b1 at C1 HF
  generalize inB sec 0 (allBits r.kept.length) = b2 at C2 HF
  subst ha4
  have hkk : (k : Int) < k4 := by omega
  have hkl : (k : Int) < r.letters.length := by omega
  go_enter Tryz.func19, Tryz.ntmps19
  go_upto_region 2 with (fail)
  obtain ⟨Y, hY⟩ : ∃ Y : World, Y = (w.alloc (.cells #[.slice a1 r.writers.length k1, .slice a2 r.kept.length k2, .slice a3 r.leaks.length k3, .slice (some ⟨b, off, none⟩) r.letters.length k4, .slice a5 r.heard.length k5] 28)).alloc (.cells #[.int .i64 day, .int .i64 sec, .int .i64 wri] 43) := ⟨_, rfl⟩
  rw [← hY]
  have hYs : Y.heap.size = w.heap.size + 1 + 1 := by rw [hY]; simp
  have hYb : Below w.heap.size w Y := by rw [hY]; exact (by (repeat' (first | assumption | exact Below.refl _ _ | refine below_drew' ?_ | refine Below.setCell ?_ (by first | omega | (simp <;> omega)) _ | refine Below.alloc ?_ (by first | omega | (simp <;> omega)) _)))
  have hY0 : Y.heap[w.heap.size]? = some (.cells #[.slice a1 r.writers.length k1, .slice a2 r.kept.length k2, .slice a3 r.leaks.length k3, .slice (some ⟨b, off, none⟩) r.letters.length k4, .slice a5 r.heard.length k5] 28 (0, 0)) := by rw [hY]; exact (heap_alloc_old _ _ (by simp)).trans (alloc_at _ _ rfl)
  have hY1 : Y.heap[w.heap.size + 1]? = some (.cells #[.int .i64 day, .int .i64 sec, .int .i64 wri] 43 (0, 0)) := by rw [hY]; exact alloc_at _ _ (by simp)
  clear hY h1 h2 h3 hb hm
  have HCELL : Hid (∀ V : World, Below Y.heap.size Y V → Below w.heap.size w V ∧ V.cell? ⟨w.heap.size, 0, none⟩ = some (.slice a1 r.writers.length k1) ∧ V.cell? ⟨w.heap.size, 1, none⟩ = some (.slice a2 r.kept.length k2) ∧ V.cell? ⟨w.heap.size, 2, none⟩ = some (.slice a3 r.leaks.length k3) ∧ V.cell? ⟨w.heap.size, 3, none⟩ = some (.slice (some ⟨b, off, none⟩) r.letters.length k4) ∧ V.cell? ⟨w.heap.size, 4, none⟩ = some (.slice a5 r.heard.length k5) ∧ V.cell? ⟨w.heap.size + 1, 0, none⟩ = some (.int .i64 day) ∧ V.cell? ⟨w.heap.size + 1, 1, none⟩ = some (.int .i64 sec) ∧ V.cell? ⟨w.heap.size + 1, 2, none⟩ = some (.int .i64 wri) ∧ w.heap.size < V.heap.size ∧ w.heap.size + 1 < V.heap.size) := Lib.hid (fun V h => by
    have h0 := (h.block _ (lt_of_block hY0)).trans hY0
    have h1 := (h.block _ (lt_of_block hY1)).trans hY1
    exact ⟨hYb.trans (h.mono hYb.size), blk_cell 0 h0 rfl, blk_cell 1 h0 rfl, blk_cell 2 h0 rfl, blk_cell 3 h0 rfl, blk_cell 4 h0 rfl, blk_cell 0 h1 rfl, blk_cell 1 h1 rfl, blk_cell 2 h1 rfl, lt_of_block h0, lt_of_block h1⟩)
  clear hY0 hY1 hYb
  replace hYs := Lib.hid hYs
  obtain ⟨hb0, x0, x1, x2, x3, x4, y0, y1, y2, z0, z1⟩ := HCELL.out Y (Below.refl _ _)
  cases b1
  · have hr := Lib.hid (show er = 7 from HF.out.trans (by simp))
    go_wp2_with (go_at_call 21; go_must ((with_reducible refine (C1.out Y).mono ?_); rintro e w2 ⟨rfl, rfl⟩; dsimp only))
    go_ret
    exact ⟨ret_int hr.out.symm, hb0⟩
  · cases b2
    · have hr := Lib.hid (show er = 4 from HF.out.trans (by simp))
      go_wp2_with (first | (go_at_call 17; go_must ((with_reducible refine (C2.out _).mono ?_); rintro e w2 ⟨rfl, rfl⟩; dsimp only)) | (go_at_call 21; go_must ((with_reducible refine (C1.out _).mono ?_); rintro e w2 ⟨rfl, rfl⟩; dsimp only)))
      go_ret
      exact ⟨ret_int hr.out.symm, hb0⟩
    · by_cases hn : wri = -1
      · subst hn
        have hr := Lib.hid (show er = 0 from HF.out.trans (by have : inB (-1) (-1) ((r.writers.length : Int) - 1) = true := inB_iff.2 (by omega); simp [this]))
        go_wp2_with (first | (go_at_call 17; go_must ((with_reducible refine (C2.out _).mono ?_); rintro e w2 ⟨rfl, rfl⟩; dsimp only)) | (go_at_call 21; go_must ((with_reducible refine (C1.out _).mono ?_); rintro e w2 ⟨rfl, rfl⟩; dsimp only)))
        rename World => V
        go_loopw [6] (fun i wr => ∃ j : Nat, j ≤ k ∧ i = .int .i64 j ∧ Below V.heap.size V wr) (fun i _ => k - (intOf i).toNat)
        case atStart => exact ⟨0, Nat.zero_le _, rfl, Below.refl _ _⟩
        case round =>
          clear x0 x1 x2 x3 x4 y0 y1 y2 z0 z1
          obtain ⟨j, hj, rfl, hB⟩ := hrel
          obtain ⟨hb0, x0, x1, x2, x3, x4, y0, y1, y2, z0, z1⟩ := HCELL.out wr hB
          by_cases hlt : j < k
          · have hjk : (j : Int) < k4 := by omega
            have hji : (j : Int) < r.letters.length := by omega
            go_wp2
            go_quiet (fail)
            go_wp2
            go_roundw
            case rel => exact ⟨j + 1, by omega, by go_num, below_drewN' hB _⟩
            case measure => simp [intOf]; omega
          · obtain rfl : j = k := by omega
            go_wp2
            go_ret
            exact ⟨ret_int hr.out.symm, hb0⟩
      · have g1 := nei_t hn
        have W1 := Lib.hid (fun W => RWriter_any a1 a2 a3 (some ⟨b, off, none⟩) a5 k1 k2 k3 k4 k5 r wri W l1)
        rw [seWho_inB r wri hn] at HF
        generalize seWho r wri = b3 at W1 HF
        have hn2 : (wri == -1) = false := by simpa using hn
        rw [hn2] at HF
        clear hn hn2
        cases b3
        · have hr := Lib.hid (show er = 4 from HF.out.trans (by simp))
          go_wp2_with (first | (go_at_call 20; go_must ((with_reducible refine (W1.out _).mono ?_); rintro e w3 ⟨rfl, hb3⟩; dsimp only)) | (go_at_call 17; go_must ((with_reducible refine (C2.out _).mono ?_); rintro e w2 ⟨rfl, rfl⟩; dsimp only)) | (go_at_call 21; go_must ((with_reducible refine (C1.out _).mono ?_); rintro e w2 ⟨rfl, rfl⟩; dsimp only)))
          go_ret
          exact ⟨ret_int hr.out.symm, hb0.trans (hb3.mono hb0.size)⟩
        · have HR2 := Lib.hid (show er = if (r.letters.take k).any (fun y => decide (y.writer = wri) && decide (y.day = day)) then 5 else 0 from HF.out.trans (by simp))
          go_upto_region 6 with (first | (go_at_call 20; go_must ((with_reducible refine (W1.out _).mono ?_); rintro e w3 ⟨rfl, hb3⟩; dsimp only)) | (go_at_call 17; go_must ((with_reducible refine (C2.out _).mono ?_); rintro e w2 ⟨rfl, rfl⟩; dsimp only)) | (go_at_call 21; go_must ((with_reducible refine (C1.out _).mono ?_); rintro e w2 ⟨rfl, rfl⟩; dsimp only)))
          clear x0 x1 x2 x3 x4 y0 y1 y2 z0 z1
          go_wp2
          go_loopw [6] (fun i wr => ∃ j : Nat, j ≤ k ∧ i = .int .i64 j ∧ Below w2.heap.size w2 wr ∧ Hid ((r.letters.take j).any (fun y => decide (y.writer = wri) && decide (y.day = day)) = false)) (fun i _ => k - (intOf i).toNat)
          case atStart => exact ⟨0, Nat.zero_le _, rfl, hb3, Lib.hid (by simp)⟩
          case round =>
            obtain ⟨j, hj, rfl, hB, HA⟩ := hrel
            obtain ⟨hb0, x0, x1, x2, x3, x4, y0, y1, y2, z0, z1⟩ := HCELL.out wr hB
            by_cases hlt : j < k
            · have hjl : j < r.letters.length := by omega
              obtain ⟨b', off', e, hb', h1, h2, h3⟩ := HL.out wr hb0 j hjl
              have HST := Lib.hid (any_take_succ r.letters (fun y => decide (y.writer = wri) && decide (y.day = day)) j hjl)
              have HLE := Lib.hid (fun h => any_take_le r.letters (fun y => decide (y.writer = wri) && decide (y.day = day)) (j + 1) k (by omega) h)
              cases e
              generalize r.letters[j] = y at h1 h2 h3 HST
              obtain ⟨d2, s2, u2⟩ := y
              simp only at h1 h2 h3 HST
              have hjk : (j : Int) < k4 := by omega
              have hji : (j : Int) < r.letters.length := by omega
              by_cases q1 : u2 = wri
              · have g2 := eqi_t q1
                by_cases q2 : d2 = day
                · have g3 := eqi_t q2
                  have hr := Lib.hid (HR2.out.trans (if_pos (HLE.out (by rw [HST.out]; simp [q1, q2]))))
                  clear q1 q2
                  go_wp2
                  go_quiet (fail)
                  go_wp2
                  go_ret
                  exact ⟨ret_int hr.out.symm, below_drewN' hb0 _⟩
                · have g3 := eqi_f q2
                  have HN := Lib.hid (show (r.letters.take (j + 1)).any (fun y => decide (y.writer = wri) && decide (y.day = day)) = false by rw [HST.out, HA.out]; simp [q2])
                  clear q1 q2
                  go_wp2
                  go_quiet (fail)
                  go_wp2
                  go_roundw
                  case rel => exact ⟨j + 1, by omega, by go_num, below_drewN' hB _, HN⟩
                  case measure => simp [intOf]; omega
              · have g2 := eqi_f q1
                have HN := Lib.hid (show (r.letters.take (j + 1)).any (fun y => decide (y.writer = wri) && decide (y.day = day)) = false by rw [HST.out, HA.out]; simp [q1])
                clear q1
                go_wp2
                go_quiet (fail)
                go_wp2
                go_roundw
                case rel => exact ⟨j + 1, by omega, by go_num, below_drewN' hB _, HN⟩
                case measure => simp [intOf]; omega
            · obtain rfl : j = k := by omega
              have hr := Lib.hid (HR2.out.trans (if_neg (by rw [HA.out]; simp)))
              go_wp2
              go_ret
              exact ⟨ret_int hr.out.symm, hb0⟩
end Go.Proofs.YtcgplocmncionaaGreat
namespace Go.Proofs.YtcgplocmncionaaGreat
open Go Go.RowKit Go.Shelf

theorem box_room {w W : World} {a1 a2 a3 a4 a5 : Option Addr} {k1 k2 k3 k4 k5 : Nat} {r : SeRoom} (h : Below (w.heap.size + 1) (w.alloc (.cells #[.slice a1 r.writers.length k1, .slice a2 r.kept.length k2, .slice a3 r.leaks.length k3, .slice a4 r.letters.length k4, .slice a5 r.heard.length k5] 28)) W) : W.cell? ⟨w.heap.size, 0, none⟩ = some (.slice a1 r.writers.length k1) ∧ W.cell? ⟨w.heap.size, 1, none⟩ = some (.slice a2 r.kept.length k2) ∧ W.cell? ⟨w.heap.size, 2, none⟩ = some (.slice a3 r.leaks.length k3) ∧ W.cell? ⟨w.heap.size, 3, none⟩ = some (.slice a4 r.letters.length k4) ∧ W.cell? ⟨w.heap.size, 4, none⟩ = some (.slice a5 r.heard.length k5) ∧ w.heap.size < W.heap.size :=
  ⟨box_cell h 0 _ rfl, box_cell h 1 _ rfl, box_cell h 2 _ rfl, box_cell h 3 _ rfl, box_cell h 4 _ rfl, box_size h⟩
set_option maxRecDepth 100000 in
set_option maxHeartbeats 4000000 in
theorem RCheck_any (a1 a2 a3 a4 a5 : Option Addr) (k1 k2 k3 k4 k5 : Nat) (r : SeRoom) (w : World) (hm : RoomC w a1 a2 a3 a4 a5 k1 k2 k3 k4 k5 r) :
    Calls Tryz.prog 4 #[(.agg #[.slice a1 r.writers.length k1, .slice a2 r.kept.length k2, .slice a3 r.leaks.length k3, .slice a4 r.letters.length k4, .slice a5 r.heard.length k5])] w fun e w' => e = .returned (.tuple #[.int .i64 (seCheck r).1, .int .i64 (seCheck r).2.1, .int .i64 (seCheck r).2.2]) ∧ Below w.heap.size w w' := by
  have R1 : Hid (seCheck r = checkPart 1 r.writers.length 4 (writerErr r) (checkPart 2 r.kept.length 3 (keptErr r) (checkPart 3 r.leaks.length 4 (leakErr r) (checkPart 4 r.letters.length 4 (letterErr r) (checkPart 5 r.heard.length 3 (heardErr r) (0, 0, 0)))))) := rfl
  generalize seCheck r = res at R1 ⊢
  have l1 := hm.ok1.len
  have l2 := hm.ok2.len
  have l3 := hm.ok3.len
  have l4 := hm.ok4.len
  have l5 := hm.ok5.len
  have hB := Below.refl (w.heap.size + 1) (w.alloc (.cells #[.slice a1 r.writers.length k1, .slice a2 r.kept.length k2, .slice a3 r.leaks.length k3, .slice a4 r.letters.length k4, .slice a5 r.heard.length k5] 28))
  obtain ⟨x0, x1, x2, x3, x4, z0⟩ := box_room hB
  go_enter Tryz.func4, Tryz.ntmps4
  by_cases g1 : 4 < r.writers.length
  · have R := R1.out.trans (checkPart_long g1)
    subst R
    go_wp2
    go_ret3
    exact ⟨rfl, box_old hB⟩
  go_wp2
  go_loopw [5] (fun i wr => ∃ k : Nat, k ≤ r.writers.length ∧ i = .int .i64 k ∧ Hid (∀ i, i < k → writerErr r i = 0) ∧ Below (w.heap.size + 1) (w.alloc (.cells #[.slice a1 r.writers.length k1, .slice a2 r.kept.length k2, .slice a3 r.leaks.length k3, .slice a4 r.letters.length k4, .slice a5 r.heard.length k5] 28)) wr) (fun i _ => r.writers.length - (intOf i).toNat)
  case atStart => exact ⟨0, Nat.zero_le _, rfl, Lib.hid (fun i h => absurd h (Nat.not_lt_zero i)), hB⟩
  case round =>
    clear hB x0 x1 x2 x3 x4 z0
    obtain ⟨k, hk, rfl, HZ, hB⟩ := hrel
    obtain ⟨x0, x1, x2, x3, x4, z0⟩ := box_room hB
    by_cases hlt : k < r.writers.length
    · obtain ⟨b, off, ha, hb, h1⟩ := (hm.mono (box_old hB)).writers k hlt
      have hsz := hm.wsize _ (List.getElem_mem hlt)
      have hst := (hm.mono (box_old hB)).writers
      have HE : Hid (writerErr r k = fresh r.writers[k] (r.writers.take k)) := by show writerErr r k = _; simp [writerErr, hlt]
      have hcc := hm.ok1.1
      generalize r.writers[k] = s at h1 hsz HE
      have F := fun W (hi : StrsC W a1 r.writers) => FreshTake_any s a1 r.writers k k1 W hsz l1 hk hi
      generalize fresh s (r.writers.take k) = e at F HE
      have F := Lib.hid F
      have HST := Lib.hid hst
      have HM2 := Lib.hid hm
      clear hst hm
      subst ha
      have hcc2 : (k : Int) ≤ k1 := by omega
      go_wp2
      go_quiet ((go_at_call 16; exact Calls.quiet_of_same (F.out _ (HST.out.mono (below_draws _ _ _)))))
      have hm := HM2.out
      by_cases he : e = 0
      · subst he
        go_wp2
        go_roundw
        case rel => exact ⟨k + 1, by omega, by go_num, Lib.hid (fun i hi => if h : i < k then HZ.out i h else by rw [show i = k from by omega]; exact HE.out), below_drewN' hB _⟩
        case measure => simp [intOf]; omega
      · have he2 := nei_t he
        go_wp2
        go_ret3
        have R := R1.out.trans (checkPart_err (by omega) hlt HZ.out (by rw [HE.out]; exact he))
        rw [HE.out] at R
        subst R
        exact ⟨rfl, box_old (below_drewN' hB _)⟩
    · have R2 := Lib.hid (R1.out.trans (checkPart_ok (by omega) (fun i hi => HZ.out i (by omega))))
      clear R1
      by_cases g2 : 3 < r.kept.length
      · have R := R2.out.trans (checkPart_long g2)
        subst R
        go_wp2
        go_ret3
        exact ⟨rfl, box_old hB⟩
      go_wp2
      go_loopw [7] (fun i wr => ∃ k : Nat, k ≤ r.kept.length ∧ i = .int .i64 k ∧ Hid (∀ i, i < k → keptErr r i = 0) ∧ Below (w.heap.size + 1) (w.alloc (.cells #[.slice a1 r.writers.length k1, .slice a2 r.kept.length k2, .slice a3 r.leaks.length k3, .slice a4 r.letters.length k4, .slice a5 r.heard.length k5] 28)) wr) (fun i _ => r.kept.length - (intOf i).toNat)
      case atStart => exact ⟨0, Nat.zero_le _, rfl, Lib.hid (fun i h => absurd h (Nat.not_lt_zero i)), hB⟩
      case round =>
        clear hB x0 x1 x2 x3 x4 z0 HZ
        obtain ⟨k, hk, rfl, HZ, hB⟩ := hrel
        obtain ⟨x0, x1, x2, x3, x4, z0⟩ := box_room hB
        by_cases hlt : k < r.kept.length
        · obtain ⟨b, off, ha, hb, h1⟩ := (hm.mono (box_old hB)).kept k hlt
          have HE : Hid (keptErr r k = if inB r.kept[k] 0 (allBits r.writers.length) then 0 else 4) := by show keptErr r k = _; simp [keptErr, hlt]
          generalize r.kept[k] = s at h1 HE
          have F := fun W => RBits_any s r.writers.length W (by omega)
          generalize inB s 0 (allBits r.writers.length) = bb at F HE
          have F := Lib.hid F
          have HM2 := Lib.hid hm
          have hcc := hm.ok2.1
          clear hm
          subst ha
          have hcc2 : (k : Int) < k2 := by omega
          have hcc3 : (k : Int) < r.kept.length := by omega
          go_wp2
          go_quiet ((go_at_call 17; exact Calls.quiet_of_same (F.out _)))
          have hm := HM2.out
          cases bb
          · go_wp2
            go_ret3
            have R := R2.out.trans (checkPart_err (by omega) hlt HZ.out (by rw [HE.out]; simp))
            rw [HE.out] at R
            subst R
            exact ⟨rfl, box_old (below_drewN' hB _)⟩
          · go_wp2
            go_roundw
            case rel => exact ⟨k + 1, by omega, by go_num, Lib.hid (fun i hi => if h : i < k then HZ.out i h else by rw [show i = k from by omega]; exact HE.out), below_drewN' hB _⟩
            case measure => simp [intOf]; omega
        · have R3 := Lib.hid (R2.out.trans (checkPart_ok (by omega) (fun i hi => HZ.out i (by omega))))
          clear R2
          by_cases g3 : 4 < r.leaks.length
          · have R := R3.out.trans (checkPart_long g3)
            subst R
            go_wp2
            go_ret3
            exact ⟨rfl, box_old hB⟩
          go_wp2
          go_loopw [8] (fun i wr => ∃ k : Nat, k ≤ r.leaks.length ∧ i = .int .i64 k ∧ Hid (∀ i, i < k → leakErr r i = 0) ∧ Below (w.heap.size + 1) (w.alloc (.cells #[.slice a1 r.writers.length k1, .slice a2 r.kept.length k2, .slice a3 r.leaks.length k3, .slice a4 r.letters.length k4, .slice a5 r.heard.length k5] 28)) wr) (fun i _ => r.leaks.length - (intOf i).toNat)
          case atStart => exact ⟨0, Nat.zero_le _, rfl, Lib.hid (fun i h => absurd h (Nat.not_lt_zero i)), hB⟩
          case round =>
            clear hB x0 x1 x2 x3 x4 z0 HZ
            obtain ⟨k, hk, rfl, HZ, hB⟩ := hrel
            obtain ⟨x0, x1, x2, x3, x4, z0⟩ := box_room hB
            by_cases hlt : k < r.leaks.length
            · have F := RLeak_any a1 a2 a3 a4 a5 k1 k2 k3 k4 k5 r k wr (hm.mono (box_old hB)) hlt
              generalize hE : leakErr r k = e at F
              have HE := Lib.hid hE
              clear hE
              have F := Lib.hid F
              by_cases he : e = 0
              · subst he
                go_wp2_with (go_at_call 18; (with_reducible refine F.out.mono ?_); rintro e w1 ⟨rfl, hb1⟩; dsimp only)
                go_roundw
                case rel => exact ⟨k + 1, by omega, by go_num, Lib.hid (fun i hi => if h : i < k then HZ.out i h else by rw [show i = k from by omega]; exact HE.out), hB.trans (hb1.mono (by omega))⟩
                case measure => simp [intOf]; omega
              · have he2 := nei_t he
                go_wp2_with (go_at_call 18; (with_reducible refine F.out.mono ?_); rintro e w1 ⟨rfl, hb1⟩; dsimp only)
                go_ret3
                have R := R3.out.trans (checkPart_err (by omega) hlt HZ.out (by rw [HE.out]; exact he))
                rw [HE.out] at R
                subst R
                exact ⟨rfl, box_old (hB.trans (hb1.mono (by omega)))⟩
            · have R4 := Lib.hid (R3.out.trans (checkPart_ok (by omega) (fun i hi => HZ.out i (by omega))))
              clear R3
              by_cases g4 : 4 < r.letters.length
              · have R := R4.out.trans (checkPart_long g4)
                subst R
                go_wp2
                go_ret3
                exact ⟨rfl, box_old hB⟩
              go_wp2
              go_loopw [10] (fun i wr => ∃ k : Nat, k ≤ r.letters.length ∧ i = .int .i64 k ∧ Hid (∀ i, i < k → letterErr r i = 0) ∧ Below (w.heap.size + 1) (w.alloc (.cells #[.slice a1 r.writers.length k1, .slice a2 r.kept.length k2, .slice a3 r.leaks.length k3, .slice a4 r.letters.length k4, .slice a5 r.heard.length k5] 28)) wr) (fun i _ => r.letters.length - (intOf i).toNat)
              case atStart => exact ⟨0, Nat.zero_le _, rfl, Lib.hid (fun i h => absurd h (Nat.not_lt_zero i)), hB⟩
              case round =>
                clear hB x0 x1 x2 x3 x4 z0 HZ
                obtain ⟨k, hk, rfl, HZ, hB⟩ := hrel
                obtain ⟨x0, x1, x2, x3, x4, z0⟩ := box_room hB
                by_cases hlt : k < r.letters.length
                · have F := RLetter_any a1 a2 a3 a4 a5 k1 k2 k3 k4 k5 r k wr (hm.mono (box_old hB)) hlt (by omega)
                  generalize hE : letterErr r k = e at F
                  have HE := Lib.hid hE
                  clear hE
                  have F := Lib.hid F
                  by_cases he : e = 0
                  · subst he
                    go_wp2_with (go_at_call 19; (with_reducible refine F.out.mono ?_); rintro e w1 ⟨rfl, hb1⟩; dsimp only)
                    go_roundw
                    case rel => exact ⟨k + 1, by omega, by go_num, Lib.hid (fun i hi => if h : i < k then HZ.out i h else by rw [show i = k from by omega]; exact HE.out), hB.trans (hb1.mono (by omega))⟩
                    case measure => simp [intOf]; omega
                  · have he2 := nei_t he
                    go_wp2_with (go_at_call 19; (with_reducible refine F.out.mono ?_); rintro e w1 ⟨rfl, hb1⟩; dsimp only)
                    go_ret3
                    have R := R4.out.trans (checkPart_err (by omega) hlt HZ.out (by rw [HE.out]; exact he))
                    rw [HE.out] at R
                    subst R
                    exact ⟨rfl, box_old (hB.trans (hb1.mono (by omega)))⟩
                · have R5 := Lib.hid (R4.out.trans (checkPart_ok (by omega) (fun i hi => HZ.out i (by omega))))
                  clear R4
                  by_cases g5 : 3 < r.heard.length
                  · have R := R5.out.trans (checkPart_long g5)
                    subst R
                    go_wp2
                    go_ret3
                    exact ⟨rfl, box_old hB⟩
                  go_wp2
                  go_loopw [12] (fun i wr => ∃ k : Nat, k ≤ r.heard.length ∧ i = .int .i64 k ∧ Hid (∀ i, i < k → heardErr r i = 0) ∧ Below (w.heap.size + 1) (w.alloc (.cells #[.slice a1 r.writers.length k1, .slice a2 r.kept.length k2, .slice a3 r.leaks.length k3, .slice a4 r.letters.length k4, .slice a5 r.heard.length k5] 28)) wr) (fun i _ => r.heard.length - (intOf i).toNat)
                  case atStart => exact ⟨0, Nat.zero_le _, rfl, Lib.hid (fun i h => absurd h (Nat.not_lt_zero i)), hB⟩
                  case round =>
                    clear hB x0 x1 x2 x3 x4 z0 HZ
                    obtain ⟨k, hk, rfl, HZ, hB⟩ := hrel
                    obtain ⟨x0, x1, x2, x3, x4, z0⟩ := box_room hB
                    by_cases hlt : k < r.heard.length
                    · obtain ⟨b, off, ha, hb, h1, h2, h3, h4⟩ := (hm.mono (box_old hB)).heard k hlt
                      have HE : Hid (heardErr r k = heardErrOf r r.heard[k]) := by show heardErr r k = _; simp [heardErr, hlt]
                      generalize r.heard[k] = x at h1 h2 h3 h4 HE
                      obtain ⟨hw, hs, hd, hn⟩ := x
                      unfold heardErrOf at HE
                      simp only at h1 h2 h3 h4 HE
                      have W1 := Lib.hid (fun W => RWriter_any a1 a2 a3 a4 a5 k1 k2 k3 k4 k5 r hw W l1)
                      have C1 := Lib.hid (fun W => In_any hs 0 ((r.kept.length : Int) - 1) W)
                      have C2 := Lib.hid (fun W => In_any hd 0 9 W)
                      generalize seWho r hw = b1 at W1 HE
                      generalize inB hs 0 ((r.kept.length : Int) - 1) = b2 at C1 HE
                      generalize inB hd 0 9 = b3 at C2 HE
                      have hcc := hm.ok5.1
                      have hcc2 : (k : Int) < k5 := by omega
                      have hcc3 : (k : Int) < r.heard.length := by omega
                      clear hm
                      subst ha
                      go_upto_region 38 with (fail)
                      obtain ⟨Y, hY⟩ : ∃ Y : World, Y = wr.alloc (.cells #[.int .i64 hw, .int .i64 hs, .int .i64 hd, .bool hn] 58) := ⟨_, rfl⟩
                      rw [← hY]
                      have hBY : Below (w.heap.size + 1) (w.alloc (.cells #[.slice a1 r.writers.length k1, .slice a2 r.kept.length k2, .slice a3 r.leaks.length k3, .slice a4 r.letters.length k4, .slice (some ⟨b, off, none⟩) r.heard.length k5] 28)) Y := by rw [hY]; exact hB.alloc (by have := hB.size; simp at this; omega) _
                      have hY1 : Y.heap[wr.heap.size]? = some (.cells #[.int .i64 hw, .int .i64 hs, .int .i64 hd, .bool hn] 58 (0, 0)) := by rw [hY]; exact alloc_at _ _ rfl
                      clear hY x0 x1 x2 x3 x4 z0 h1 h2 h3 h4 hB
                      obtain ⟨x0, x1, x2, x3, x4, z0⟩ := box_room hBY
                      have y0 := blk_cell 0 hY1 rfl
                      have y1 := blk_cell 1 hY1 rfl
                      have y2 := blk_cell 2 hY1 rfl
                      simp only [List.getElem_toArray, List.getElem_cons_zero, List.getElem_cons_succ] at y0 y1 y2
                      have zy := lt_of_block hY1
                      have HNX : Hid (∀ V, Below Y.heap.size Y V → Below (w.heap.size + 1) (w.alloc (.cells #[.slice a1 r.writers.length k1, .slice a2 r.kept.length k2, .slice a3 r.leaks.length k3, .slice a4 r.letters.length k4, .slice (some ⟨b, off, none⟩) r.heard.length k5] 28)) V) := Lib.hid (fun V h => hBY.trans (h.mono (by have := hBY.size; simp at this; omega)))
                      have HCX : Hid (∀ V : World, Below Y.heap.size Y V → V.cell? ⟨wr.heap.size, 1, none⟩ = some (.int .i64 hs) ∧ V.cell? ⟨wr.heap.size, 2, none⟩ = some (.int .i64 hd) ∧ wr.heap.size < V.heap.size ∧ V.cell? ⟨w.heap.size, 1, none⟩ = some (.slice a2 r.kept.length k2) ∧ w.heap.size < V.heap.size) := Lib.hid (fun V h => ⟨blk_cell 1 ((h.block _ zy).trans hY1) rfl, blk_cell 2 ((h.block _ zy).trans hY1) rfl, lt_of_block ((h.block _ zy).trans hY1), (box_room (HNX.out V h)).2.1, (box_room (HNX.out V h)).2.2.2.2.2⟩)
                      clear hY1
                      cases b1
                      · go_wp2_with (go_at_call 20; go_must ((with_reducible refine (W1.out Y).mono ?_); rintro e w2 ⟨rfl, hb2⟩; dsimp only))
                        go_ret3
                        have R := R5.out.trans (checkPart_err (by omega) hlt HZ.out (by rw [HE.out]; simp))
                        rw [HE.out] at R
                        subst R
                        exact ⟨rfl, box_old (HNX.out _ hb2)⟩
                      · cases b2
                        · go_wp2_with (first | (go_at_call 21; go_must ((with_reducible refine (C1.out _).mono ?_); rintro e w3 ⟨rfl, rfl⟩; dsimp only)) | (go_at_call 20; go_must ((with_reducible refine (W1.out Y).mono ?_); rintro e w2 ⟨rfl, hb2⟩; (obtain ⟨y1, y2, zy, x1, z0⟩ := HCX.out _ hb2); dsimp only)))
                          go_ret3
                          have R := R5.out.trans (checkPart_err (by omega) hlt HZ.out (by rw [HE.out]; simp))
                          rw [HE.out] at R
                          subst R
                          exact ⟨rfl, box_old (HNX.out _ hb2)⟩
                        · cases b3
                          · go_wp2_with (first | (go_at_call 21; (first | ((with_reducible refine (C1.out _).mono ?_); rintro e w3 ⟨rfl, rfl⟩; dsimp only) | ((with_reducible refine (C2.out _).mono ?_); rintro e w3 ⟨rfl, rfl⟩; dsimp only))) | (go_at_call 20; go_must ((with_reducible refine (W1.out Y).mono ?_); rintro e w2 ⟨rfl, hb2⟩; (obtain ⟨y1, y2, zy, x1, z0⟩ := HCX.out _ hb2); dsimp only)))
                            go_ret3
                            have R := R5.out.trans (checkPart_err (by omega) hlt HZ.out (by rw [HE.out]; simp))
                            rw [HE.out] at R
                            subst R
                            exact ⟨rfl, box_old (HNX.out _ hb2)⟩
                          · go_wp2_with (first | (go_at_call 21; (first | ((with_reducible refine (C1.out _).mono ?_); rintro e w3 ⟨rfl, rfl⟩; dsimp only) | ((with_reducible refine (C2.out _).mono ?_); rintro e w3 ⟨rfl, rfl⟩; dsimp only))) | (go_at_call 20; go_must ((with_reducible refine (W1.out Y).mono ?_); rintro e w2 ⟨rfl, hb2⟩; (obtain ⟨y1, y2, zy, x1, z0⟩ := HCX.out _ hb2); dsimp only)))
                            go_roundw
                            case rel => exact ⟨k + 1, by omega, by go_num, Lib.hid (fun i hi => if h : i < k then HZ.out i h else by rw [show i = k from by omega]; exact HE.out), HNX.out _ (by first | assumption | exact hb2)⟩
                            case measure => simp [intOf]; omega
                    · have R := R5.out.trans (checkPart_ok (by omega) (fun i hi => HZ.out i (by omega)))
                      subst R
                      go_wp2
                      go_ret3
                      exact ⟨rfl, box_old hB⟩
end Go.Proofs.YtcgplocmncionaaGreat
namespace Go.Proofs.YtcgplocmncionaaGreat
open Go Go.RowKit Go.Shelf

def ml (n : Nat) (d : Nat → Int) : List Int := (List.range n).map d
theorem ml_len (n : Nat) (d : Nat → Int) : (ml n d).length = n := by unfold ml; simp
theorem ml_get (n : Nat) (d : Nat → Int) (i : Nat) (h : i < (ml n d).length) : (ml n d)[i] = d i := by
  have h2 : i < n := by rwa [ml_len] at h
  have e : (ml n d)[i]? = some (d i) := by unfold ml; rw [List.getElem?_map, List.getElem?_range h2]; rfl
  obtain ⟨_, e2⟩ := List.getElem?_eq_some_iff.1 e
  exact e2
theorem ml_set (n : Nat) (d : Nat → Int) (i : Nat) (x : Int) : (ml n d).set i x = ml n fun w => if w = i then x else d w := by
  apply List.ext_getElem
  · rw [List.length_set, ml_len, ml_len]
  · intro j h1 h2
    rw [List.getElem_set, ml_get, ml_get]
    by_cases h : i = j
    · rw [if_pos h, if_pos h.symm]
    · rw [if_neg h, if_neg (Ne.symm h)]
theorem ml_same {n : Nat} {d e : Nat → Int} (h : ∀ w, w < n → d w = e w) : ml n d = ml n e := by
  unfold ml
  exact List.map_congr_left fun w hw => h w (List.mem_range.1 hw)
theorem ml_zeros (n : Nat) (h : n ≤ 4) : madeCells #[Value.int .i64 0] n = ((ml n fun _ => 0).map (Value.int .i64)).toArray := by
  have e : (ml n fun _ => (0 : Int)) = List.replicate n 0 := by
    unfold ml
    rw [List.map_const', List.length_range]
  rw [e]; exact zeros_made n h
/-- From's memory: its room, and its days. -/
def FromW (w W : World) (a1 a2 a3 a4 a5 : Option Addr) (k1 k2 k3 k4 k5 : Nat) (r : SeRoom) (d : Nat → Int) : Prop := Below w.heap.size w W ∧ W.heap[w.heap.size]? = some (.cells #[.slice a1 r.writers.length k1, .slice a2 r.kept.length k2, .slice a3 r.leaks.length k3, .slice a4 r.letters.length k4, .slice a5 r.heard.length k5] 28 (0, 0)) ∧ BlkI W (w.heap.size + 1) 3 (ml r.writers.length d)
section
variable {w W W' : World} {a1 a2 a3 a4 a5 : Option Addr} {k1 k2 k3 k4 k5 : Nat} {r : SeRoom} {d e : Nat → Int}
theorem FromW.lt (h : FromW w W a1 a2 a3 a4 a5 k1 k2 k3 k4 k5 r d) : w.heap.size + 1 < W.heap.size := h.2.2.lt
theorem FromW.below (h : FromW w W a1 a2 a3 a4 a5 k1 k2 k3 k4 k5 r d) (hb : Below W.heap.size W W') : FromW w W' a1 a2 a3 a4 a5 k1 k2 k3 k4 k5 r d := by
  have := h.lt
  exact ⟨h.1.trans (hb.mono h.1.size), (hb.block _ (by omega)).trans h.2.1, h.2.2.same (hb.block _ (by omega))⟩
theorem FromW.set (h : FromW w W a1 a2 a3 a4 a5 k1 k2 k3 k4 k5 r d) (i : Nat) (x : Int) : FromW w (W.setCell ⟨w.heap.size + 1, i, none⟩ (.int .i64 x)) a1 a2 a3 a4 a5 k1 k2 k3 k4 k5 r fun v => if v = i then x else d v := by
  refine ⟨h.1.setCell (Nat.le_succ _) _, (Below.heap_setCell _ _ _ _ (fun e => absurd (show w.heap.size = w.heap.size + 1 from e) (by omega))).trans h.2.1, ?_⟩
  have := h.2.2.set i x
  rwa [ml_set] at this
theorem FromW.drew (h : FromW w W a1 a2 a3 a4 a5 k1 k2 k3 k4 k5 r d) : FromW w W.drew a1 a2 a3 a4 a5 k1 k2 k3 k4 k5 r d := ⟨below_drew' h.1, h.2.1, h.2.2⟩
theorem FromW.turn (h : FromW w W a1 a2 a3 a4 a5 k1 k2 k3 k4 k5 r d) (he : ∀ v, v < r.writers.length → d v = e v) : FromW w W a1 a2 a3 a4 a5 k1 k2 k3 k4 k5 r e := ⟨h.1, h.2.1, by rw [← ml_same he]; exact h.2.2⟩
theorem FromW.room (h : FromW w W a1 a2 a3 a4 a5 k1 k2 k3 k4 k5 r d) : W.cell? ⟨w.heap.size, 0, none⟩ = some (.slice a1 r.writers.length k1) ∧ W.cell? ⟨w.heap.size, 1, none⟩ = some (.slice a2 r.kept.length k2) ∧ W.cell? ⟨w.heap.size, 2, none⟩ = some (.slice a3 r.leaks.length k3) ∧ W.cell? ⟨w.heap.size, 3, none⟩ = some (.slice a4 r.letters.length k4) ∧ W.cell? ⟨w.heap.size, 4, none⟩ = some (.slice a5 r.heard.length k5) ∧ w.heap.size < W.heap.size :=
  ⟨blk_cell 0 h.2.1 rfl, blk_cell 1 h.2.1 rfl, blk_cell 2 h.2.1 rfl, blk_cell 3 h.2.1 rfl, blk_cell 4 h.2.1 rfl, lt_of_block h.2.1⟩
theorem FromW.cell (h : FromW w W a1 a2 a3 a4 a5 k1 k2 k3 k4 k5 r d) (i : Nat) (hi : i < r.writers.length) : W.cell? ⟨w.heap.size + 1, i, none⟩ = some (.int .i64 (d i)) := by
  have := h.2.2.cell i (by rw [ml_len]; exact hi)
  rwa [ml_get] at this
end
/-- The days while they are looked for among letters. -/
def fstF (letters : List SeLetter) (s u i : Nat) : Nat → Int := fun v => if v < u then startDay letters s v else if v = u then startDay (letters.take i) s v else 0
theorem fst_zero (letters : List SeLetter) (s u : Nat) : (fun v => if v = u then 10 else if v < u then startDay letters s v else 0) = fstF letters s u 0 := by
  funext v
  unfold fstF
  by_cases h : v = u
  · subst h; rw [if_pos rfl, if_neg (Nat.lt_irrefl _), if_pos rfl]; rfl
  · rw [if_neg h]; by_cases h2 : v < u
    · rw [if_pos h2, if_pos h2]
    · rw [if_neg h2, if_neg h2, if_neg h]
theorem fst_no {letters : List SeLetter} {s u i : Nat} (hi : i < letters.length) (h : ¬ (letters[i].writer = (u : Int) ∧ bitB letters[i].secrets s = true)) : fstF letters s u (i + 1) = fstF letters s u i := by
  funext v
  unfold fstF
  by_cases h1 : v < u
  · rw [if_pos h1, if_pos h1]
  · rw [if_neg h1, if_neg h1]
    by_cases h2 : v = u
    · rw [if_pos h2, if_pos h2, startDay_succ _ _ _ hi]; unfold startOne; rw [h2, if_neg h]
    · rw [if_neg h2, if_neg h2]
theorem fst_yes {letters : List SeLetter} {s u i : Nat} (hi : i < letters.length) (h : letters[i].writer = (u : Int) ∧ bitB letters[i].secrets s = true) : fstF letters s u (i + 1) = fun v => if v = u then min (fstF letters s u i u) letters[i].day else fstF letters s u i v := by
  funext v
  unfold fstF
  by_cases h2 : v = u
  · subst h2
    rw [if_neg (Nat.lt_irrefl _), if_pos rfl, if_pos rfl, if_neg (Nat.lt_irrefl _), if_pos rfl, startDay_succ _ _ _ hi]
    unfold startOne
    rw [if_pos h]
  · rw [if_neg h2, if_neg h2]
    by_cases h1 : v < u
    · rw [if_pos h1, if_pos h1]
    · rw [if_neg h1, if_neg h1, if_neg h2]
theorem fst_end (letters : List SeLetter) (s u : Nat) : fstF letters s u letters.length = fun v => if v < u + 1 then startDay letters s v else 0 := by
  funext v
  unfold fstF
  rw [List.take_length]
  by_cases h1 : v < u
  · rw [if_pos h1, if_pos (by omega)]
  · rw [if_neg h1]
    by_cases h2 : v = u
    · rw [if_pos h2, if_pos (by omega)]
    · rw [if_neg h2, if_neg (by omega)]
theorem leaksOf_take {r : SeRoom} {t : List Int} {j m : Nat} (hj : j < t.length) (h0 : t[j] = (m : Int)) (h1 : m < r.leaks.length) (d : Nat → Int) : relaxL (leaksOf r (t.take (j + 1))) d = relax (relaxL (leaksOf r (t.take j)) d) r.leaks[m] := by
  rw [List.take_succ_eq_append_getElem hj, leaksOf_append, relaxL_append]
  have : leaksOf r [t[j]] = [r.leaks[m]] := by
    unfold leaksOf
    rw [h0]
    simp [List.getElem?_eq_getElem h1]
  rw [this]
  rfl

set_option maxRecDepth 100000 in
set_option maxHeartbeats 2000000 in
theorem RFrom_any (a1 a2 a3 a4 a5 : Option Addr) (k1 k2 k3 k4 k5 : Nat) (r : SeRoom) (la ta : Option Addr) (letters : List SeLetter) (t : List Int) (lc tc s : Nat) (w : World) (hm : RoomC w a1 a2 a3 a4 a5 k1 k2 k3 k4 k5 r) (hv : SeValid r) (hlo : SlOk la letters.length lc) (hlc : LettersC w la letters) (hlb : ∀ x ∈ letters, 0 ≤ x.day ∧ x.day ≤ 10 ∧ 0 ≤ x.secrets ∧ x.secrets ≤ 8) (hto : SlOk ta t.length tc) (htc : IntsC w ta t) (htb : ∀ x ∈ t, 0 ≤ x ∧ x < r.leaks.length) (hs : s ≤ 3) :
    Calls Tryz.prog 8 #[(.agg #[.slice a1 r.writers.length k1, .slice a2 r.kept.length k2, .slice a3 r.leaks.length k3, .slice a4 r.letters.length k4, .slice a5 r.heard.length k5]), .slice la letters.length lc, .slice ta t.length tc, .int .i64 (s : Int)] w fun e w' => e = .returned (.slice (some ⟨w.heap.size + 1, 0, none⟩) r.writers.length r.writers.length) ∧ FromW w w' a1 a2 a3 a4 a5 k1 k2 k3 k4 k5 r (fromD r letters t s) := by
  have l1 := hm.ok1.len
  have vw := hv.nw
  have vl := hv.nl
  have ll := hlo.len
  have llc := hlo.1
  have lt := hto.len
  have ltc := hto.1
  obtain ⟨i, hi, hz, hsz, hby⟩ := info_parts E_int.info
  go_enter Tryz.func8, Tryz.ntmps8
  go_upto_region 2 with (refine wpList_make_row _ rfl (.tmp 18) (.tmp 18) _ rfl 3 i (.int .i64 0) E_int.und hi hz hsz rfl .i64 .i64 r.writers.length rfl rfl (by rw [hby]; omega) (by omega) ?_; go_frame)
  have e0 : (w.alloc (.cells #[.slice a1 r.writers.length k1, .slice a2 r.kept.length k2, .slice a3 r.leaks.length k3, .slice a4 r.letters.length k4, .slice a5 r.heard.length k5] 28)).heap.size = w.heap.size + 1 := by simp
  rw [e0]
  obtain ⟨Y, hY⟩ : ∃ Y : World, Y = (w.alloc (.cells #[.slice a1 r.writers.length k1, .slice a2 r.kept.length k2, .slice a3 r.leaks.length k3, .slice a4 r.letters.length k4, .slice a5 r.heard.length k5] 28)).alloc (.cells (madeCells #[.int .i64 0] r.writers.length) 3) := ⟨_, rfl⟩
  rw [← hY]
  have hYF : FromW w Y a1 a2 a3 a4 a5 k1 k2 k3 k4 k5 r (fun _ => 0) := by
    rw [hY]
    refine ⟨((Below.refl _ _).alloc (Nat.le_refl _) _).alloc (by simp) _, (heap_alloc_old _ _ (by simp)).trans (alloc_at _ _ rfl), ?_⟩
    unfold BlkI
    rw [← ml_zeros _ vw]
    exact alloc_at _ _ (by simp)
  clear hY e0 hi hz hsz hby
  have HS := Lib.hid (show (fun v => if v < 0 then startDay letters s v else 0) = (fun _ => (0 : Int)) from funext fun v => if_neg (Nat.not_lt_zero v))
  go_wp2
  go_loopw [10] (fun k wr => ∃ u : Nat, u ≤ r.writers.length ∧ k = .int .i64 u ∧ FromW w wr a1 a2 a3 a4 a5 k1 k2 k3 k4 k5 r (fun v => if v < u then startDay letters s v else 0)) (fun k _ => r.writers.length - (intOf k).toNat)
  case atStart => exact ⟨0, Nat.zero_le _, rfl, by rw [HS.out]; exact hYF⟩
  case round =>
    clear hYF
    obtain ⟨u, hu, rfl, hF⟩ := hrel
    obtain ⟨x0, x1, x2, x3, x4, z0⟩ := hF.room
    have hz1 := hF.lt
    by_cases hlt : u < r.writers.length
    · have c0 := hF.cell u hlt
      have f0 := hF.2.2.free u
      have hul : (u : Int) < r.writers.length := by omega
      go_upto_region 6 with (fail)
      obtain ⟨V1, hV1⟩ : ∃ V1 : World, V1 = wr.setCell ⟨w.heap.size + 1, u, none⟩ (.int .i64 10) := ⟨_, rfl⟩
      rw [← hV1]
      have hF1 : FromW w V1 a1 a2 a3 a4 a5 k1 k2 k3 k4 k5 r (fstF letters s u 0) := by rw [hV1, ← fst_zero]; exact hF.set u 10
      clear hV1 c0 f0 x0 x1 x2 x3 x4 z0 hz1 hF
      go_wp2
      go_loopw [11] (fun i vr => ∃ n : Nat, n ≤ letters.length ∧ i = .int .i64 n ∧ FromW w vr a1 a2 a3 a4 a5 k1 k2 k3 k4 k5 r (fstF letters s u n)) (fun i _ => letters.length - (intOf i).toNat)
      case atStart => exact ⟨0, Nat.zero_le _, rfl, hF1⟩
      case round =>
        clear hF1
        obtain ⟨n, hn, rfl, hF⟩ := hrel
        by_cases hnl : n < letters.length
        · obtain ⟨b, off, ha, hb, h1, h2, h3⟩ := (hlc.mono hF.1) n hnl
          have hx := hlb letters[n] (List.getElem_mem hnl)
          have HNO := Lib.hid (fun h => fst_no (letters := letters) (s := s) (u := u) hnl h)
          have HYE := Lib.hid (fun h => fst_yes (letters := letters) (s := s) (u := u) hnl h)
          generalize letters[n] = x at h1 h2 h3 hx HNO HYE
          obtain ⟨day, sec, wri⟩ := x
          simp only at h1 h2 h3 hx HNO HYE
          have C := fun W => Bit_any sec s W (by omega) (by omega) (by omega) (by omega)
          rw [Int.toNat_natCast] at C
          generalize bitB sec s = bt at C HNO HYE
          have C := Lib.hid C
          have HLO := Lib.hid hlo
          have HLC := Lib.hid hlc
          clear hlo hlc
          subst ha
          have hnk : (n : Int) < lc := by omega
          have hnl2 : (n : Int) < letters.length := by omega
          go_upto_region 10 with (fail)
          obtain ⟨V2, hV2⟩ : ∃ V2 : World, V2 = wr.alloc (.cells #[.int .i64 day, .int .i64 sec, .int .i64 wri] 43) := ⟨_, rfl⟩
          rw [← hV2]
          have hF2 := hF.below (W' := V2) (by rw [hV2]; exact (Below.refl _ _).alloc (Nat.le_refl _) _)
          have hY1 : V2.heap[wr.heap.size]? = some (.cells #[.int .i64 day, .int .i64 sec, .int .i64 wri] 43 (0, 0)) := by rw [hV2]; exact alloc_at _ _ rfl
          clear hV2 h1 h2 h3
          have y0 : V2.cell? ⟨wr.heap.size, 0, none⟩ = some (.int .i64 day) := blk_cell 0 hY1 rfl
          have y1 : V2.cell? ⟨wr.heap.size, 1, none⟩ = some (.int .i64 sec) := blk_cell 1 hY1 rfl
          have y2 : V2.cell? ⟨wr.heap.size, 2, none⟩ = some (.int .i64 wri) := blk_cell 2 hY1 rfl
          have zy := lt_of_block hY1
          clear hY1
          by_cases q : wri = u
          · have g1 := eqi_t q
            cases bt
            · have hno := Lib.hid (HNO.out (by simp))
              clear q
              go_wp2_with (go_at_call 9; go_must ((with_reducible refine (C.out _).mono ?_); rintro e w2 ⟨rfl, rfl⟩; dsimp only))
              go_roundw
              case rel => exact ⟨n + 1, by omega, by go_num, by rw [hno.out]; exact hF2⟩
              case measure => simp [intOf]; omega
            · have hyes := Lib.hid (HYE.out (by simp [q]))
              clear q HNO HYE
              have c0 := hF2.cell u hlt
              have f0 := hF2.2.2.free u
              have zg := hF2.lt
              have HSET : Hid (∀ y, y = min (fstF letters s u n u) day → FromW w (V2.setCell ⟨w.heap.size + 1, u, none⟩ (.int .i64 y)).drew a1 a2 a3 a4 a5 k1 k2 k3 k4 k5 r (fstF letters s u (n + 1))) := Lib.hid (fun y hy => by
                rw [hyes.out, ← hy]
                exact (hF2.set u y).drew)
              generalize fstF letters s u n u = du at c0 HSET
              go_upto_region 11 with (go_at_call 9; go_must ((with_reducible refine (C.out _).mono ?_); rintro e w2 ⟨rfl, rfl⟩; dsimp only))
              apply wp_mid _ (fun W' => FromW w W' a1 a2 a3 a4 a5 k1 k2 k3 k4 k5 r (fstF letters s u (n + 1)))
              · (focus go_region)
                all_goals exact ⟨rfl, HSET.out _ (by split <;> omega)⟩
              intro W' hF3
              go_wp2
              go_roundw
              case rel => exact ⟨n + 1, by omega, by go_num, hF3⟩
              case measure => simp [intOf]; omega
          · have g1 := eqi_f q
            have hno := Lib.hid (HNO.out (by simp [q]))
            clear q
            go_wp2
            go_roundw
            case rel => exact ⟨n + 1, by omega, by go_num, by rw [hno.out]; exact hF2⟩
            case measure => simp [intOf]; omega
        · obtain rfl : n = letters.length := by omega
          rw [fst_end] at hF
          go_wp2
          go_roundw
          case rel => exact ⟨u + 1, by omega, by go_num, hF⟩
          case measure => simp [intOf]; omega
    · obtain rfl : u = r.writers.length := by omega
      replace hF : FromW w wr a1 a2 a3 a4 a5 k1 k2 k3 k4 k5 r (rounds (leaksOf r t) (startDay letters s) 0) := hF.turn (fun v hv => if_pos hv)
      have HBD : Hid (∀ k j, Days (relaxL (leaksOf r (t.take j)) (rounds (leaksOf r t) (startDay letters s) k))) := Lib.hid (fun k j => ((startDay_days s (fun x hx => (hlb x hx).1)).rounds k).relaxL _)
      go_wp2
      go_loopw [13] (fun k wr => ∃ u : Nat, u ≤ r.writers.length ∧ k = .int .i64 u ∧ FromW w wr a1 a2 a3 a4 a5 k1 k2 k3 k4 k5 r (rounds (leaksOf r t) (startDay letters s) u)) (fun k _ => r.writers.length - (intOf k).toNat)
      case atStart => exact ⟨0, Nat.zero_le _, rfl, hF⟩
      case round =>
        clear hF x0 x1 x2 x3 x4 z0 hz1
        obtain ⟨u, hu, rfl, hF⟩ := hrel
        by_cases hlt : u < r.writers.length
        · have hHEND := Lib.hid (show relaxL (leaksOf r (t.take t.length)) (rounds (leaksOf r t) (startDay letters s) u) = rounds (leaksOf r t) (startDay letters s) (u + 1) by rw [List.take_length]; rfl)
          have HBU := Lib.hid (HBD.out u)
          generalize rounds (leaksOf r t) (startDay letters s) u = D at hF hHEND HBU
          go_wp2
          go_loopw [14] (fun i vr => ∃ n : Nat, n ≤ t.length ∧ i = .int .i64 n ∧ FromW w vr a1 a2 a3 a4 a5 k1 k2 k3 k4 k5 r (relaxL (leaksOf r (t.take n)) D)) (fun i _ => t.length - (intOf i).toNat)
          case atStart => exact ⟨0, Nat.zero_le _, rfl, hF⟩
          case round =>
            clear hF
            obtain ⟨n, hn, rfl, hF⟩ := hrel
            by_cases hnl : n < t.length
            · obtain ⟨bt, ot, hta, hbt, ht1⟩ := (htc.mono hF.1) n hnl
              have hx := htb t[n] (List.getElem_mem hnl)
              have HTK := Lib.hid (fun m h0 h1 => leaksOf_take (r := r) (t := t) (j := n) (m := m) hnl h0 h1 D)
              have HB1 := Lib.hid (HBU.out n)
              generalize t[n] = x at ht1 hx HTK
              obtain ⟨m, rfl⟩ : ∃ m : Nat, x = m := ⟨x.toNat, by omega⟩
              have hml : m < r.leaks.length := by omega
              obtain ⟨bl, ol, hla, hbl, h1, h2, h3⟩ := (hm.mono hF.1).leaks m hml
              have hxv := hv.leaks m hml
              replace HTK := Lib.hid (HTK.out m rfl hml)
              generalize r.leaks[m] = x at h1 h2 h3 hxv HTK
              obtain ⟨src, dst, sure⟩ := x
              simp only at h1 h2 h3 hxv
              obtain ⟨p, rfl⟩ : ∃ p : Nat, src = p := ⟨src.toNat, by omega⟩
              obtain ⟨q, rfl⟩ : ∃ q : Nat, dst = q := ⟨dst.toNat, by omega⟩
              have hp : p < r.writers.length := by omega
              have hq : q < r.writers.length := by omega
              have hpi : (p : Int) < r.writers.length := by omega
              have hqi : (q : Int) < r.writers.length := by omega
              have hmi : (m : Int) < r.leaks.length := by omega
              have hni : (n : Int) < t.length := by omega
              obtain ⟨x0, x1, x2, x3, x4, z0⟩ := hF.room
              have hz1 := hF.lt
              rw [hla] at x2
              have HLA := Lib.hid hla
              clear hla
              have HTO := Lib.hid hto
              have HTC := Lib.hid htc
              clear hto htc
              subst hta
              have hnk : (n : Int) < tc := by omega
              obtain ⟨E, hE⟩ : ∃ E, E = relaxL (leaksOf r (t.take n)) D := ⟨_, rfl⟩
              rw [← hE] at hF HTK HB1
              have HE := Lib.hid hE
              clear hE
              go_wp2
              apply wp_mid _ (fun W' => FromW w W' a1 a2 a3 a4 a5 k1 k2 k3 k4 k5 r E ∧ W'.heap[wr.heap.size]? = some (.cells #[.int .i64 (p : Int), .int .i64 (q : Int), .bool sure] 37 (0, 0)))
              · (focus go_region)
                all_goals exact ⟨rfl, (hF.below ((Below.refl _ _).alloc (Nat.le_refl _) _)).drew, alloc_at _ _ rfl⟩
              rintro V ⟨hFV, hVx⟩
              clear x0 x1 x2 x3 x4 z0 hz1 h1 h2 h3 ht1 hbl hbt
              have y0 : V.cell? ⟨wr.heap.size, 0, none⟩ = some (.int .i64 (p : Int)) := blk_cell 0 hVx rfl
              have y1 : V.cell? ⟨wr.heap.size, 1, none⟩ = some (.int .i64 (q : Int)) := blk_cell 1 hVx rfl
              have zy := lt_of_block hVx
              have cp := hFV.cell p hp
              have cq := hFV.cell q hq
              have fq := hFV.2.2.free q
              have zg := hFV.lt
              have hdp := HB1.out p
              have hdq := HB1.out q
              have HSET : Hid (∀ y, y = min (E q) (E p + 1) → FromW w (V.setCell ⟨w.heap.size + 1, q, none⟩ (.int .i64 y)).drew a1 a2 a3 a4 a5 k1 k2 k3 k4 k5 r (relaxL (leaksOf r (t.take (n + 1))) D)) := Lib.hid (fun y hy => by
                rw [HTK.out]
                have e : (fun w => if w = q then y else E w) = relax E ⟨p, q, sure⟩ := by
                  funext w
                  unfold relax
                  simp only [Int.toNat_natCast]
                  by_cases h : w = q
                  · rw [if_pos h, if_pos h, hy, h]
                  · rw [if_neg h, if_neg h]
                rw [← e]
                exact (hFV.set q y).drew)
              generalize E p = ep at cp hdp HSET
              generalize E q = eq at cq hdq HSET
              clear hVx hFV
              go_wp2
              apply wp_mid _ (fun W' => FromW w W' a1 a2 a3 a4 a5 k1 k2 k3 k4 k5 r (relaxL (leaksOf r (t.take (n + 1))) D))
              · (focus go_region)
                all_goals exact ⟨rfl, HSET.out _ (by split <;> omega)⟩
              intro W' hF3
              go_wp2
              go_roundw
              case rel => exact ⟨n + 1, by omega, by go_num, hF3⟩
              case measure => simp [intOf]; omega
            · obtain rfl : n = t.length := by omega
              rw [hHEND.out] at hF
              go_wp2
              go_roundw
              case rel => exact ⟨u + 1, by omega, by go_num, hF⟩
              case measure => simp [intOf]; omega
        · obtain rfl : u = r.writers.length := by omega
          go_wp2
          go_ret
          exact ⟨rfl, hF⟩
end Go.Proofs.YtcgplocmncionaaGreat
