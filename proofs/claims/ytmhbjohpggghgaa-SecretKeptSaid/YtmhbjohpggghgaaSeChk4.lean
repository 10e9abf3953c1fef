/- What is proved here: contracts of the program's Check of layer 12: its fourth closure. Conditions: the room lies in memory. -/
import Derived.Test.YtmhbjohpggghgaaSeChk
set_option linter.unusedVariables false
set_option linter.unusedSimpArgs false
namespace Go.Proofs.Ytmhbjohpggghgaa
open Go Go.RowKit

theorem bits_of : ∀ n : Nat, n ≤ 4 → IntKind.i64.wrap (IntKind.i64.wrap (2 ^ n) - 1) = allBits n := by decide
set_option maxRecDepth 100000 in
set_option maxHeartbeats 400000 in
theorem SChk4_any (a1 a2 a3 a4 a5 : Option Addr) (k1 k2 k3 k4 k5 : Nat) (r : SeRoom) (i p q B : Nat) (w : World) (hm : RoomC w a1 a2 a3 a4 a5 k1 k2 k3 k4 k5 r) (hi : i < r.letters.length) (hN : r.writers.length ≤ 4) (hK3 : r.kept.length ≤ 3) (c0 : w.cell? ⟨p, 0, none⟩ = some (.int .i64 (r.kept.length : Int))) (c1 : w.cell? ⟨q, 0, none⟩ = some (.int .i64 (r.writers.length : Int))) (c2 : w.cell? ⟨B, 3, none⟩ = some (.slice a4 r.letters.length k4)) :
    Calls Try.prog 66 #[.int .i64 i, .agg #[.int .i64 r.letters[i].day, .int .i64 r.letters[i].secrets, .int .i64 r.letters[i].writer], .pointer (some ⟨p, 0, none⟩), .pointer (some ⟨q, 0, none⟩), .pointer (some ⟨B, 0, none⟩)] w fun e w' => e = .returned (.int .i64 (letterErr r i)) ∧ Below w.heap.size w w' := by
  have l3 := hm.ok4.len
  have l3c := hm.ok4.1
  have HE : Hid (letterErr r i = letterErrOf r i r.letters[i]) := by show letterErr r i = _; unfold letterErr; rw [List.getElem?_eq_getElem hi]
  generalize letterErr r i = er at HE ⊢
  generalize r.letters[i] = x at HE ⊢
  obtain ⟨day, secrets, wr⟩ := x
  unfold letterErrOf at HE
  simp only at HE ⊢
  obtain ⟨b, off, rfl, hb, _⟩ := hm.letters i hi
  have hti : (r.letters.take i).length = i := by rw [List.length_take]; omega
  have K := fun (W : World) (h : Below w.heap.size w W) (p : Nat) h0 h1 => (show Calls Try.prog 67 #[.slice (some ⟨b, off, none⟩) i k4, .func (.func 68) #[] #[.pointer (some ⟨p, 0, none⟩)]] W fun e w' => e = .returned (.bool ((r.letters.take i).any fun y => decide (y.writer = wr) && decide (y.day = day))) ∧ Below W.heap.size W w' from by
    have := SContainsT_any (some ⟨b, off, none⟩) (r.letters.take i) k4 wr day p W (by omega) ((hm.mono h).letters.take i) h0 h1
    rw [hti] at this
    exact this)
  obtain ⟨hh, hhh⟩ : ∃ hh, hh = (r.letters.take i).any fun y => decide (y.writer = wr) && decide (y.day = day) := ⟨_, rfl⟩
  rw [← hhh] at K HE
  clear hhh
  have i9 : (i : Int) ≤ r.letters.length := by omega
  have i8 : (i : Int) ≤ k4 := by omega
  have B0 := fun (a : Nat) (W : World) h => MBeyondOne_any day 0 9 a W h
  have B1 := fun (a : Nat) (W : World) h => MBeyondOne_any secrets 0 (IntKind.i64.wrap (IntKind.i64.wrap (2 ^ r.kept.length) - 1)) a W h
  have B2 := fun (a : Nat) (W : World) h => MBeyondOne_any wr (-1) ((r.writers.length : Int) - 1) a W h
  have hA : inB secrets 0 (IntKind.i64.wrap (IntKind.i64.wrap (2 ^ r.kept.length) - 1)) = inB secrets 0 (allBits r.kept.length) := by rw [bits_of r.kept.length (by omega)]
  rw [hA] at B1
  clear hA
  generalize inB day 0 9 = db at B0 HE
  generalize inB secrets 0 (allBits r.kept.length) = sb at B1 HE
  generalize inB wr (-1) ((r.writers.length : Int) - 1) = wb at B2 HE
  have hb4 : (r.kept.length : Int) < 4 := by omega
  generalize hKN : (r.kept.length : Int) = KN at c0 hb4
  have hKN0 : 0 ≤ KN := by omega
  have eKN : IntKind.i64.wrap (2 ^ r.kept.length) = IntKind.i64.wrap (2 ^ KN.toNat) := by rw [← hKN]; simp
  rw [eKN] at B1
  clear eKN hKN
  generalize hNN : (r.writers.length : Int) = N at c1 B2
  have hN2 : N ≤ 4 ∧ 0 ≤ N := by omega
  clear hNN
  have eW : IntKind.i64.wrap (N - 1) = N - 1 := by
    obtain rfl | rfl | rfl | rfl | rfl : N = 0 ∨ N = 1 ∨ N = 2 ∨ N = 3 ∨ N = 4 := by omega
    all_goals decide
  rw [← eW] at B2
  clear eW
  have B0 := Lib.hid B0
  have B1 := Lib.hid B1
  have B2 := Lib.hid B2
  have K := Lib.hid K
  have hp := lt_of_cell c0
  have hq := lt_of_cell c1
  have hB := lt_of_cell c2
  have hQ := Below.refl (w.heap.size + 1) (w.alloc (.cells #[.int .i64 day, .int .i64 secrets, .int .i64 wr] 68))
  have KE : Hid (∀ V, Below (w.heap.size + 1) (w.alloc (.cells #[.int .i64 day, .int .i64 secrets, .int .i64 wr] 68)) V → (fun V => Below (w.heap.size + 1) (w.alloc (.cells #[.int .i64 day, .int .i64 secrets, .int .i64 wr] 68)) V ∧ V.cell? ⟨w.heap.size, 1, none⟩ = some (.int .i64 secrets) ∧ V.cell? ⟨w.heap.size, 2, none⟩ = some (.int .i64 wr) ∧ V.cell? ⟨p, 0, none⟩ = some (.int .i64 KN) ∧ V.cell? ⟨q, 0, none⟩ = some (.int .i64 N) ∧ w.heap.size < V.heap.size ∧ p < V.heap.size ∧ q < V.heap.size) V) := Lib.hid (fun V h => ⟨h, box_cell h 1 _ rfl, box_cell h 2 _ rfl, cell_below (box_old h) c0, cell_below (box_old h) c1, box_size h, lt_of_cell (cell_below (box_old h) c0), lt_of_cell (cell_below (box_old h) c1)⟩)
  cases db
  · go_enter Try.func66, Try.ntmps66
    go_wp2_with (go_at_call 60; go_must (refine (B0.out _ _ ?_).mono ?_; (simp); rintro e w2 ⟨rfl, hb2⟩; dsimp only))
    go_ret
    exact ⟨ret_int (by rw [HE.out]; simp), (((Below.refl _ w).alloc (Nat.le_refl _) _).alloc (by simp) _).trans (hb2.mono (by simp; omega))⟩
  · go_enter Try.func66, Try.ntmps66
    go_wp2_with (go_at_call 60; go_must (refine (B0.out _ _ ?_).mono ?_; (simp); rintro e w2 ⟨rfl, hb2⟩; have hQ3 := (hQ.alloc (by simp) (.cells #[.int .i64 day] 3)).trans (hb2.mono (by simp)); dsimp only))
    have hz3 : w.heap.size + 1 ≤ w2.heap.size := by have := hQ3.size; simpa using this
    cases sb
    · apply wp_mid _ (Below (w.heap.size + 1) (w.alloc (.cells #[.int .i64 day, .int .i64 secrets, .int .i64 wr] 68)))
      · refine wp_region_held_drew (S := (fun V => Below (w.heap.size + 1) (w.alloc (.cells #[.int .i64 day, .int .i64 secrets, .int .i64 wr] 68)) V ∧ V.cell? ⟨w.heap.size, 1, none⟩ = some (.int .i64 secrets) ∧ V.cell? ⟨w.heap.size, 2, none⟩ = some (.int .i64 wr) ∧ V.cell? ⟨p, 0, none⟩ = some (.int .i64 KN) ∧ V.cell? ⟨q, 0, none⟩ = some (.int .i64 N) ∧ w.heap.size < V.heap.size ∧ p < V.heap.size ∧ q < V.heap.size)) (by kernel_rfl) (KE.out _ (below_drew' hQ3)) (fun hHeld => ?_)
        ((refine wpAnyH_take (i := 0) (v := ?_) rfl (by kernel_rfl) (by kernel_rfl) (by kernel_rfl) (fun _ _ _ h => h) (Or.inl ⟨by kernel_rfl, ?_⟩) (by assumption) ?_; rotate_left 1; (focus (intro w hSw; (try dsimp only at hSw); go_simp; first | done | with_reducible rfl)); simp only [Act.put, List.getElem_toArray, List.getElem_cons_succ, List.getElem_cons_zero, List.setIfInBounds_toArray, List.set_cons_succ, List.set_cons_zero]); (refine wpAnyH_take (i := 1) (v := ?_) rfl (by kernel_rfl) (by kernel_rfl) (by kernel_rfl) (fun _ _ _ h => h) (Or.inl ⟨by kernel_rfl, ?_⟩) (by assumption) ?_; rotate_left 1; (focus (intro w hSw; (try dsimp only at hSw); go_simp; first | done | with_reducible rfl)); simp only [Act.put, List.getElem_toArray, List.getElem_cons_succ, List.getElem_cons_zero, List.setIfInBounds_toArray, List.set_cons_succ, List.set_cons_zero]); (refine wpAnyH_take (i := 2) (v := ?_) rfl (by kernel_rfl) (by kernel_rfl) (by kernel_rfl) (fun _ _ _ h => h) (Or.inl ⟨by kernel_rfl, ?_⟩) (by assumption) ?_; rotate_left 1; (focus (intro w hSw; (try dsimp only at hSw); go_simp; first | done | with_reducible rfl)); simp only [Act.put, List.getElem_toArray, List.getElem_cons_succ, List.getElem_cons_zero, List.setIfInBounds_toArray, List.set_cons_succ, List.set_cons_zero]); (refine wpAnyH_take (i := 3) (v := ?_) rfl (by kernel_rfl) (by kernel_rfl) (by kernel_rfl) (fun _ _ _ h => h) (Or.inl ⟨by kernel_rfl, ?_⟩) (by assumption) ?_; rotate_left 1; (focus (intro w hSw; (try dsimp only at hSw); go_simp; first | done | with_reducible rfl)); simp only [Act.put, List.getElem_toArray, List.getElem_cons_succ, List.getElem_cons_zero, List.setIfInBounds_toArray, List.set_cons_succ, List.set_cons_zero]); (refine wpAnyH_take (i := 4) (v := ?_) rfl (by kernel_rfl) (by kernel_rfl) (by kernel_rfl) (fun _ _ _ h => h) (Or.inl ⟨by kernel_rfl, ?_⟩) (by assumption) ?_; rotate_left 1; (focus (intro w hSw; (try dsimp only at hSw); go_simp; first | done | with_reducible rfl)); simp only [Act.put, List.getElem_toArray, List.getElem_cons_succ, List.getElem_cons_zero, List.setIfInBounds_toArray, List.set_cons_succ, List.set_cons_zero]); (refine wpAnyH_ready (rs := [5]) (by kernel_rfl) (by simp) ?_; refine AllReadyH.cons rfl (fun K hK => ?_) AllReadyH.nil; go_simp); refine hK.out _ _ (KE.out _ ((below_drew' hQ3).alloc hz3 _)) (fun hHeld => ?_); (try simp only [Act.put, List.getElem_toArray, List.getElem_cons_succ, List.getElem_cons_zero, List.setIfInBounds_toArray, List.set_cons_succ, List.set_cons_zero]); clear hK; (refine wpAnyH_ready (rs := [6]) (by kernel_rfl) (by simp) ?_; refine AllReadyH.cons rfl (fun K hK => ?_) AllReadyH.nil; go_simp); (go_wp2_with (go_at_call 60; go_must (refine (B1.out _ _ ?_).mono ?_; (simp); rintro e w4 ⟨rfl, hb4⟩; dsimp only))); have hQ4 := (((below_drew' hQ3).alloc hz3 (.cells #[.int .i64 secrets] 3))).trans (hb4.mono (by simp; omega)); refine hK.out _ _ (KE.out _ hQ4) (fun hHeld => ?_); (try simp only [Act.put, List.getElem_toArray, List.getElem_cons_succ, List.getElem_cons_zero, List.setIfInBounds_toArray, List.set_cons_succ, List.set_cons_zero]); clear hK; (refine wpAnyH_take (i := 7) (v := ?_) rfl (by kernel_rfl) (by kernel_rfl) (by kernel_rfl) (fun _ _ _ h => h) (Or.inl ⟨by kernel_rfl, ?_⟩) (by assumption) ?_; rotate_left 1; (focus (intro w hSw; (try dsimp only at hSw); go_simp; first | done | with_reducible rfl)); simp only [Act.put, List.getElem_toArray, List.getElem_cons_succ, List.getElem_cons_zero, List.setIfInBounds_toArray, List.set_cons_succ, List.set_cons_zero]))
        (refine wpAnyH_take (i := 8) (v := undef) rfl (by kernel_rfl) (by kernel_rfl) (by kernel_rfl) (fun _ _ _ h => h) (Or.inr ⟨by kernel_rfl, rfl⟩) (by assumption) ?_; simp only [Act.put, List.getElem_toArray, List.getElem_cons_succ, List.getElem_cons_zero, List.setIfInBounds_toArray, List.set_cons_succ, List.set_cons_zero])
        (refine wpAnyH_take (i := 9) (v := undef) rfl (by kernel_rfl) (by kernel_rfl) (by kernel_rfl) (fun _ _ _ h => h) (Or.inr ⟨by kernel_rfl, rfl⟩) (by assumption) ?_; simp only [Act.put, List.getElem_toArray, List.getElem_cons_succ, List.getElem_cons_zero, List.setIfInBounds_toArray, List.set_cons_succ, List.set_cons_zero])
        (refine wpAnyH_take (i := 10) (v := undef) rfl (by kernel_rfl) (by kernel_rfl) (by kernel_rfl) (fun _ _ _ h => h) (Or.inr ⟨by kernel_rfl, rfl⟩) (by assumption) ?_; simp only [Act.put, List.getElem_toArray, List.getElem_cons_succ, List.getElem_cons_zero, List.setIfInBounds_toArray, List.set_cons_succ, List.set_cons_zero])
        (refine wpAnyH_take (i := 11) (v := undef) rfl (by kernel_rfl) (by kernel_rfl) (by kernel_rfl) (fun _ _ _ h => h) (Or.inr ⟨by kernel_rfl, rfl⟩) (by assumption) ?_; simp only [Act.put, List.getElem_toArray, List.getElem_cons_succ, List.getElem_cons_zero, List.setIfInBounds_toArray, List.set_cons_succ, List.set_cons_zero])
        (refine wpAnyH_take (i := 12) (v := undef) rfl (by kernel_rfl) (by kernel_rfl) (by kernel_rfl) (fun _ _ _ h => h) (Or.inr ⟨by kernel_rfl, rfl⟩) (by assumption) ?_; simp only [Act.put, List.getElem_toArray, List.getElem_cons_succ, List.getElem_cons_zero, List.setIfInBounds_toArray, List.set_cons_succ, List.set_cons_zero])
        (refine wpAnyH_take (i := 13) (v := undef) rfl (by kernel_rfl) (by kernel_rfl) (by kernel_rfl) (fun _ _ _ h => h) (Or.inr ⟨by kernel_rfl, rfl⟩) (by assumption) ?_; simp only [Act.put, List.getElem_toArray, List.getElem_cons_succ, List.getElem_cons_zero, List.setIfInBounds_toArray, List.set_cons_succ, List.set_cons_zero])
        (refine wpAnyH_take (i := 14) (v := ?_) rfl (by kernel_rfl) (by kernel_rfl) (by kernel_rfl) (fun _ _ _ h => h) (Or.inl ⟨by kernel_rfl, ?_⟩) (by assumption) ?_; rotate_left 1; (focus (intro w hSw; (try dsimp only at hSw); go_simp; first | done | with_reducible rfl)); simp only [Act.put, List.getElem_toArray, List.getElem_cons_succ, List.getElem_cons_zero, List.setIfInBounds_toArray, List.set_cons_succ, List.set_cons_zero])
        (refine wpAnyH_take (i := 15) (v := ?_) rfl (by kernel_rfl) (by kernel_rfl) (by kernel_rfl) (fun _ _ _ h => h) (Or.inl ⟨by kernel_rfl, ?_⟩) (by assumption) ?_; rotate_left 1; (focus (intro w hSw; (try dsimp only at hSw); go_simp; first | done | with_reducible rfl)); simp only [Act.put, List.getElem_toArray, List.getElem_cons_succ, List.getElem_cons_zero, List.setIfInBounds_toArray, List.set_cons_succ, List.set_cons_zero])
        exact wpAnyH_done (by kernel_rfl) ⟨rfl, hQ4⟩ _
      intro W hW
      go_wp2
      go_ret
      exact ⟨ret_int (by rw [HE.out]; simp), box_old hW⟩
    · · refine wp_region_held_drew (S := (fun V => Below (w.heap.size + 1) (w.alloc (.cells #[.int .i64 day, .int .i64 secrets, .int .i64 wr] 68)) V ∧ V.cell? ⟨w.heap.size, 1, none⟩ = some (.int .i64 secrets) ∧ V.cell? ⟨w.heap.size, 2, none⟩ = some (.int .i64 wr) ∧ V.cell? ⟨p, 0, none⟩ = some (.int .i64 KN) ∧ V.cell? ⟨q, 0, none⟩ = some (.int .i64 N) ∧ w.heap.size < V.heap.size ∧ p < V.heap.size ∧ q < V.heap.size)) (by kernel_rfl) (KE.out _ (below_drew' hQ3)) (fun hHeld => ?_)
        ((refine wpAnyH_take (i := 0) (v := ?_) rfl (by kernel_rfl) (by kernel_rfl) (by kernel_rfl) (fun _ _ _ h => h) (Or.inl ⟨by kernel_rfl, ?_⟩) (by assumption) ?_; rotate_left 1; (focus (intro w hSw; (try dsimp only at hSw); go_simp; first | done | with_reducible rfl)); simp only [Act.put, List.getElem_toArray, List.getElem_cons_succ, List.getElem_cons_zero, List.setIfInBounds_toArray, List.set_cons_succ, List.set_cons_zero]); (refine wpAnyH_take (i := 1) (v := ?_) rfl (by kernel_rfl) (by kernel_rfl) (by kernel_rfl) (fun _ _ _ h => h) (Or.inl ⟨by kernel_rfl, ?_⟩) (by assumption) ?_; rotate_left 1; (focus (intro w hSw; (try dsimp only at hSw); go_simp; first | done | with_reducible rfl)); simp only [Act.put, List.getElem_toArray, List.getElem_cons_succ, List.getElem_cons_zero, List.setIfInBounds_toArray, List.set_cons_succ, List.set_cons_zero]); (refine wpAnyH_take (i := 2) (v := ?_) rfl (by kernel_rfl) (by kernel_rfl) (by kernel_rfl) (fun _ _ _ h => h) (Or.inl ⟨by kernel_rfl, ?_⟩) (by assumption) ?_; rotate_left 1; (focus (intro w hSw; (try dsimp only at hSw); go_simp; first | done | with_reducible rfl)); simp only [Act.put, List.getElem_toArray, List.getElem_cons_succ, List.getElem_cons_zero, List.setIfInBounds_toArray, List.set_cons_succ, List.set_cons_zero]); (refine wpAnyH_take (i := 3) (v := ?_) rfl (by kernel_rfl) (by kernel_rfl) (by kernel_rfl) (fun _ _ _ h => h) (Or.inl ⟨by kernel_rfl, ?_⟩) (by assumption) ?_; rotate_left 1; (focus (intro w hSw; (try dsimp only at hSw); go_simp; first | done | with_reducible rfl)); simp only [Act.put, List.getElem_toArray, List.getElem_cons_succ, List.getElem_cons_zero, List.setIfInBounds_toArray, List.set_cons_succ, List.set_cons_zero]); (refine wpAnyH_take (i := 4) (v := ?_) rfl (by kernel_rfl) (by kernel_rfl) (by kernel_rfl) (fun _ _ _ h => h) (Or.inl ⟨by kernel_rfl, ?_⟩) (by assumption) ?_; rotate_left 1; (focus (intro w hSw; (try dsimp only at hSw); go_simp; first | done | with_reducible rfl)); simp only [Act.put, List.getElem_toArray, List.getElem_cons_succ, List.getElem_cons_zero, List.setIfInBounds_toArray, List.set_cons_succ, List.set_cons_zero]); (refine wpAnyH_ready (rs := [5]) (by kernel_rfl) (by simp) ?_; refine AllReadyH.cons rfl (fun K hK => ?_) AllReadyH.nil; go_simp); refine hK.out _ _ (KE.out _ ((below_drew' hQ3).alloc hz3 _)) (fun hHeld => ?_); (try simp only [Act.put, List.getElem_toArray, List.getElem_cons_succ, List.getElem_cons_zero, List.setIfInBounds_toArray, List.set_cons_succ, List.set_cons_zero]); clear hK; (refine wpAnyH_ready (rs := [6]) (by kernel_rfl) (by simp) ?_; refine AllReadyH.cons rfl (fun K hK => ?_) AllReadyH.nil; go_simp); (go_wp2_with (go_at_call 60; go_must (refine (B1.out _ _ ?_).mono ?_; (simp); rintro e w4 ⟨rfl, hb4⟩; dsimp only))); have hQ4 := (((below_drew' hQ3).alloc hz3 (.cells #[.int .i64 secrets] 3))).trans (hb4.mono (by simp; omega)); refine hK.out _ _ (KE.out _ hQ4) (fun hHeld => ?_); (try simp only [Act.put, List.getElem_toArray, List.getElem_cons_succ, List.getElem_cons_zero, List.setIfInBounds_toArray, List.set_cons_succ, List.set_cons_zero]); clear hK; (refine wpAnyH_take (i := 7) (v := ?_) rfl (by kernel_rfl) (by kernel_rfl) (by kernel_rfl) (fun _ _ _ h => h) (Or.inl ⟨by kernel_rfl, ?_⟩) (by assumption) ?_; rotate_left 1; (focus (intro w hSw; (try dsimp only at hSw); go_simp; first | done | with_reducible rfl)); simp only [Act.put, List.getElem_toArray, List.getElem_cons_succ, List.getElem_cons_zero, List.setIfInBounds_toArray, List.set_cons_succ, List.set_cons_zero]))
        (refine wpAnyH_take (i := 8) (v := ?_) rfl (by kernel_rfl) (by kernel_rfl) (by kernel_rfl) (fun _ _ _ h => h) (Or.inl ⟨by kernel_rfl, ?_⟩) (by assumption) ?_; rotate_left 1; (focus (intro w hSw; (try dsimp only at hSw); go_simp; first | done | with_reducible rfl)); simp only [Act.put, List.getElem_toArray, List.getElem_cons_succ, List.getElem_cons_zero, List.setIfInBounds_toArray, List.set_cons_succ, List.set_cons_zero])
        (refine wpAnyH_take (i := 9) (v := ?_) rfl (by kernel_rfl) (by kernel_rfl) (by kernel_rfl) (fun _ _ _ h => h) (Or.inl ⟨by kernel_rfl, ?_⟩) (by assumption) ?_; rotate_left 1; (focus (intro w hSw; (try dsimp only at hSw); go_simp; first | done | with_reducible rfl)); simp only [Act.put, List.getElem_toArray, List.getElem_cons_succ, List.getElem_cons_zero, List.setIfInBounds_toArray, List.set_cons_succ, List.set_cons_zero])
        (refine wpAnyH_take (i := 10) (v := ?_) rfl (by kernel_rfl) (by kernel_rfl) (by kernel_rfl) (fun _ _ _ h => h) (Or.inl ⟨by kernel_rfl, ?_⟩) (by assumption) ?_; rotate_left 1; (focus (intro w hSw; (try dsimp only at hSw); go_simp; first | done | with_reducible rfl)); simp only [Act.put, List.getElem_toArray, List.getElem_cons_succ, List.getElem_cons_zero, List.setIfInBounds_toArray, List.set_cons_succ, List.set_cons_zero])
        (refine wpAnyH_take (i := 11) (v := ?_) rfl (by kernel_rfl) (by kernel_rfl) (by kernel_rfl) (fun _ _ _ h => h) (Or.inl ⟨by kernel_rfl, ?_⟩) (by assumption) ?_; rotate_left 1; (focus (intro w hSw; (try dsimp only at hSw); go_simp; first | done | with_reducible rfl)); simp only [Act.put, List.getElem_toArray, List.getElem_cons_succ, List.getElem_cons_zero, List.setIfInBounds_toArray, List.set_cons_succ, List.set_cons_zero])
        (refine wpAnyH_ready (rs := [12]) (by kernel_rfl) (by simp) ?_; refine AllReadyH.cons rfl (fun K hK => ?_) AllReadyH.nil; go_simp)
        refine hK.out _ _ (KE.out _ (hQ4.alloc (by have := hQ4.size; simpa using this) _)) (fun hHeld => ?_)
        (try simp only [Act.put, List.getElem_toArray, List.getElem_cons_succ, List.getElem_cons_zero, List.setIfInBounds_toArray, List.set_cons_succ, List.set_cons_zero])
        clear hK
        (refine wpAnyH_ready (rs := [13]) (by kernel_rfl) (by simp) ?_; refine AllReadyH.cons rfl (fun K hK => ?_) AllReadyH.nil; go_simp)
        go_wp2_with (go_at_call 60; go_must (refine (B2.out _ _ ?_).mono ?_; (simp); rintro e w5 ⟨rfl, hb5⟩; dsimp only))
        have hQ5 := (hQ4.alloc (by have := hQ4.size; simpa using this) (.cells #[.int .i64 wr] 3)).trans (hb5.mono (by have := hQ4.size; simp at this ⊢; omega))
        refine hK.out _ _ (KE.out _ hQ5) (fun hHeld => ?_)
        (try simp only [Act.put, List.getElem_toArray, List.getElem_cons_succ, List.getElem_cons_zero, List.setIfInBounds_toArray, List.set_cons_succ, List.set_cons_zero])
        clear hK
        (refine wpAnyH_take (i := 14) (v := ?_) rfl (by kernel_rfl) (by kernel_rfl) (by kernel_rfl) (fun _ _ _ h => h) (Or.inl ⟨by kernel_rfl, ?_⟩) (by assumption) ?_; rotate_left 1; (focus (intro w hSw; (try dsimp only at hSw); go_simp; first | done | with_reducible rfl)); simp only [Act.put, List.getElem_toArray, List.getElem_cons_succ, List.getElem_cons_zero, List.setIfInBounds_toArray, List.set_cons_succ, List.set_cons_zero])
        (refine wpAnyH_take (i := 15) (v := ?_) rfl (by kernel_rfl) (by kernel_rfl) (by kernel_rfl) (fun _ _ _ h => h) (Or.inl ⟨by kernel_rfl, ?_⟩) (by assumption) ?_; rotate_left 1; (focus (intro w hSw; (try dsimp only at hSw); go_simp; first | done | with_reducible rfl)); simp only [Act.put, List.getElem_toArray, List.getElem_cons_succ, List.getElem_cons_zero, List.setIfInBounds_toArray, List.set_cons_succ, List.set_cons_zero])
        refine wpAnyH_done (by kernel_rfl) ?_ _
        have hW := hQ5
        cases wb
        · go_wp2
          go_ret
          exact ⟨ret_int (by rw [HE.out]; simp), box_old hW⟩
        · obtain ⟨-, x1, x2, y1, y2, z1, z2, z3⟩ := KE.out _ hW
          have x0 := box_cell hW 0 _ rfl
          have d1 := cell_below (box_old hW) c2
          have d2 := lt_of_cell d1
          by_cases he : wr = -1
          · have e2 := nei_f he
            replace HE := Lib.hid (show er = 0 by rw [HE.out]; simp [he])
            clear he
            go_wp2
            go_ret
            exact ⟨ret_int (by rw [HE.out]), box_old hW⟩
          · have e2 := nei_t he
            replace HE := Lib.hid (show er = if hh then 5 else 0 by rw [HE.out]; simp [he])
            clear he
            cases hh
            all_goals
              go_wp2_with (go_at_call 67; go_must (refine (K.out _ (box_old hW) _ x2 x0).mono ?_; rintro e w3 ⟨rfl, hb3⟩; dsimp only))
              go_ret
              exact ⟨ret_int (by rw [HE.out]; simp), (box_old hW).trans (hb3.mono (box_old hW).size)⟩
end Go.Proofs.Ytmhbjohpggghgaa
