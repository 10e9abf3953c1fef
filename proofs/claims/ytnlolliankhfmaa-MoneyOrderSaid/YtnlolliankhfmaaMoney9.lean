/- What is proved here: contracts of the program's Check of layer 7: its second closure. Conditions: the list lies in memory, it has no more than four claimants. -/
import Derived.Test.YtnlolliankhfmaaMoneyB
import Derived.Test.YtnlolliankhfmaaGround
set_option linter.unusedVariables false
set_option linter.unusedSimpArgs false
namespace Go.Proofs.Ytnlolliankhfmaa
open Go Go.RowKit

theorem hasS_names (l : List MoSum) (s : ByteArray) : hasS (l.map MoSum.name) s = l.any fun x => decide (x.name = s) := by
  unfold hasS
  rw [List.any_map]
  rfl

theorem bits_of : ∀ n : Nat, n ≤ 4 → IntKind.i64.wrap (IntKind.i64.wrap (2 ^ n) - 1) = allBits n := by decide
set_option maxRecDepth 100000 in
set_option maxHeartbeats 4000000 in
theorem MCheck2_any (ac az aw ap : Option Addr) (cc cz cw cp : Nat) (m : MoList) (i B : Nat) (w : World) (hm : ListC w ac az aw ap cc cz cw cp m) (hn4 : m.claimants.length ≤ 4) (hi : i < m.sums.length) (c0 : w.cell? ⟨B, 0, none⟩ = some (.slice ac m.claimants.length cc)) (c1 : w.cell? ⟨B, 1, none⟩ = some (.slice az m.sums.length cz)) :
    Calls Try.prog 62 #[.int .i64 i, .agg #[.string m.sums[i].name, .int .i64 m.sums[i].pence, .int .i64 m.sums[i].for_], .pointer (some ⟨B, 0, none⟩)] w fun e w' => e = .returned (.int .i64 (sumErr m i)) ∧ Below w.heap.size w w' := by
  have l1 := hm.okc.len
  have l2 := hm.okz.len
  have HE : Hid (sumErr m i = if nameB m.sums[i].name then (if ((m.sums.take i).any fun x => decide (x.name = m.sums[i].name)) then 5 else (if inB m.sums[i].pence 1 99 && inB m.sums[i].for_ 1 (allBits m.claimants.length) then 0 else 7)) else 6) := by
    show _ = _
    unfold sumErr fresh
    rw [List.getElem?_eq_getElem hi]
    simp only [hasS_names]
    cases nameB m.sums[i].name
    · simp
    · cases (m.sums.take i).any fun x => decide (x.name = m.sums[i].name) <;> simp
  have hsz := hm.zsize _ (List.getElem_mem hi)
  have hso := hm.okz.1
  have hti : (m.sums.take i).length = i := by rw [List.length_take]; omega
  have K : Hid (∀ (W : World) (p : Nat), Below w.heap.size w W → W.cell? ⟨p, 0, none⟩ = some (.string m.sums[i].name) → Calls Try.prog 63 #[.slice az i cz, .func (.func 64) #[] #[.pointer (some ⟨p, 0, none⟩)]] W fun e w' => e = .returned (.bool ((m.sums.take i).any fun x => decide (x.name = m.sums[i].name))) ∧ Below W.heap.size W w') := Lib.hid (fun W p h hp => by
    have := MSumContains_any az (m.sums.take i) cz m.sums[i].name p W (by omega) ((hm.mono h).sums.take i) hp
    rw [hti] at this
    exact this)
  obtain ⟨b, off, rfl, hb, _⟩ := hm.sums i hi
  generalize sumErr m i = r at HE ⊢
  generalize ((m.sums.take i).any fun x => decide (x.name = m.sums[i].name)) = hh at K HE
  generalize m.sums[i] = wd at K HE hsz ⊢
  obtain ⟨name, pence, fo⟩ := wd
  simp only at K HE hsz ⊢
  have N := Lib.hid (fun W => EarName_any name W hsz)
  generalize nameB name = nn at N HE
  have hQ := Below.refl (w.heap.size + 1) (w.alloc (.cells #[.string name, .int .i64 pence, .int .i64 fo] 73))
  have hB := lt_of_cell c0
  have i9 : (i : Int) ≤ m.sums.length := by omega
  have i8 : (i : Int) ≤ cz := by omega
  cases nn
  · go_enter Try.func62, Try.ntmps62
    go_wp2_with (go_at_call 59; go_must (refine (N.out _).mono ?_; rintro e w2 ⟨rfl, hb2⟩; dsimp only))
    go_ret
    exact ⟨ret_int (by rw [HE.out]; simp), box_old (box_on hQ hb2)⟩
  · cases hh
    · have B1 := fun (a : Nat) (W : World) h => MBeyondOne_any pence 1 99 a W h
      have B2 := fun (a : Nat) (W : World) h => MBeyondOne_any fo 1 (IntKind.i64.wrap (IntKind.i64.wrap (2 ^ m.claimants.length) - 1)) a W h
      have hA : inB fo 1 (IntKind.i64.wrap (IntKind.i64.wrap (2 ^ m.claimants.length) - 1)) = inB fo 1 (allBits m.claimants.length) := by rw [bits_of m.claimants.length hn4]
      rw [hA] at B2
      clear hA
      obtain ⟨fb, hfb⟩ : ∃ fb, fb = inB fo 1 (allBits m.claimants.length) := ⟨_, rfl⟩
      rw [← hfb] at B2 HE
      have B2 := Lib.hid B2
      clear hfb
      have KE : Hid (∀ V, Below (w.heap.size + 1) (w.alloc (.cells #[.string name, .int .i64 pence, .int .i64 fo] 73)) V → (fun V => Below (w.heap.size + 1) (w.alloc (.cells #[.string name, .int .i64 pence, .int .i64 fo] 73)) V ∧ V.cell? ⟨w.heap.size, 1, none⟩ = some (.int .i64 pence) ∧ V.cell? ⟨w.heap.size, 2, none⟩ = some (.int .i64 fo) ∧ V.cell? ⟨B, 0, none⟩ = some (.slice ac m.claimants.length cc) ∧ w.heap.size < V.heap.size ∧ B < V.heap.size) V) := Lib.hid (fun V h => ⟨h, box_cell h 1 _ rfl, box_cell h 2 _ rfl, cell_below (box_old h) c0, box_size h, lt_of_cell (cell_below (box_old h) c0)⟩)
      obtain ⟨pb, hpb⟩ : ∃ pb, pb = inB pence 1 99 := ⟨_, rfl⟩
      rw [← hpb] at B1 HE
      have B1 := Lib.hid B1
      clear hpb
      cases pb
      all_goals
        go_enter Try.func62, Try.ntmps62
        go_wp2_with (first
          | (go_at_call 63; go_must (refine (K.out _ _ (box_old hQ2) n0).mono ?_; rintro e w3 ⟨rfl, hb3⟩; have hQ3 := box_on hQ2 hb3; dsimp only))
          | (go_at_call 59; go_must (refine (N.out _).mono ?_; rintro e w2 ⟨rfl, hb2⟩; have hQ2 := box_on hQ hb2; have n0 := box_cell hQ2 0 _ rfl; have d1 := cell_below (box_old hQ2) c1; have hB2 := lt_of_cell d1; dsimp only)))
        clear n0 d1 hB2
        have hz3 : w.heap.size + 1 ≤ w3.heap.size := by have := hQ3.size; simpa using this
      · apply wp_mid _ (Below (w.heap.size + 1) (w.alloc (.cells #[.string name, .int .i64 pence, .int .i64 fo] 73)))
        · refine wp_region_held_drew (S := (fun V => Below (w.heap.size + 1) (w.alloc (.cells #[.string name, .int .i64 pence, .int .i64 fo] 73)) V ∧ V.cell? ⟨w.heap.size, 1, none⟩ = some (.int .i64 pence) ∧ V.cell? ⟨w.heap.size, 2, none⟩ = some (.int .i64 fo) ∧ V.cell? ⟨B, 0, none⟩ = some (.slice ac m.claimants.length cc) ∧ w.heap.size < V.heap.size ∧ B < V.heap.size)) (by kernel_rfl) (KE.out _ (below_drew' hQ3)) (fun hHeld => ?_)
          ((refine wpAnyH_take (i := 0) (v := ?_) rfl (by kernel_rfl) (by kernel_rfl) (by kernel_rfl) (fun _ _ _ h => h) (Or.inl ⟨by kernel_rfl, ?_⟩) (by assumption) ?_; rotate_left 1; (focus (intro w hSw; (try dsimp only at hSw); go_simp; first | done | with_reducible rfl)); simp only [Act.put, List.getElem_toArray, List.getElem_cons_succ, List.getElem_cons_zero, List.setIfInBounds_toArray, List.set_cons_succ, List.set_cons_zero]); (refine wpAnyH_take (i := 1) (v := ?_) rfl (by kernel_rfl) (by kernel_rfl) (by kernel_rfl) (fun _ _ _ h => h) (Or.inl ⟨by kernel_rfl, ?_⟩) (by assumption) ?_; rotate_left 1; (focus (intro w hSw; (try dsimp only at hSw); go_simp; first | done | with_reducible rfl)); simp only [Act.put, List.getElem_toArray, List.getElem_cons_succ, List.getElem_cons_zero, List.setIfInBounds_toArray, List.set_cons_succ, List.set_cons_zero]); (refine wpAnyH_ready (rs := [2]) (by kernel_rfl) (by simp) ?_; refine AllReadyH.cons rfl (fun K hK => ?_) AllReadyH.nil; go_simp); refine hK.out _ _ (KE.out _ (below_drew' (hQ3.alloc hz3 _))) (fun hHeld => ?_); (try simp only [Act.put, List.getElem_toArray, List.getElem_cons_succ, List.getElem_cons_zero, List.setIfInBounds_toArray, List.set_cons_succ, List.set_cons_zero]); clear hK; (refine wpAnyH_ready (rs := [3]) (by kernel_rfl) (by simp) ?_; refine AllReadyH.cons rfl (fun K hK => ?_) AllReadyH.nil; go_simp); (go_wp2_with (go_at_call 65; go_must (refine (B1.out _ _ ?_).mono ?_; (simp); rintro e w4 ⟨rfl, hb4⟩; dsimp only))); have hQ4 := (below_drew' (hQ3.alloc hz3 (.cells #[.int .i64 pence] 3))).trans (hb4.mono (by simp; omega)); refine hK.out _ _ (KE.out _ hQ4) (fun hHeld => ?_); (try simp only [Act.put, List.getElem_toArray, List.getElem_cons_succ, List.getElem_cons_zero, List.setIfInBounds_toArray, List.set_cons_succ, List.set_cons_zero]); clear hK; (refine wpAnyH_take (i := 4) (v := ?_) rfl (by kernel_rfl) (by kernel_rfl) (by kernel_rfl) (fun _ _ _ h => h) (Or.inl ⟨by kernel_rfl, ?_⟩) (by assumption) ?_; rotate_left 1; (focus (intro w hSw; (try dsimp only at hSw); go_simp; first | done | with_reducible rfl)); simp only [Act.put, List.getElem_toArray, List.getElem_cons_succ, List.getElem_cons_zero, List.setIfInBounds_toArray, List.set_cons_succ, List.set_cons_zero]))
          (refine wpAnyH_take (i := 5) (v := undef) rfl (by kernel_rfl) (by kernel_rfl) (by kernel_rfl) (fun _ _ _ h => h) (Or.inr ⟨by kernel_rfl, rfl⟩) (by assumption) ?_; simp only [Act.put, List.getElem_toArray, List.getElem_cons_succ, List.getElem_cons_zero, List.setIfInBounds_toArray, List.set_cons_succ, List.set_cons_zero])
          (refine wpAnyH_take (i := 6) (v := undef) rfl (by kernel_rfl) (by kernel_rfl) (by kernel_rfl) (fun _ _ _ h => h) (Or.inr ⟨by kernel_rfl, rfl⟩) (by assumption) ?_; simp only [Act.put, List.getElem_toArray, List.getElem_cons_succ, List.getElem_cons_zero, List.setIfInBounds_toArray, List.set_cons_succ, List.set_cons_zero])
          (refine wpAnyH_take (i := 7) (v := undef) rfl (by kernel_rfl) (by kernel_rfl) (by kernel_rfl) (fun _ _ _ h => h) (Or.inr ⟨by kernel_rfl, rfl⟩) (by assumption) ?_; simp only [Act.put, List.getElem_toArray, List.getElem_cons_succ, List.getElem_cons_zero, List.setIfInBounds_toArray, List.set_cons_succ, List.set_cons_zero])
          (refine wpAnyH_take (i := 8) (v := undef) rfl (by kernel_rfl) (by kernel_rfl) (by kernel_rfl) (fun _ _ _ h => h) (Or.inr ⟨by kernel_rfl, rfl⟩) (by assumption) ?_; simp only [Act.put, List.getElem_toArray, List.getElem_cons_succ, List.getElem_cons_zero, List.setIfInBounds_toArray, List.set_cons_succ, List.set_cons_zero])
          (refine wpAnyH_take (i := 9) (v := undef) rfl (by kernel_rfl) (by kernel_rfl) (by kernel_rfl) (fun _ _ _ h => h) (Or.inr ⟨by kernel_rfl, rfl⟩) (by assumption) ?_; simp only [Act.put, List.getElem_toArray, List.getElem_cons_succ, List.getElem_cons_zero, List.setIfInBounds_toArray, List.set_cons_succ, List.set_cons_zero])
          (refine wpAnyH_take (i := 10) (v := undef) rfl (by kernel_rfl) (by kernel_rfl) (by kernel_rfl) (fun _ _ _ h => h) (Or.inr ⟨by kernel_rfl, rfl⟩) (by assumption) ?_; simp only [Act.put, List.getElem_toArray, List.getElem_cons_succ, List.getElem_cons_zero, List.setIfInBounds_toArray, List.set_cons_succ, List.set_cons_zero])
          (refine wpAnyH_take (i := 11) (v := undef) rfl (by kernel_rfl) (by kernel_rfl) (by kernel_rfl) (fun _ _ _ h => h) (Or.inr ⟨by kernel_rfl, rfl⟩) (by assumption) ?_; simp only [Act.put, List.getElem_toArray, List.getElem_cons_succ, List.getElem_cons_zero, List.setIfInBounds_toArray, List.set_cons_succ, List.set_cons_zero])
          (refine wpAnyH_take (i := 12) (v := undef) rfl (by kernel_rfl) (by kernel_rfl) (by kernel_rfl) (fun _ _ _ h => h) (Or.inr ⟨by kernel_rfl, rfl⟩) (by assumption) ?_; simp only [Act.put, List.getElem_toArray, List.getElem_cons_succ, List.getElem_cons_zero, List.setIfInBounds_toArray, List.set_cons_succ, List.set_cons_zero])
          (refine wpAnyH_take (i := 13) (v := undef) rfl (by kernel_rfl) (by kernel_rfl) (by kernel_rfl) (fun _ _ _ h => h) (Or.inr ⟨by kernel_rfl, rfl⟩) (by assumption) ?_; simp only [Act.put, List.getElem_toArray, List.getElem_cons_succ, List.getElem_cons_zero, List.setIfInBounds_toArray, List.set_cons_succ, List.set_cons_zero])
          (refine wpAnyH_take (i := 14) (v := ?_) rfl (by kernel_rfl) (by kernel_rfl) (by kernel_rfl) (fun _ _ _ h => h) (Or.inl ⟨by kernel_rfl, ?_⟩) (by assumption) ?_; rotate_left 1; (focus (intro w hSw; (try dsimp only at hSw); go_simp; first | done | with_reducible rfl)); simp only [Act.put, List.getElem_toArray, List.getElem_cons_succ, List.getElem_cons_zero, List.setIfInBounds_toArray, List.set_cons_succ, List.set_cons_zero])
          (refine wpAnyH_take (i := 15) (v := ?_) rfl (by kernel_rfl) (by kernel_rfl) (by kernel_rfl) (fun _ _ _ h => h) (Or.inl ⟨by kernel_rfl, ?_⟩) (by assumption) ?_; rotate_left 1; (focus (intro w hSw; (try dsimp only at hSw); go_simp; first | done | with_reducible rfl)); simp only [Act.put, List.getElem_toArray, List.getElem_cons_succ, List.getElem_cons_zero, List.setIfInBounds_toArray, List.set_cons_succ, List.set_cons_zero])
          exact wpAnyH_done (by kernel_rfl) ⟨rfl, hQ4⟩ _
        intro W hW
        go_wp2
        go_ret
        exact ⟨ret_int (by rw [HE.out]; simp), box_old hW⟩
      · refine wp_region_held_drew (S := (fun V => Below (w.heap.size + 1) (w.alloc (.cells #[.string name, .int .i64 pence, .int .i64 fo] 73)) V ∧ V.cell? ⟨w.heap.size, 1, none⟩ = some (.int .i64 pence) ∧ V.cell? ⟨w.heap.size, 2, none⟩ = some (.int .i64 fo) ∧ V.cell? ⟨B, 0, none⟩ = some (.slice ac m.claimants.length cc) ∧ w.heap.size < V.heap.size ∧ B < V.heap.size)) (by kernel_rfl) (KE.out _ (below_drew' hQ3)) (fun hHeld => ?_)
        ((refine wpAnyH_take (i := 0) (v := ?_) rfl (by kernel_rfl) (by kernel_rfl) (by kernel_rfl) (fun _ _ _ h => h) (Or.inl ⟨by kernel_rfl, ?_⟩) (by assumption) ?_; rotate_left 1; (focus (intro w hSw; (try dsimp only at hSw); go_simp; first | done | with_reducible rfl)); simp only [Act.put, List.getElem_toArray, List.getElem_cons_succ, List.getElem_cons_zero, List.setIfInBounds_toArray, List.set_cons_succ, List.set_cons_zero]); (refine wpAnyH_take (i := 1) (v := ?_) rfl (by kernel_rfl) (by kernel_rfl) (by kernel_rfl) (fun _ _ _ h => h) (Or.inl ⟨by kernel_rfl, ?_⟩) (by assumption) ?_; rotate_left 1; (focus (intro w hSw; (try dsimp only at hSw); go_simp; first | done | with_reducible rfl)); simp only [Act.put, List.getElem_toArray, List.getElem_cons_succ, List.getElem_cons_zero, List.setIfInBounds_toArray, List.set_cons_succ, List.set_cons_zero]); (refine wpAnyH_ready (rs := [2]) (by kernel_rfl) (by simp) ?_; refine AllReadyH.cons rfl (fun K hK => ?_) AllReadyH.nil; go_simp); refine hK.out _ _ (KE.out _ (below_drew' (hQ3.alloc hz3 _))) (fun hHeld => ?_); (try simp only [Act.put, List.getElem_toArray, List.getElem_cons_succ, List.getElem_cons_zero, List.setIfInBounds_toArray, List.set_cons_succ, List.set_cons_zero]); clear hK; (refine wpAnyH_ready (rs := [3]) (by kernel_rfl) (by simp) ?_; refine AllReadyH.cons rfl (fun K hK => ?_) AllReadyH.nil; go_simp); (go_wp2_with (go_at_call 65; go_must (refine (B1.out _ _ ?_).mono ?_; (simp); rintro e w4 ⟨rfl, hb4⟩; dsimp only))); have hQ4 := (below_drew' (hQ3.alloc hz3 (.cells #[.int .i64 pence] 3))).trans (hb4.mono (by simp; omega)); refine hK.out _ _ (KE.out _ hQ4) (fun hHeld => ?_); (try simp only [Act.put, List.getElem_toArray, List.getElem_cons_succ, List.getElem_cons_zero, List.setIfInBounds_toArray, List.set_cons_succ, List.set_cons_zero]); clear hK; (refine wpAnyH_take (i := 4) (v := ?_) rfl (by kernel_rfl) (by kernel_rfl) (by kernel_rfl) (fun _ _ _ h => h) (Or.inl ⟨by kernel_rfl, ?_⟩) (by assumption) ?_; rotate_left 1; (focus (intro w hSw; (try dsimp only at hSw); go_simp; first | done | with_reducible rfl)); simp only [Act.put, List.getElem_toArray, List.getElem_cons_succ, List.getElem_cons_zero, List.setIfInBounds_toArray, List.set_cons_succ, List.set_cons_zero]))
        (refine wpAnyH_take (i := 5) (v := ?_) rfl (by kernel_rfl) (by kernel_rfl) (by kernel_rfl) (fun _ _ _ h => h) (Or.inl ⟨by kernel_rfl, ?_⟩) (by assumption) ?_; rotate_left 1; (focus (intro w hSw; (try dsimp only at hSw); go_simp; first | done | with_reducible rfl)); simp only [Act.put, List.getElem_toArray, List.getElem_cons_succ, List.getElem_cons_zero, List.setIfInBounds_toArray, List.set_cons_succ, List.set_cons_zero])
        (refine wpAnyH_take (i := 6) (v := ?_) rfl (by kernel_rfl) (by kernel_rfl) (by kernel_rfl) (fun _ _ _ h => h) (Or.inl ⟨by kernel_rfl, ?_⟩) (by assumption) ?_; rotate_left 1; (focus (intro w hSw; (try dsimp only at hSw); go_simp; first | done | with_reducible rfl)); simp only [Act.put, List.getElem_toArray, List.getElem_cons_succ, List.getElem_cons_zero, List.setIfInBounds_toArray, List.set_cons_succ, List.set_cons_zero])
        (refine wpAnyH_take (i := 7) (v := ?_) rfl (by kernel_rfl) (by kernel_rfl) (by kernel_rfl) (fun _ _ _ h => h) (Or.inl ⟨by kernel_rfl, ?_⟩) (by assumption) ?_; rotate_left 1; (focus (intro w hSw; (try dsimp only at hSw); go_simp; first | done | with_reducible rfl)); simp only [Act.put, List.getElem_toArray, List.getElem_cons_succ, List.getElem_cons_zero, List.setIfInBounds_toArray, List.set_cons_succ, List.set_cons_zero])
        (refine wpAnyH_take (i := 8) (v := ?_) rfl (by kernel_rfl) (by kernel_rfl) (by kernel_rfl) (fun _ _ _ h => h) (Or.inl ⟨by kernel_rfl, ?_⟩) (by assumption) ?_; rotate_left 1; (focus (intro w hSw; (try dsimp only at hSw); go_simp; first | done | with_reducible rfl)); simp only [Act.put, List.getElem_toArray, List.getElem_cons_succ, List.getElem_cons_zero, List.setIfInBounds_toArray, List.set_cons_succ, List.set_cons_zero])
        (refine wpAnyH_take (i := 9) (v := ?_) rfl (by kernel_rfl) (by kernel_rfl) (by kernel_rfl) (fun _ _ _ h => h) (Or.inl ⟨by kernel_rfl, ?_⟩) (by assumption) ?_; rotate_left 1; (focus (intro w hSw; (try dsimp only at hSw); go_simp; first | done | with_reducible rfl)); simp only [Act.put, List.getElem_toArray, List.getElem_cons_succ, List.getElem_cons_zero, List.setIfInBounds_toArray, List.set_cons_succ, List.set_cons_zero])
        (refine wpAnyH_take (i := 10) (v := ?_) rfl (by kernel_rfl) (by kernel_rfl) (by kernel_rfl) (fun _ _ _ h => h) (Or.inl ⟨by kernel_rfl, ?_⟩) (by assumption) ?_; rotate_left 1; (focus (intro w hSw; (try dsimp only at hSw); go_simp; first | done | with_reducible rfl)); simp only [Act.put, List.getElem_toArray, List.getElem_cons_succ, List.getElem_cons_zero, List.setIfInBounds_toArray, List.set_cons_succ, List.set_cons_zero])
        (refine wpAnyH_take (i := 11) (v := ?_) rfl (by kernel_rfl) (by kernel_rfl) (by kernel_rfl) (fun _ _ _ h => h) (Or.inl ⟨by kernel_rfl, ?_⟩) (by assumption) ?_; rotate_left 1; (focus (intro w hSw; (try dsimp only at hSw); go_simp; first | done | with_reducible rfl)); simp only [Act.put, List.getElem_toArray, List.getElem_cons_succ, List.getElem_cons_zero, List.setIfInBounds_toArray, List.set_cons_succ, List.set_cons_zero])
        (refine wpAnyH_ready (rs := [12]) (by kernel_rfl) (by simp) ?_; refine AllReadyH.cons rfl (fun K hK => ?_) AllReadyH.nil; go_simp)
        refine hK.out _ _ (KE.out _ (hQ4.alloc (by have := hQ4.size; simpa using this) _)) (fun hHeld => ?_)
        (try simp only [Act.put, List.getElem_toArray, List.getElem_cons_succ, List.getElem_cons_zero, List.setIfInBounds_toArray, List.set_cons_succ, List.set_cons_zero])
        clear hK
        (refine wpAnyH_ready (rs := [13]) (by kernel_rfl) (by simp) ?_; refine AllReadyH.cons rfl (fun K hK => ?_) AllReadyH.nil; go_simp)
        go_wp2_with (go_at_call 65; go_must (refine (B2.out _ _ ?_).mono ?_; (simp); rintro e w5 ⟨rfl, hb5⟩; dsimp only))
        have hQ5 := (hQ4.alloc (by have := hQ4.size; simpa using this) (.cells #[.int .i64 fo] 3)).trans (hb5.mono (by have := hQ4.size; simp at this ⊢; omega))
        refine hK.out _ _ (KE.out _ hQ5) (fun hHeld => ?_)
        (try simp only [Act.put, List.getElem_toArray, List.getElem_cons_succ, List.getElem_cons_zero, List.setIfInBounds_toArray, List.set_cons_succ, List.set_cons_zero])
        clear hK
        (refine wpAnyH_take (i := 14) (v := ?_) rfl (by kernel_rfl) (by kernel_rfl) (by kernel_rfl) (fun _ _ _ h => h) (Or.inl ⟨by kernel_rfl, ?_⟩) (by assumption) ?_; rotate_left 1; (focus (intro w hSw; (try dsimp only at hSw); go_simp; first | done | with_reducible rfl)); simp only [Act.put, List.getElem_toArray, List.getElem_cons_succ, List.getElem_cons_zero, List.setIfInBounds_toArray, List.set_cons_succ, List.set_cons_zero])
        (refine wpAnyH_take (i := 15) (v := ?_) rfl (by kernel_rfl) (by kernel_rfl) (by kernel_rfl) (fun _ _ _ h => h) (Or.inl ⟨by kernel_rfl, ?_⟩) (by assumption) ?_; rotate_left 1; (focus (intro w hSw; (try dsimp only at hSw); go_simp; first | done | with_reducible rfl)); simp only [Act.put, List.getElem_toArray, List.getElem_cons_succ, List.getElem_cons_zero, List.setIfInBounds_toArray, List.set_cons_succ, List.set_cons_zero])
        refine wpAnyH_done (by kernel_rfl) ?_ _
        cases fb
        · go_wp2
          go_ret
          exact ⟨ret_int (by rw [HE.out]; simp), box_old hQ5⟩
        · go_wp2
          go_ret
          exact ⟨ret_int (by rw [HE.out]; simp), box_old hQ5⟩
    · go_enter Try.func62, Try.ntmps62
      go_wp2_with (first
        | (go_at_call 63; go_must (refine (K.out _ _ (box_old hQ2) n0).mono ?_; rintro e w3 ⟨rfl, hb3⟩; dsimp only))
        | (go_at_call 59; go_must (refine (N.out _).mono ?_; rintro e w2 ⟨rfl, hb2⟩; have hQ2 := box_on hQ hb2; have n0 := box_cell hQ2 0 _ rfl; have d1 := cell_below (box_old hQ2) c1; have hB2 := lt_of_cell d1; dsimp only)))
      go_ret
      exact ⟨ret_int (by rw [HE.out]; simp), box_old (box_on hQ2 hb3)⟩
end Go.Proofs.Ytnlolliankhfmaa
