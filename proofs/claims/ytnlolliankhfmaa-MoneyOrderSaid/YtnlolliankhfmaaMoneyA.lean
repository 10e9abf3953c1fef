/- What is proved here: contracts of the program's Check of layer 7: its first closure, failing over strings. Conditions: the list lies in memory. -/
/- What is proved here: contracts of the program's Check of layer 7: its fourth closure. Conditions: the list lies in memory. -/
/- What is proved here: contracts of the program's Check of layer 7: failing over payments. Conditions: the list lies in memory. -/
/- What is proved here: contracts of the program's Check of layer 7: its third closure. Conditions: the list lies in memory. First part: a wrong saying. -/
import Derived.Test.YtnlolliankhfmaaNames
import Derived.Test.YtnlolliankhfmaaPlain
import Derived.Test.YtnlolliankhfmaaMoRep
set_option linter.unusedVariables false
set_option linter.unusedSimpArgs false
namespace Go.Proofs.Ytnlolliankhfmaa
open Go Go.RowKit

set_option maxHeartbeats 1000000 in
theorem MCheck1_any (ac az aw ap : Option Addr) (cc cz cw cp : Nat) (m : MoList) (i B : Nat) (w : World) (hm : ListC w ac az aw ap cc cz cw cp m) (hi : i < m.claimants.length) (c0 : w.cell? ⟨B, 0, none⟩ = some (.slice ac m.claimants.length cc)) :
    Calls Try.prog 58 #[.int .i64 i, .string m.claimants[i], .pointer (some ⟨B, 0, none⟩)] w fun e w' => e = .returned (.int .i64 (claimErr m i)) ∧ Below w.heap.size w w' := by
  have l1 := hm.okc.len
  have HE : Hid (claimErr m i = if nameB m.claimants[i] then (if hasS (m.claimants.take i) m.claimants[i] then 5 else 0) else 6) := by show claimErr m i = _; unfold claimErr; rw [List.getElem?_eq_getElem hi]; rfl
  have hsz := hm.csize _ (List.getElem_mem hi)
  obtain ⟨b, off, rfl, hb, _⟩ := hm.claimants i hi
  have hso := hm.okc.1
  have N := Lib.hid (EarName_any m.claimants[i] w hsz)
  have hti : (m.claimants.take i).length = i := by rw [List.length_take]; omega
  have K := Lib.hid (fun (W : World) (h : Below w.heap.size w W) => (show Calls Try.prog 60 #[.slice (some ⟨b, off, none⟩) i cc, .string m.claimants[i]] W fun e w' => e = .returned (.bool (hasS (m.claimants.take i) m.claimants[i])) ∧ w' = W from by
    have := ContainsS_any (some ⟨b, off, none⟩) (m.claimants.take i) cc m.claimants[i] W (by omega) (fun j hj => by
      have hj2 : j < m.claimants.length := by omega
      obtain ⟨b', off', e', hb', hc'⟩ := (hm.mono h).claimants j hj2
      exact ⟨b', off', e', hb', by rw [List.getElem_take]; exact hc'⟩)
    rw [hti] at this
    exact this))
  generalize claimErr m i = r at HE ⊢
  generalize hasS (m.claimants.take i) m.claimants[i] = h at K HE
  generalize m.claimants[i] = s at N K HE hsz
  generalize nameB s = n at N HE
  have hB := lt_of_cell c0
  cases n
  · go_enter Try.func58, Try.ntmps58
    go_wp2_with (go_at_call 59; go_must (refine N.out.mono ?_; rintro e w2 ⟨rfl, hb2⟩; dsimp only))
    go_ret
    exact ⟨ret_int (by rw [HE.out]; simp), hb2⟩
  · cases h
    all_goals
      go_enter Try.func58, Try.ntmps58
      go_wp2_with (first
        | (go_at_call 60; go_must (refine (K.out _ hb2).mono ?_; rintro e w3 ⟨rfl, hw3⟩; obtain rfl := hw3.symm; dsimp only))
        | (go_at_call 59; go_must (refine N.out.mono ?_; rintro e w2 ⟨rfl, hb2⟩; have c2 := cell_below hb2 c0; have hB2 := lt_of_cell c2; dsimp only)))
      go_ret
      exact ⟨ret_int (by rw [HE.out]; simp), hb2⟩

/-- The index and the error of the first thing with one, of at most so many. -/
def failOf (n most : Nat) (f : Nat → Int) : Int × Int := if most < n then (0, 3) else match firstErr n f with | some i => ((i : Int), f i) | none => (0, 0)
theorem failOf_long {n most : Nat} {f : Nat → Int} (h : most < n) : failOf n most f = (0, 3) := if_pos h
theorem failOf_err {n most k : Nat} {f : Nat → Int} (h : n ≤ most) (hk : k < n) (h0 : ∀ i, i < k → f i = 0) (hf : f k ≠ 0) : failOf n most f = ((k : Int), f k) := by
  unfold failOf; rw [if_neg (by omega), firstErr_some hk h0 hf]
theorem failOf_ok {n most : Nat} {f : Nat → Int} (h : n ≤ most) (h0 : ∀ i, i < n → f i = 0) : failOf n most f = (0, 0) := by
  unfold failOf; rw [if_neg (by omega), firstErr_none h0]

set_option maxHeartbeats 1000000 in
theorem MFail1_any (ac az aw ap : Option Addr) (cc cz cw cp : Nat) (m : MoList) (B : Nat) (w : World) (hm : ListC w ac az aw ap cc cz cw cp m) (c0 : w.cell? ⟨B, 0, none⟩ = some (.slice ac m.claimants.length cc)) :
    Calls Try.prog 57 #[.slice ac m.claimants.length cc, .int .i64 4, .func (.func 58) #[] #[.pointer (some ⟨B, 0, none⟩)]] w fun e w' => e = .returned (.tuple #[.int .i64 (failOf m.claimants.length 4 (claimErr m)).1, .int .i64 (failOf m.claimants.length 4 (claimErr m)).2]) ∧ Below w.heap.size w w' := by
  have l1 := hm.okc.len
  have HR : Hid (failOf m.claimants.length 4 (claimErr m) = failOf m.claimants.length 4 (claimErr m)) := rfl
  obtain ⟨r, hr⟩ : ∃ r, r = failOf m.claimants.length 4 (claimErr m) := ⟨_, rfl⟩
  rw [← hr]
  have Hr := Lib.hid hr
  clear hr HR
  by_cases hlong : 4 < m.claimants.length
  · have hl2 : (4 : Int) < (m.claimants.length : Int) := by omega
    go_enter Try.func57, Try.ntmps57
    go_wp2
    go_ret2
    have := Hr.out.trans (failOf_long hlong)
    subst this
    exact ⟨rfl, by go_grown⟩
  · have hl2 : ¬ (4 : Int) < (m.claimants.length : Int) := by omega
    go_enter Try.func57, Try.ntmps57
    go_wp2
    go_loopw [17] (fun i wr => ∃ k : Nat, k ≤ m.claimants.length ∧ i = .int .i64 k ∧ Hid (∀ j, j < k → claimErr m j = 0) ∧ Below w.heap.size w wr) (fun i _ => m.claimants.length - (intOf i).toNat)
    case atStart => exact ⟨0, Nat.zero_le _, rfl, Lib.hid (fun j h => absurd h (Nat.not_lt_zero j)), Below.refl _ _⟩
    case round =>
      obtain ⟨k, hk, rfl, HZ, hbw⟩ := hrel
      by_cases hlt : k < m.claimants.length
      · have K := Lib.hid (MCheck1_any ac az aw ap cc cz cw cp m k B wr (hm.mono hbw) hlt (cell_below hbw c0))
        obtain ⟨b, off, rfl, hb, hc⟩ := (hm.mono hbw).claimants k hlt
        have HE := Lib.hid (fun (h : claimErr m k ≠ 0) => Hr.out.trans (failOf_err (by omega) hlt HZ.out h))
        have HN := Lib.hid (fun (h : claimErr m k = 0) => show ∀ j, j < k + 1 → claimErr m j = 0 from fun j hj => if hjk : j < k then HZ.out j hjk else (by have e : j = k := (by omega); subst e; exact h))
        generalize claimErr m k = x at K HE HN
        generalize m.claimants[k] = s at K hc
        by_cases hx : x = 0
        · have hx2 := nei_f hx
          replace HN := Lib.hid (HN.out hx)
          subst hx
          clear HE
          go_wp2_with (go_at_call 58; go_must (refine K.out.mono ?_; rintro e w2 ⟨rfl, hb2⟩; dsimp only))
          go_roundw
          case rel => exact ⟨k + 1, by omega, by go_num, HN, hbw.trans (hb2.mono hbw.size)⟩
          case measure => simp [intOf]; omega
        · have hx2 := nei_t hx
          replace HE := Lib.hid (HE.out hx)
          clear HN hx
          go_wp2_with (go_at_call 58; go_must (refine K.out.mono ?_; rintro e w2 ⟨rfl, hb2⟩; dsimp only))
          go_ret2
          have := HE.out
          subst this
          exact ⟨rfl, hbw.trans (hb2.mono hbw.size)⟩
      · obtain rfl : k = m.claimants.length := by omega
        go_wp2
        go_ret2
        have := Hr.out.trans (failOf_ok (by omega) HZ.out)
        subst this
        exact ⟨rfl, hbw⟩
end Go.Proofs.Ytnlolliankhfmaa
namespace Go.Proofs.Ytnlolliankhfmaa
open Go Go.RowKit

theorem outB_eq (lo hi n : Int) : outB lo hi n = !inB n lo hi := by
  unfold outB inB
  rw [Bool.eq_iff_iff]
  simp
theorem MBeyondOne_any (x lo hi : Int) (a : Nat) (w : World) (h : w.cell? ⟨a, 0, none⟩ = some (.int .i64 x)) :
    Calls Try.prog 65 #[.int .i64 lo, .int .i64 hi, .slice (some ⟨a, 0, none⟩) 1 1] w fun e w' => e = .returned (.bool (!inB x lo hi)) ∧ Below w.heap.size w w' := by
  have := MBeyond_any (some ⟨a, 0, none⟩) [x] 1 lo hi w (by simp) (fun i hi => by have e : i = 0 := (by simp at hi; omega); subst e; exact ⟨a, 0, rfl, lt_of_cell h, by simpa using h⟩)
  simpa [outB_eq] using this

set_option maxHeartbeats 2000000 in
theorem MCheck4_any (ac az aw ap : Option Addr) (cc cz cw cp : Nat) (m : MoList) (i B : Nat) (w : World) (hm : ListC w ac az aw ap cc cz cw cp m) (hi : i < m.paid.length) (c0 : w.cell? ⟨B, 0, none⟩ = some (.slice ac m.claimants.length cc)) (c1 : w.cell? ⟨B, 1, none⟩ = some (.slice az m.sums.length cz)) :
    Calls Try.prog 69 #[.int .i64 i, .agg #[.int .i64 m.paid[i].sum, .int .i64 m.paid[i].claimant], .pointer (some ⟨B, 0, none⟩)] w fun e w' => e = .returned (.int .i64 (paidErr m i)) ∧ Below w.heap.size w w' := by
  have l1 := hm.okc.len
  have l2 := hm.okz.len
  have HE : Hid (paidErr m i = if inB m.paid[i].sum 0 (m.sums.length - 1) && inB m.paid[i].claimant 0 (m.claimants.length - 1) then 0 else 4) := by show paidErr m i = _; simp [paidErr, hi]
  generalize paidErr m i = r at HE ⊢
  generalize m.paid[i] = x at HE ⊢
  obtain ⟨su, cl⟩ := x
  simp only at HE ⊢
  have B1 := fun (a : Nat) (W : World) h => MBeyondOne_any su 0 (m.sums.length - 1) a W h
  have B2 := fun (a : Nat) (W : World) h => MBeyondOne_any cl 0 (m.claimants.length - 1) a W h
  generalize inB su 0 (m.sums.length - 1) = b1 at B1 HE
  generalize inB cl 0 (m.claimants.length - 1) = b2 at B2 HE
  have B1 := Lib.hid B1
  have B2 := Lib.hid B2
  have hB := lt_of_cell c0
  cases b1
  · go_enter Try.func69, Try.ntmps69
    go_wp2_with (go_at_call 65; go_must (refine (B1.out _ _ ?_).mono ?_; (simp); rintro e w2 ⟨rfl, hb2⟩; dsimp only))
    go_ret
    exact ⟨ret_int (by rw [HE.out]; simp), (((Below.refl _ w).alloc (Nat.le_refl _) _).alloc (by simp) _).trans (hb2.mono (by simp; omega))⟩
  · cases b2
    all_goals
      go_enter Try.func69, Try.ntmps69
      go_wp2_with (first
        | (go_at_call 65; (with_reducible refine (B2.out _ _ ?_).mono ?_); (simp); rintro e w3 ⟨rfl, hb3⟩; dsimp only)
        | (go_at_call 65; go_must (refine (B1.out _ _ ?_).mono ?_; (simp); rintro e w2 ⟨rfl, hb2⟩; have hbw := (((Below.refl _ w).alloc (Nat.le_refl _) (.cells #[.int .i64 su, .int .i64 cl] 66)).alloc (by simp) (.cells #[.int .i64 su] 3)).trans (hb2.mono (by simp; omega)); have d0 := cell_below hbw c0; have d1 := cell_below hbw c1; have hB2 := lt_of_cell d0; have s1 : w2.cell? ⟨w.heap.size, 1, none⟩ = some (.int .i64 cl) := (hb2.cell (p := ⟨w.heap.size, 1, none⟩) (by simp; omega)).trans (by simp); have hs2 := lt_of_cell s1; dsimp only)))
      go_ret
      exact ⟨ret_int (by rw [HE.out]; simp), (hbw.alloc hbw.size _).trans (hb3.mono (by have := hbw.size; simp; omega))⟩
end Go.Proofs.Ytnlolliankhfmaa
namespace Go.Proofs.Ytnlolliankhfmaa
open Go Go.RowKit

set_option maxHeartbeats 2000000 in
theorem MFail4_any (ac az aw ap : Option Addr) (cc cz cw cp : Nat) (m : MoList) (B : Nat) (w : World) (hm : ListC w ac az aw ap cc cz cw cp m) (c0 : w.cell? ⟨B, 0, none⟩ = some (.slice ac m.claimants.length cc)) (c1 : w.cell? ⟨B, 1, none⟩ = some (.slice az m.sums.length cz)) :
    Calls Try.prog 68 #[.slice ap m.paid.length cp, .int .i64 5, .func (.func 69) #[] #[.pointer (some ⟨B, 0, none⟩)]] w fun e w' => e = .returned (.tuple #[.int .i64 (failOf m.paid.length 5 (paidErr m)).1, .int .i64 (failOf m.paid.length 5 (paidErr m)).2]) ∧ Below w.heap.size w w' := by
  have l1 := hm.okp.len
  obtain ⟨r, hr⟩ : ∃ r, r = failOf m.paid.length 5 (paidErr m) := ⟨_, rfl⟩
  rw [← hr]
  have Hr := Lib.hid hr
  clear hr
  by_cases hlong : 5 < m.paid.length
  · have hl2 : (5 : Int) < (m.paid.length : Int) := by omega
    go_enter Try.func68, Try.ntmps68
    go_wp2
    go_ret2
    have := Hr.out.trans (failOf_long hlong)
    subst this
    exact ⟨rfl, by go_grown⟩
  · have hl2 : ¬ (5 : Int) < (m.paid.length : Int) := by omega
    go_enter Try.func68, Try.ntmps68
    go_wp2
    go_loopw [17] (fun i wr => ∃ k : Nat, k ≤ m.paid.length ∧ i = .int .i64 k ∧ Hid (∀ j, j < k → paidErr m j = 0) ∧ Below w.heap.size w wr) (fun i _ => m.paid.length - (intOf i).toNat)
    case atStart => exact ⟨0, Nat.zero_le _, rfl, Lib.hid (fun j h => absurd h (Nat.not_lt_zero j)), Below.refl _ _⟩
    case round =>
      obtain ⟨k, hk, rfl, HZ, hbw⟩ := hrel
      by_cases hlt : k < m.paid.length
      · have K := Lib.hid (fun (W : World) (h : Below w.heap.size w W) => MCheck4_any ac az aw ap cc cz cw cp m k B W (hm.mono h) hlt (cell_below h c0) (cell_below h c1))
        obtain ⟨b, off, rfl, hb, hc, hc2⟩ := (hm.mono hbw).paid k hlt
        have HE := Lib.hid (fun (h : paidErr m k ≠ 0) => Hr.out.trans (failOf_err (by omega) hlt HZ.out h))
        have HN := Lib.hid (fun (h : paidErr m k = 0) => show ∀ j, j < k + 1 → paidErr m j = 0 from fun j hj => if hjk : j < k then HZ.out j hjk else (by have e : j = k := (by omega); subst e; exact h))
        generalize paidErr m k = x at K HE HN
        generalize m.paid[k] = s at K hc hc2
        obtain ⟨su, cl⟩ := s
        simp only at K hc hc2
        by_cases hx : x = 0
        · have hx2 := nei_f hx
          replace HN := Lib.hid (HN.out hx)
          subst hx
          clear HE
          go_wp2_with (go_at_call 69; go_must (refine (K.out _ (hbw.alloc hbw.size _)).mono ?_; rintro e w2 ⟨rfl, hb2⟩; have hbn := (hbw.alloc hbw.size (.cells #[.int .i64 su, .int .i64 cl] 66)).trans (hb2.mono (by have := hbw.size; simp; omega)); dsimp only))
          go_roundw
          case rel => exact ⟨k + 1, by omega, by go_num, HN, hbn⟩
          case measure => simp [intOf]; omega
        · have hx2 := nei_t hx
          replace HE := Lib.hid (HE.out hx)
          clear HN hx
          go_wp2_with (go_at_call 69; go_must (refine (K.out _ (hbw.alloc hbw.size _)).mono ?_; rintro e w2 ⟨rfl, hb2⟩; have hbn := (hbw.alloc hbw.size (.cells #[.int .i64 su, .int .i64 cl] 66)).trans (hb2.mono (by have := hbw.size; simp; omega)); dsimp only))
          go_ret2
          have := HE.out
          subst this
          exact ⟨rfl, hbn⟩
      · obtain rfl : k = m.paid.length := by omega
        go_wp2
        go_ret2
        have := Hr.out.trans (failOf_ok (by omega) HZ.out)
        subst this
        exact ⟨rfl, hbw⟩
end Go.Proofs.Ytnlolliankhfmaa
namespace Go.Proofs.Ytnlolliankhfmaa
open Go Go.RowKit

set_option maxRecDepth 100000 in
set_option maxHeartbeats 4000000 in
theorem MCheck3_bad (ac az aw ap : Option Addr) (cc cz cw cp : Nat) (m : MoList) (i B : Nat) (w : World) (hm : ListC w ac az aw ap cc cz cw cp m) (hi : i < m.words.length) (c0 : w.cell? ⟨B, 0, none⟩ = some (.slice ac m.claimants.length cc)) (c1 : w.cell? ⟨B, 1, none⟩ = some (.slice az m.sums.length cz)) (c2 : w.cell? ⟨B, 2, none⟩ = some (.slice aw m.words.length cw))
    (says sum of back : Int) (came : Bool) (hs : inB says 0 3 = false) :
    Calls Try.prog 67 #[.int .i64 i, .agg #[.int .i64 says, .int .i64 sum, .int .i64 of, .int .i64 back, .bool came], .pointer (some ⟨B, 0, none⟩)] w fun e w' => e = .returned (.int .i64 7) ∧ Below w.heap.size w w' := by
  have B0 := fun (a : Nat) (W : World) h => MBeyondOne_any says 0 3 a W h
  rw [hs] at B0
  have B0 := Lib.hid B0
  have hB := lt_of_cell c0
  have hQ0 := Below.refl (w.heap.size + 1) (w.alloc (.cells #[.int .i64 says, .int .i64 sum, .int .i64 of, .int .i64 back, .bool came] 70))
  clear hs
  by_cases h2 : 2 ≤ says
  all_goals
    go_enter Try.func67, Try.ntmps67
    go_wp2_with ((go_at_call 65; go_must ((with_reducible refine (B0.out _ _ ?_).mono ?_); (simp); rintro e w1 ⟨rfl, hb1⟩; have hQ1 := (hQ0.alloc (box_size hQ0) (.cells #[.int .i64 says] 3)).trans (hb1.mono (by have := box_size hQ0; simp)); obtain ⟨c01, c11, c21⟩ : _ ∧ _ ∧ _ := ⟨cell_below (box_old hQ1) c0, cell_below (box_old hQ1) c1, cell_below (box_old hQ1) c2⟩; have x01 := box_cell hQ1 0 _ rfl; have x11 := box_cell hQ1 1 _ rfl; have x21 := box_cell hQ1 2 _ rfl; have x31 := box_cell hQ1 3 _ rfl; have y11 := lt_of_cell c01; have y21 := lt_of_cell x01; dsimp only)))
    go_ret
    exact ⟨rfl, box_old hQ1⟩

set_option maxRecDepth 100000 in
set_option maxHeartbeats 4000000 in
theorem MCheck3_sum (ac az aw ap : Option Addr) (cc cz cw cp : Nat) (m : MoList) (i B : Nat) (w : World) (hm : ListC w ac az aw ap cc cz cw cp m) (hi : i < m.words.length) (c0 : w.cell? ⟨B, 0, none⟩ = some (.slice ac m.claimants.length cc)) (c1 : w.cell? ⟨B, 1, none⟩ = some (.slice az m.sums.length cz)) (c2 : w.cell? ⟨B, 2, none⟩ = some (.slice aw m.words.length cw))
    (says sum of back : Int) (came : Bool) (hs : inB says 0 3 = true) (hs1 : inB sum 0 (m.sums.length - 1) = false) :
    Calls Try.prog 67 #[.int .i64 i, .agg #[.int .i64 says, .int .i64 sum, .int .i64 of, .int .i64 back, .bool came], .pointer (some ⟨B, 0, none⟩)] w fun e w' => e = .returned (.int .i64 4) ∧ Below w.heap.size w w' := by
  have l2 := hm.okz.len
  have B0 := fun (a : Nat) (W : World) h => MBeyondOne_any says 0 3 a W h
  rw [hs] at B0
  have B0 := Lib.hid B0
  have B1 := fun (a : Nat) (W : World) h => MBeyondOne_any sum 0 (m.sums.length - 1) a W h
  rw [hs1] at B1
  have B1 := Lib.hid B1
  have hB := lt_of_cell c0
  have hQ0 := Below.refl (w.heap.size + 1) (w.alloc (.cells #[.int .i64 says, .int .i64 sum, .int .i64 of, .int .i64 back, .bool came] 70))
  clear hs hs1
  by_cases h2 : 2 ≤ says
  all_goals
    go_enter Try.func67, Try.ntmps67
    go_wp2_with (first | (go_at_call 65; (with_reducible refine (B1.out _ _ ?_).mono ?_); (simp); rintro e w2 ⟨rfl, hb2⟩; have hQ2 := (hQ1.alloc (box_size hQ1) (.cells #[.int .i64 sum] 3)).trans (hb2.mono (by have := box_size hQ1; simp; omega)); obtain ⟨c02, c12, c22⟩ : _ ∧ _ ∧ _ := ⟨cell_below (box_old hQ2) c0, cell_below (box_old hQ2) c1, cell_below (box_old hQ2) c2⟩; have x02 := box_cell hQ2 0 _ rfl; have x12 := box_cell hQ2 1 _ rfl; have x22 := box_cell hQ2 2 _ rfl; have x32 := box_cell hQ2 3 _ rfl; have y12 := lt_of_cell c02; have y22 := lt_of_cell x02; dsimp only) | (go_at_call 65; (with_reducible refine (B0.out _ _ ?_).mono ?_); (simp); rintro e w1 ⟨rfl, hb1⟩; have hQ1 := (hQ0.alloc (box_size hQ0) (.cells #[.int .i64 says] 3)).trans (hb1.mono (by have := box_size hQ0; simp)); obtain ⟨c01, c11, c21⟩ : _ ∧ _ ∧ _ := ⟨cell_below (box_old hQ1) c0, cell_below (box_old hQ1) c1, cell_below (box_old hQ1) c2⟩; have x01 := box_cell hQ1 0 _ rfl; have x11 := box_cell hQ1 1 _ rfl; have x21 := box_cell hQ1 2 _ rfl; have x31 := box_cell hQ1 3 _ rfl; have y11 := lt_of_cell c01; have y21 := lt_of_cell x01; dsimp only))
    go_ret
    exact ⟨rfl, box_old hQ2⟩
end Go.Proofs.Ytnlolliankhfmaa
