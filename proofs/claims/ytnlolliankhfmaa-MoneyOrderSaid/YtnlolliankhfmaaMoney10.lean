/- What is proved here: the contract of the program's Check of layer 7. Conditions: the list lies in memory. -/
import Derived.Test.YtnlolliankhfmaaMoney9
set_option linter.unusedVariables false
set_option linter.unusedSimpArgs false
namespace Go.Proofs.Ytnlolliankhfmaa
open Go Go.RowKit

set_option maxHeartbeats 2000000 in
theorem MFail2_any (ac az aw ap : Option Addr) (cc cz cw cp : Nat) (m : MoList) (B : Nat) (w : World) (hm : ListC w ac az aw ap cc cz cw cp m) (hn4 : m.claimants.length ≤ 4) (c0 : w.cell? ⟨B, 0, none⟩ = some (.slice ac m.claimants.length cc)) (c1 : w.cell? ⟨B, 1, none⟩ = some (.slice az m.sums.length cz)) :
    Calls Try.prog 61 #[.slice az m.sums.length cz, .int .i64 5, .func (.func 62) #[] #[.pointer (some ⟨B, 0, none⟩)]] w fun e w' => e = .returned (.tuple #[.int .i64 (failOf m.sums.length 5 (sumErr m)).1, .int .i64 (failOf m.sums.length 5 (sumErr m)).2]) ∧ Below w.heap.size w w' := by
  have l1 := hm.okz.len
  obtain ⟨r, hr⟩ : ∃ r, r = failOf m.sums.length 5 (sumErr m) := ⟨_, rfl⟩
  rw [← hr]
  have Hr := Lib.hid hr
  clear hr
  by_cases hlong : 5 < m.sums.length
  · have hl2 : (5 : Int) < (m.sums.length : Int) := by omega
    go_enter Try.func61, Try.ntmps61
    go_wp2
    go_ret2
    have := Hr.out.trans (failOf_long hlong)
    subst this
    exact ⟨rfl, by go_grown⟩
  · have hl2 : ¬ (5 : Int) < (m.sums.length : Int) := by omega
    go_enter Try.func61, Try.ntmps61
    go_wp2
    go_loopw [17] (fun i wr => ∃ k : Nat, k ≤ m.sums.length ∧ i = .int .i64 k ∧ Hid (∀ j, j < k → sumErr m j = 0) ∧ Below w.heap.size w wr) (fun i _ => m.sums.length - (intOf i).toNat)
    case atStart => exact ⟨0, Nat.zero_le _, rfl, Lib.hid (fun j h => absurd h (Nat.not_lt_zero j)), Below.refl _ _⟩
    case round =>
      obtain ⟨k, hk, rfl, HZ, hbw⟩ := hrel
      by_cases hlt : k < m.sums.length
      · have K := Lib.hid (fun (W : World) (h : Below w.heap.size w W) => MCheck2_any ac az aw ap cc cz cw cp m k B W (hm.mono h) hn4 hlt (cell_below h c0) (cell_below h c1))
        obtain ⟨b, off, rfl, hb, e1, e2, e3⟩ := (hm.mono hbw).sums k hlt
        have HE := Lib.hid (fun (h : sumErr m k ≠ 0) => Hr.out.trans (failOf_err (by omega) hlt HZ.out h))
        have HN := Lib.hid (fun (h : sumErr m k = 0) => show ∀ j, j < k + 1 → sumErr m j = 0 from fun j hj => if hjk : j < k then HZ.out j hjk else (by have e : j = k := (by omega); subst e; exact h))
        generalize sumErr m k = x at K HE HN
        generalize m.sums[k] = s at K e1 e2 e3
        obtain ⟨name, pence, fo⟩ := s
        simp only at K e1 e2 e3
        by_cases hx : x = 0
        · have hx2 := nei_f hx
          replace HN := Lib.hid (HN.out hx)
          subst hx
          clear HE
          go_wp2_with (go_at_call 62; go_must (refine (K.out _ (hbw.alloc hbw.size _)).mono ?_; rintro e w2 ⟨rfl, hb2⟩; have hbn := (hbw.alloc hbw.size (.cells #[.string name, .int .i64 pence, .int .i64 fo] 73)).trans (hb2.mono (by have := hbw.size; simp; omega)); dsimp only))
          go_roundw
          case rel => exact ⟨k + 1, by omega, by go_num, HN, hbn⟩
          case measure => simp [intOf]; omega
        · have hx2 := nei_t hx
          replace HE := Lib.hid (HE.out hx)
          clear HN hx
          go_wp2_with (go_at_call 62; go_must (refine (K.out _ (hbw.alloc hbw.size _)).mono ?_; rintro e w2 ⟨rfl, hb2⟩; have hbn := (hbw.alloc hbw.size (.cells #[.string name, .int .i64 pence, .int .i64 fo] 73)).trans (hb2.mono (by have := hbw.size; simp; omega)); dsimp only))
          go_ret2
          have := HE.out
          subst this
          exact ⟨rfl, hbn⟩
      · obtain rfl : k = m.sums.length := by omega
        go_wp2
        go_ret2
        have := Hr.out.trans (failOf_ok (by omega) HZ.out)
        subst this
        exact ⟨rfl, hbw⟩
/-- A part of the check, by what failing says. -/
theorem part_fail (part : Int) (n most : Nat) (f : Nat → Int) (next : Int × Int × Int) (h : (failOf n most f).2 ≠ 0) : checkPart part n most f next = (part, (failOf n most f).1, (failOf n most f).2) := by
  unfold checkPart
  unfold failOf at h ⊢
  by_cases hl : most < n
  · rw [if_pos hl]; simp [hl]
  · rw [if_neg hl] at h ⊢
    rw [if_neg hl]
    cases hf : firstErr n f with
    | none => rw [hf] at h; exact absurd rfl h
    | some i => rfl
theorem part_next (part : Int) (n most : Nat) (f : Nat → Int) (next : Int × Int × Int) (h : (failOf n most f).2 = 0) : checkPart part n most f next = next ∧ n ≤ most := by
  unfold checkPart
  unfold failOf at h
  by_cases hl : most < n
  · rw [if_pos hl] at h; simp at h
  · rw [if_neg hl] at h ⊢
    cases hf : firstErr n f with
    | none => exact ⟨rfl, by omega⟩
    | some i =>
      rw [hf] at h
      have h2 := List.find?_some (p := fun i => f i != 0) hf
      simp at h2
      exact absurd h h2

set_option maxRecDepth 100000 in
set_option maxHeartbeats 4000000 in
theorem MCheck_any (ac az aw ap : Option Addr) (cc cz cw cp : Nat) (m : MoList) (w : World) (hm : ListC w ac az aw ap cc cz cw cp m) :
    Calls Try.prog 16 #[(.agg #[.slice ac m.claimants.length cc, .slice az m.sums.length cz, .slice aw m.words.length cw, .slice ap m.paid.length cp])] w fun e w' => e = .returned (.tuple #[.int .i64 (check m).1, .int .i64 (check m).2.1, .int .i64 (check m).2.2]) ∧ Below w.heap.size w w' := by
  have HC : Hid (check m = checkPart 1 m.claimants.length 4 (claimErr m) (checkPart 2 m.sums.length 5 (sumErr m) (checkPart 3 m.words.length 6 (wordErr m) (checkPart 4 m.paid.length 5 (paidErr m) (0, 0, 0))))) := rfl
  obtain ⟨r, hr⟩ : ∃ r, r = check m := ⟨_, rfl⟩
  rw [← hr]
  rw [← hr] at HC
  clear hr
  have hQ := Below.refl (w.heap.size + 1) (w.alloc (.cells #[.slice ac m.claimants.length cc, .slice az m.sums.length cz, .slice aw m.words.length cw, .slice ap m.paid.length cp] 27))
  obtain ⟨c0, c1, c2, c3⟩ := box_four hQ
  have hbz := box_size hQ
  have F1 := Lib.hid (fun (W : World) (h : Below (w.heap.size + 1) (w.alloc (.cells #[.slice ac m.claimants.length cc, .slice az m.sums.length cz, .slice aw m.words.length cw, .slice ap m.paid.length cp] 27)) W) => MFail1_any ac az aw ap cc cz cw cp m w.heap.size W (hm.mono (box_old h)) (box_four h).1)
  have F2 := Lib.hid (fun (W : World) (h : Below (w.heap.size + 1) (w.alloc (.cells #[.slice ac m.claimants.length cc, .slice az m.sums.length cz, .slice aw m.words.length cw, .slice ap m.paid.length cp] 27)) W) (h4 : m.claimants.length ≤ 4) => MFail2_any ac az aw ap cc cz cw cp m w.heap.size W (hm.mono (box_old h)) h4 (box_four h).1 (box_four h).2.1)
  have F3 := Lib.hid (fun (W : World) (h : Below (w.heap.size + 1) (w.alloc (.cells #[.slice ac m.claimants.length cc, .slice az m.sums.length cz, .slice aw m.words.length cw, .slice ap m.paid.length cp] 27)) W) => MFail3_any ac az aw ap cc cz cw cp m w.heap.size W (hm.mono (box_old h)) (box_four h).1 (box_four h).2.1 (box_four h).2.2.1)
  have F4 := Lib.hid (fun (W : World) (h : Below (w.heap.size + 1) (w.alloc (.cells #[.slice ac m.claimants.length cc, .slice az m.sums.length cz, .slice aw m.words.length cw, .slice ap m.paid.length cp] 27)) W) => MFail4_any ac az aw ap cc cz cw cp m w.heap.size W (hm.mono (box_old h)) (box_four h).1 (box_four h).2.1)
  have P1 := Lib.hid (part_fail 1 m.claimants.length 4 (claimErr m) (checkPart 2 m.sums.length 5 (sumErr m) (checkPart 3 m.words.length 6 (wordErr m) (checkPart 4 m.paid.length 5 (paidErr m) (0, 0, 0)))))
  have P2 := Lib.hid (part_fail 2 m.sums.length 5 (sumErr m) (checkPart 3 m.words.length 6 (wordErr m) (checkPart 4 m.paid.length 5 (paidErr m) (0, 0, 0))))
  have P3 := Lib.hid (part_fail 3 m.words.length 6 (wordErr m) (checkPart 4 m.paid.length 5 (paidErr m) (0, 0, 0)))
  have P4 := Lib.hid (part_fail 4 m.paid.length 5 (paidErr m) (0, 0, 0))
  have N1 := Lib.hid (part_next 1 m.claimants.length 4 (claimErr m) (checkPart 2 m.sums.length 5 (sumErr m) (checkPart 3 m.words.length 6 (wordErr m) (checkPart 4 m.paid.length 5 (paidErr m) (0, 0, 0)))))
  have N2 := Lib.hid (part_next 2 m.sums.length 5 (sumErr m) (checkPart 3 m.words.length 6 (wordErr m) (checkPart 4 m.paid.length 5 (paidErr m) (0, 0, 0))))
  have N3 := Lib.hid (part_next 3 m.words.length 6 (wordErr m) (checkPart 4 m.paid.length 5 (paidErr m) (0, 0, 0)))
  have N4 := Lib.hid (part_next 4 m.paid.length 5 (paidErr m) (0, 0, 0))
  generalize checkPart 1 m.claimants.length 4 (claimErr m) (checkPart 2 m.sums.length 5 (sumErr m) (checkPart 3 m.words.length 6 (wordErr m) (checkPart 4 m.paid.length 5 (paidErr m) (0, 0, 0)))) = r1 at *
  generalize checkPart 2 m.sums.length 5 (sumErr m) (checkPart 3 m.words.length 6 (wordErr m) (checkPart 4 m.paid.length 5 (paidErr m) (0, 0, 0))) = r2 at *
  generalize checkPart 3 m.words.length 6 (wordErr m) (checkPart 4 m.paid.length 5 (paidErr m) (0, 0, 0)) = r3 at *
  generalize checkPart 4 m.paid.length 5 (paidErr m) (0, 0, 0) = r4 at *
  generalize failOf m.claimants.length 4 (claimErr m) = f1 at *
  generalize failOf m.sums.length 5 (sumErr m) = f2 at *
  generalize failOf m.words.length 6 (wordErr m) = f3 at *
  generalize failOf m.paid.length 5 (paidErr m) = f4 at *
  obtain ⟨a1, x1⟩ := f1
  obtain ⟨a2, x2⟩ := f2
  obtain ⟨a3, x3⟩ := f3
  obtain ⟨a4, x4⟩ := f4
  simp only at F1 F2 F3 F4 P1 P2 P3 P4 N1 N2 N3 N4
  go_enter Try.func16, Try.ntmps16
  by_cases h1 : x1 = 0
  · have k1 := nei_f h1
    have HC := Lib.hid (HC.out.trans (N1.out h1).1)
    have hn4 := (N1.out h1).2
    clear h1
    by_cases h2 : x2 = 0
    · have k2 := nei_f h2
      have HC := Lib.hid (HC.out.trans (N2.out h2).1)
      clear h2
      by_cases h3 : x3 = 0
      · have k3 := nei_f h3
        have HC := Lib.hid (HC.out.trans (N3.out h3).1)
        clear h3
        by_cases h4 : x4 = 0
        · have k4 := nei_f h4
          have HR := Lib.hid (HC.out.trans (N4.out h4).1)
          clear h4
          go_wp2_with (first | (go_at_call 68; go_must (refine (F4.out _ hQ4).mono ?_; rintro e w5 ⟨rfl, hb5⟩; have hQ5 := box_on hQ4 hb5; dsimp only)) | (go_at_call 66; go_must (refine (F3.out _ hQ3).mono ?_; rintro e w4 ⟨rfl, hb4⟩; have hQ4 := box_on hQ3 hb4; obtain ⟨g0, g1', g2', g3'⟩ := box_four hQ4; have hbz4 := box_size hQ4; dsimp only)) | (go_at_call 61; go_must (refine (F2.out _ hQ2 hn4).mono ?_; rintro e w3 ⟨rfl, hb3⟩; have hQ3 := box_on hQ2 hb3; obtain ⟨e0, e1, e2, e3⟩ := box_four hQ3; have hbz3 := box_size hQ3; dsimp only)) | (go_at_call 57; go_must (refine (F1.out _ hQ).mono ?_; rintro e w2 ⟨rfl, hb2⟩; have hQ2 := box_on hQ hb2; obtain ⟨d0, d1, d2, d3⟩ := box_four hQ2; have hbz2 := box_size hQ2; dsimp only)))
          go_ret3
          have hr := HR.out
          subst hr
          exact ⟨rfl, box_old hQ5⟩
        · have k4 := nei_t h4
          have HR := Lib.hid (HC.out.trans (P4.out h4))
          clear h4
          go_wp2_with (first | (go_at_call 68; go_must (refine (F4.out _ hQ4).mono ?_; rintro e w5 ⟨rfl, hb5⟩; have hQ5 := box_on hQ4 hb5; dsimp only)) | (go_at_call 66; go_must (refine (F3.out _ hQ3).mono ?_; rintro e w4 ⟨rfl, hb4⟩; have hQ4 := box_on hQ3 hb4; obtain ⟨g0, g1', g2', g3'⟩ := box_four hQ4; have hbz4 := box_size hQ4; dsimp only)) | (go_at_call 61; go_must (refine (F2.out _ hQ2 hn4).mono ?_; rintro e w3 ⟨rfl, hb3⟩; have hQ3 := box_on hQ2 hb3; obtain ⟨e0, e1, e2, e3⟩ := box_four hQ3; have hbz3 := box_size hQ3; dsimp only)) | (go_at_call 57; go_must (refine (F1.out _ hQ).mono ?_; rintro e w2 ⟨rfl, hb2⟩; have hQ2 := box_on hQ hb2; obtain ⟨d0, d1, d2, d3⟩ := box_four hQ2; have hbz2 := box_size hQ2; dsimp only)))
          go_ret3
          have hr := HR.out
          subst hr
          exact ⟨rfl, box_old hQ5⟩
      · have k3 := nei_t h3
        have HR := Lib.hid (HC.out.trans (P3.out h3))
        clear h3
        go_wp2_with (first | (go_at_call 66; go_must (refine (F3.out _ hQ3).mono ?_; rintro e w4 ⟨rfl, hb4⟩; have hQ4 := box_on hQ3 hb4; obtain ⟨g0, g1', g2', g3'⟩ := box_four hQ4; have hbz4 := box_size hQ4; dsimp only)) | (go_at_call 61; go_must (refine (F2.out _ hQ2 hn4).mono ?_; rintro e w3 ⟨rfl, hb3⟩; have hQ3 := box_on hQ2 hb3; obtain ⟨e0, e1, e2, e3⟩ := box_four hQ3; have hbz3 := box_size hQ3; dsimp only)) | (go_at_call 57; go_must (refine (F1.out _ hQ).mono ?_; rintro e w2 ⟨rfl, hb2⟩; have hQ2 := box_on hQ hb2; obtain ⟨d0, d1, d2, d3⟩ := box_four hQ2; have hbz2 := box_size hQ2; dsimp only)))
        go_ret3
        have hr := HR.out
        subst hr
        exact ⟨rfl, box_old hQ4⟩
    · have k2 := nei_t h2
      have HR := Lib.hid (HC.out.trans (P2.out h2))
      clear h2
      go_wp2_with (first | (go_at_call 61; go_must (refine (F2.out _ hQ2 hn4).mono ?_; rintro e w3 ⟨rfl, hb3⟩; have hQ3 := box_on hQ2 hb3; obtain ⟨e0, e1, e2, e3⟩ := box_four hQ3; have hbz3 := box_size hQ3; dsimp only)) | (go_at_call 57; go_must (refine (F1.out _ hQ).mono ?_; rintro e w2 ⟨rfl, hb2⟩; have hQ2 := box_on hQ hb2; obtain ⟨d0, d1, d2, d3⟩ := box_four hQ2; have hbz2 := box_size hQ2; dsimp only)))
      go_ret3
      have hr := HR.out
      subst hr
      exact ⟨rfl, box_old hQ3⟩
  · have k1 := nei_t h1
    have HR := Lib.hid (HC.out.trans (P1.out h1))
    clear h1
    go_wp2_with (first | (go_at_call 57; go_must (refine (F1.out _ hQ).mono ?_; rintro e w2 ⟨rfl, hb2⟩; have hQ2 := box_on hQ hb2; obtain ⟨d0, d1, d2, d3⟩ := box_four hQ2; have hbz2 := box_size hQ2; dsimp only)))
    go_ret3
    have hr := HR.out
    subst hr
    exact ⟨rfl, box_old hQ2⟩
end Go.Proofs.Ytnlolliankhfmaa
