/- What is proved here: contracts of the reference of layer 7: bits, word. Condition: slices are of lengths that a machine can hold. -/
/- What is proved here: the contract of the reference's Check of layer 7. Condition: slices and strings are of lengths that a machine can hold. -/
import Derived.Test.YtnlolliankhfmaaGround
import Derived.Test.YtnlolliankhfmaaMoRep
import Derived.Test.YtnlolliankhfmaaNames
set_option linter.unusedVariables false
set_option linter.unusedSimpArgs false
namespace Go.Proofs.Ytnlolliankhfmaa
open Go Go.RowKit

theorem allBits_succ (k : Nat) : allBits (k+1) = 2 * allBits k + 1 := by unfold allBits; rw [Int.pow_succ]; omega
theorem allBits_small (k : Nat) (h : k ≤ 6) : 0 ≤ allBits k ∧ allBits k ≤ 63 := by
  have : k = 0 ∨ k = 1 ∨ k = 2 ∨ k = 3 ∨ k = 4 ∨ k = 5 ∨ k = 6 := by omega
  rcases this with rfl | rfl | rfl | rfl | rfl | rfl | rfl <;> decide

set_option maxHeartbeats 400000 in
theorem Bits7_any (n : Int) (w : World) (h0 : 0 ≤ n) (h6 : n ≤ 6) : Calls Try.prog 72 #[.int .i64 n] w fun e w' => e = .returned (.int .i64 (allBits n.toNat)) ∧ w' = w := by
  obtain ⟨K, rfl⟩ := Int.eq_ofNat_of_zero_le h0
  rw [Int.toNat_natCast]
  go_enter Try.func72, Try.ntmps72
  go_wp2
  go_loop [3, 4] (fun m i => ∃ (j : Nat) (x : Int), j ≤ K ∧ i = .int .i64 j ∧ m = .int .i64 x ∧ 0 ≤ x ∧ x ≤ 63 ∧ Hid (x = allBits j)) (fun _ i => K - (intOf i).toNat)
  case atStart => exact ⟨0, 0, Nat.zero_le _, rfl, rfl, by omega, by omega, Lib.hid rfl⟩
  case round =>
    obtain ⟨j, x, hj, rfl, rfl, hx0, hx1, HX⟩ := hrel
    by_cases hlt : j < K
    · have hs := allBits_small (j+1) (by omega)
      have HS := Lib.hid (allBits_succ j)
      rw [HS.out, ← HX.out] at hs
      go_wp2
      go_round
      case rel => exact ⟨j+1, 2 * x + 1, by omega, by go_num, rfl, hs.1, hs.2, Lib.hid (by rw [HS.out, ← HX.out])⟩
      case measure => simp [intOf]; omega
    · go_wp2
      go_ret
      exact ⟨ret_int (by rw [HX.out]; congr 1; omega), rfl⟩

set_option maxRecDepth 100000 in
set_option maxHeartbeats 1000000 in
theorem Word7_any (ac az aw ap : Option Addr) (cc cz cw cp : Nat) (m : MoList) (k : Nat) (w : World) (hm : ListC w ac az aw ap cc cz cw cp m) (hk : k < m.words.length) :
    Calls Try.prog 73 #[(.agg #[.slice ac m.claimants.length cc, .slice az m.sums.length cz, .slice aw m.words.length cw, .slice ap m.paid.length cp]), .int .i64 k] w fun e w' => e = .returned (.int .i64 (wordErr m k)) ∧ Below w.heap.size w w' := by
  obtain ⟨b, off, rfl, hb, h1, h2, h3, h4, h5⟩ := hm.words k hk
  have HF : Hid (wordErr m k = wordErrOf m.claimants.length m.sums.length m.words.length k m.words[k]) := by
    show wordErr m k = _
    simp [wordErr, hk]
  have l1 := hm.okc.len
  have l2 := hm.okz.len
  have l3 := hm.okw.len
  generalize m.words[k] = x at *
  obtain ⟨says, sum, of, back, came⟩ := x
  simp only at h1 h2 h3 h4 h5
  unfold wordErrOf at HF
  simp only at HF
  clear hm
  generalize wordErr m k = r at HF ⊢
  have C1 := fun w' => In_any says 0 3 w'
  have C2 := fun w' => In_any sum 0 (m.sums.length - 1) w'
  have C4 := fun w' => In_any back (-1) (m.words.length - 1) w'
  generalize inB says 0 3 = b1 at C1 HF
  generalize inB sum 0 (m.sums.length - 1) = b2 at C2 HF
  generalize inB back (-1) (m.words.length - 1) = b4 at C4 HF
  have C1 := Lib.hid C1
  have C2 := Lib.hid C2
  have C4 := Lib.hid C4
  cases b1
  · go_enter Try.func73, Try.ntmps73
    go_wp2_with (go_at_call 71; refine (C1.out _).mono ?_; rintro e w' ⟨rfl, rfl⟩)
    go_ret
    exact ⟨ret_int (by rw [HF.out]; simp), by go_grown⟩
  · by_cases hs : 2 ≤ says
    all_goals
      first
        | (have C3 := fun w' => In_any of 0 (m.sums.length - 1) w'; rw [if_pos hs] at HF; generalize inB of 0 (m.sums.length - 1) = b3 at C3 HF; have C3 := Lib.hid C3)
        | (have C3 := fun w' => In_any of 0 (m.claimants.length - 1) w'; rw [if_neg hs] at HF; generalize inB of 0 (m.claimants.length - 1) = b3 at C3 HF; have C3 := Lib.hid C3)
      go_enter Try.func73, Try.ntmps73
      go_wp2_with (go_at_call 71; first | ((with_reducible refine (C1.out _).mono ?_); rintro e w' ⟨rfl, rfl⟩) | ((with_reducible refine (C2.out _).mono ?_); rintro e w' ⟨rfl, rfl⟩) | ((with_reducible refine (C4.out _).mono ?_); rintro e w' ⟨rfl, rfl⟩) | ((with_reducible refine (C3.out _).mono ?_); rintro e w' ⟨rfl, rfl⟩))
      all_goals go_ret
      all_goals refine ⟨ret_int ?_, by go_grown⟩
      all_goals have HF := HF.out
      all_goals simp_all
      all_goals omega
end Go.Proofs.Ytnlolliankhfmaa
namespace Go.Proofs.Ytnlolliankhfmaa
open Go Go.RowKit

set_option maxRecDepth 100000 in
set_option maxHeartbeats 4000000 in
theorem Check7_any (ac az aw ap : Option Addr) (cc cz cw cp : Nat) (m : MoList) (w : World) (hm : ListC w ac az aw ap cc cz cw cp m) :
    Calls Try.prog 17 #[(.agg #[.slice ac m.claimants.length cc, .slice az m.sums.length cz, .slice aw m.words.length cw, .slice ap m.paid.length cp])] w fun e w' => e = .returned (.tuple #[.int .i64 (check m).1, .int .i64 (check m).2.1, .int .i64 (check m).2.2]) ∧ Below w.heap.size w w' := by
  have R1 : Hid (check m = checkPart 1 m.claimants.length 4 (claimErr m) (checkPart 2 m.sums.length 5 (sumErr m) (checkPart 3 m.words.length 6 (wordErr m) (checkPart 4 m.paid.length 5 (paidErr m) (0, 0, 0))))) := rfl
  generalize check m = r at R1 ⊢
  have l1 := hm.okc.len
  have l2 := hm.okz.len
  have l3 := hm.okw.len
  have l4 := hm.okp.len
  go_enter Try.func17, Try.ntmps17
  by_cases g1 : 4 < m.claimants.length
  · have R := R1.out.trans (checkPart_long g1)
    subst R
    go_wp2
    go_ret3
    exact ⟨rfl, by go_grown⟩
  go_wp2
  go_loopw [5] (fun i wr => ∃ k : Nat, k ≤ m.claimants.length ∧ i = .int .i64 k ∧ Hid (∀ i, i < k → claimErr m i = 0) ∧ Below (w.heap.size + 1) (w.alloc (.cells #[.slice ac m.claimants.length cc, .slice az m.sums.length cz, .slice aw m.words.length cw, .slice ap m.paid.length cp] 27)) wr) (fun i _ => m.claimants.length - (intOf i).toNat)
  case atStart => exact ⟨0, Nat.zero_le _, rfl, Lib.hid (fun i h => absurd h (Nat.not_lt_zero i)), Below.refl _ _⟩
  case round =>
    obtain ⟨k, hk, rfl, HZ, hB⟩ := hrel
    obtain ⟨c0, c1, _, _⟩ := box_four hB
    have hbz := box_size hB
    by_cases hlt : k < m.claimants.length
    · obtain ⟨b, off, rfl, hb, h1⟩ := (hm.mono (box_old hB)).claimants k hlt
      have hsz := hm.csize _ (List.getElem_mem hlt)
      have hst := (hm.mono (box_old hB)).claimants
      have HE : Hid (claimErr m k = fresh m.claimants[k] (m.claimants.take k)) := by show claimErr m k = _; simp [claimErr, hlt]
      have hcc := hm.okc.1
      generalize m.claimants[k] = s at h1 hsz HE
      have F := fun W (hi : StrsC W (some ⟨b, off, none⟩) m.claimants) => FreshTake_any s (some ⟨b, off, none⟩) m.claimants k cc W hsz l1 hk hi
      generalize fresh s (m.claimants.take k) = e at F HE
      have F := Lib.hid F
      go_wp2
      go_quiet ((go_at_call 70; exact Calls.quiet_of_same (F.out _ (hst.mono (below_draws _ _ _)))))
      by_cases he : e = 0
      · subst he
        go_wp2
        go_roundw
        case rel => exact ⟨k+1, by omega, by go_num, Lib.hid (fun i hi => if h : i < k then HZ.out i h else by rw [show i = k from by omega]; exact HE.out), below_drewN' hB _⟩
        case measure => simp [intOf]; omega
      · have he2 := nei_t he
        go_wp2
        go_ret3
        have R := R1.out.trans (checkPart_err (by omega) hlt HZ.out (by rw [HE.out]; exact he))
        rw [HE.out] at R
        subst R
        exact ⟨rfl, box_old (below_drewN' hB _)⟩
    · have R2 := Lib.hid (R1.out.trans (checkPart_ok (by omega) (fun i hi => HZ.out i (by omega))))
      clear R1
      by_cases g2 : 5 < m.sums.length
      · have R := R2.out.trans (checkPart_long g2)
        subst R
        go_wp2
        go_ret3
        exact ⟨rfl, box_old hB⟩
      go_wp2
      go_loopw [7, 8] (fun v i wr => ∃ (k : Nat), k ≤ m.sums.length ∧ i = .int .i64 k ∧ Hid (∀ i, i < k → sumErr m i = 0) ∧ wr.ownsRow (w.heap.size + 1) 9 1 v k (((m.sums.take k).map MoSum.name).map Value.string) ∧ Below (w.heap.size + 1) (w.alloc (.cells #[.slice ac m.claimants.length cc, .slice az m.sums.length cz, .slice aw m.words.length cw, .slice ap m.paid.length cp] 27)) wr) (fun _ i _ => m.sums.length - (intOf i).toNat)
      case atStart => exact ⟨0, Nat.zero_le _, rfl, Lib.hid (fun i h => absurd h (Nat.not_lt_zero i)), World.ownsRow_nil _ _ _ _, hB⟩
      case round =>
        clear hB c0 c1 hbz HZ
        obtain ⟨k, hk, rfl, HZ, hown, hB⟩ := hrel
        obtain ⟨c0, c1, c2, _⟩ := box_four hB
        have hbz := box_size hB
        by_cases hlt : k < m.sums.length
        · obtain ⟨b, off, rfl, hb0, h1w, h2w, h3w⟩ := hm.sums k hlt
          have hb := Nat.lt_of_lt_of_le hb0 (box_old hB).size
          have h1 := cell_below (box_old hB) h1w
          have h2 := cell_below (box_old hB) h2w
          have h3 := cell_below (box_old hB) h3w
          have hsz := hm.zsize _ (List.getElem_mem hlt)
          obtain ⟨hk2, a', c', rfl, hs', hst⟩ := strs_own hown
          have HE : Hid (sumErr m k = if fresh m.sums[k].name ((m.sums.take k).map MoSum.name) = 0 then (if inB m.sums[k].pence 1 99 && inB m.sums[k].for_ 1 (allBits m.claimants.length) then 0 else 7) else fresh m.sums[k].name ((m.sums.take k).map MoSum.name)) := by show sumErr m k = _; simp [sumErr, hlt]
          have HN : Hid ((m.sums.take (k+1)).map MoSum.name = (m.sums.take k).map MoSum.name ++ [m.sums[k].name]) := by show _ = _; rw [List.take_succ_eq_append_getElem hlt, List.map_append]; rfl
          generalize m.sums[k] = x at h1 h2 h3 h1w h2w h3w hsz HE HN
          generalize (m.sums.take k).map MoSum.name = names at *
          obtain ⟨nm, pe, fo⟩ := x
          simp only at h1 h2 h3 h1w h2w h3w hsz HE HN
          have H1w := Lib.hid h1w
          have H2w := Lib.hid h2w
          have H3w := Lib.hid h3w
          clear h1w h2w h3w
          have F := Fresh_any nm a' names c' wr hsz hs'.len hst
          generalize fresh nm names = e at F HE
          have F := Lib.hid F
          have C1 := fun w' => In_any pe 1 99 w'
          have C2 := fun w' => In_any fo 1 (allBits m.claimants.length) w'
          generalize inB pe 1 99 = b1 at C1 HE
          generalize inB fo 1 (allBits m.claimants.length) = b2 at C2 HE
          have C1 := Lib.hid C1
          have C2 := Lib.hid C2
          have C3 := fun w' => Bits7_any m.claimants.length w' (by omega) (by omega)
          rw [Int.toNat_natCast] at C3
          have C3 := Lib.hid C3
          rw [← hk2] at *
          go_wp2_with (first
            | (go_at_call 70; refine F.out.mono ?_; rintro e w' ⟨rfl, rfl⟩)
            | (at_builtin; refine wpList_app (.tmp 57) (.tmp 64) E_str rfl rfl rfl rfl (w.heap.size + 1) k 1 (names.map Value.string) [.string nm] (hown.alloc _) (SrcAt.one _ _ _ rfl) (by omega) (by decide) (by simp; omega) ?_; intro v2 w2 ho2 hg2 _; have hB2 := app_next hB (by simp) (Nat.le_refl _) hown hg2; clear hg2; simp only [Act.put, List.setIfInBounds_toArray, List.set_cons_succ, List.set_cons_zero]))
          clear c0 c1 c2 h1 h2 h3 hb hst
          have hb := Nat.lt_of_lt_of_le hb0 (box_old hB2).size
          have h2 := cell_below (box_old hB2) H2w.out
          have h3 := cell_below (box_old hB2) H3w.out
          obtain ⟨c0, c1, c2, _⟩ := box_four hB2
          have hbz := box_size hB2
          by_cases he : e = 0
          · have he2 := eqi_t he
            have HE := Lib.hid (HE.out.trans (if_pos he))
            clear he
            cases b1
            · go_quiet ((go_at_call 71; exact Calls.quiet_of_same (C1.out _)))
              go_wp2
              go_ret3
              have R := R2.out.trans (checkPart_err (by omega) hlt HZ.out (by rw [HE.out]; simp))
              rw [HE.out] at R
              subst R
              exact ⟨rfl, box_old (below_drewN' hB2 _)⟩
            · go_quiet (first | (go_at_call 71; (with_reducible exact Calls.quiet_of_same (C1.out _))) | (go_at_call 71; (with_reducible exact Calls.quiet_of_same (C2.out _))) | (go_at_call 72; exact Calls.quiet_of_same (C3.out _)))
              cases b2
              · go_wp2
                go_ret3
                have R := R2.out.trans (checkPart_err (by omega) hlt HZ.out (by rw [HE.out]; simp))
                rw [HE.out] at R
                subst R
                exact ⟨rfl, box_old (below_drewN' hB2 _)⟩
              · go_wp2
                go_roundw
                case rel => exact ⟨k+1, by omega, by go_num, Lib.hid (fun i hi => if h : i < k then HZ.out i h else by rw [show i = k from by omega]; exact HE.out), by rw [HN.out, List.map_append]; exact ho2, below_drewN' hB2 _⟩
                case measure => simp [intOf]; omega
          · have he2 := eqi_f he
            have he3 := nei_t he
            have HE := Lib.hid (HE.out.trans (if_neg he))
            go_quiet (fail)
            go_wp2
            go_ret3
            have R := R2.out.trans (checkPart_err (by omega) hlt HZ.out (by rw [HE.out]; exact he))
            rw [HE.out] at R
            subst R
            exact ⟨rfl, box_old (below_drewN' hB2 _)⟩
        · have R3 := Lib.hid (R2.out.trans (checkPart_ok (by omega) (fun i hi => HZ.out i (by omega))))
          clear R2 hown
          by_cases g3 : 6 < m.words.length
          · have R := R3.out.trans (checkPart_long g3)
            subst R
            go_wp2
            go_ret3
            exact ⟨rfl, box_old hB⟩
          go_wp2
          go_loopw [10] (fun i wr => ∃ (k : Nat), k ≤ m.words.length ∧ i = .int .i64 k ∧ Hid (∀ i, i < k → wordErr m i = 0) ∧ Below (w.heap.size + 1) (w.alloc (.cells #[.slice ac m.claimants.length cc, .slice az m.sums.length cz, .slice aw m.words.length cw, .slice ap m.paid.length cp] 27)) wr) (fun i _ => m.words.length - (intOf i).toNat)
          case atStart => exact ⟨0, Nat.zero_le _, rfl, Lib.hid (fun i h => absurd h (Nat.not_lt_zero i)), hB⟩
          case round =>
            clear hB c0 c1 c2 hbz HZ
            obtain ⟨k, hk, rfl, HZ, hB⟩ := hrel
            obtain ⟨c0, c1, c2, c3⟩ := box_four hB
            have hbz := box_size hB
            by_cases hlt : k < m.words.length
            · have F := Lib.hid (Word7_any ac az aw ap cc cz cw cp m k wr (hm.mono (box_old hB)) hlt)
              generalize hE : wordErr m k = e at F
              have HE := Lib.hid hE
              clear hE
              by_cases he : e = 0
              · subst he
                go_wp2_with (go_at_call 73; refine F.out.mono ?_; rintro e w1 ⟨rfl, hb1⟩)
                go_roundw
                case rel => exact ⟨k+1, by omega, by go_num, Lib.hid (fun i hi => if h : i < k then HZ.out i h else by rw [show i = k from by omega]; exact HE.out), hB.trans (hb1.mono (by omega))⟩
                case measure => simp [intOf]; omega
              · have he2 := nei_t he
                go_wp2_with (go_at_call 73; refine F.out.mono ?_; rintro e w1 ⟨rfl, hb1⟩)
                go_ret3
                have R := R3.out.trans (checkPart_err (by omega) hlt HZ.out (by rw [HE.out]; exact he))
                rw [HE.out] at R
                subst R
                exact ⟨rfl, box_old (hB.trans (hb1.mono (by omega)))⟩
            · have R4 := Lib.hid (R3.out.trans (checkPart_ok (by omega) (fun i hi => HZ.out i (by omega))))
              clear R3
              by_cases g4 : 5 < m.paid.length
              · have R := R4.out.trans (checkPart_long g4)
                subst R
                go_wp2
                go_ret3
                exact ⟨rfl, box_old hB⟩
              go_wp2
              go_loopw [12] (fun i wr => ∃ (k : Nat), k ≤ m.paid.length ∧ i = .int .i64 k ∧ Hid (∀ i, i < k → paidErr m i = 0) ∧ Below (w.heap.size + 1) (w.alloc (.cells #[.slice ac m.claimants.length cc, .slice az m.sums.length cz, .slice aw m.words.length cw, .slice ap m.paid.length cp] 27)) wr) (fun i _ => m.paid.length - (intOf i).toNat)
              case atStart => exact ⟨0, Nat.zero_le _, rfl, Lib.hid (fun i h => absurd h (Nat.not_lt_zero i)), hB⟩
              case round =>
                clear hB c0 c1 c2 c3 hbz HZ
                obtain ⟨k, hk, rfl, HZ, hB⟩ := hrel
                obtain ⟨c0, c1, c2, c3⟩ := box_four hB
                have hbz := box_size hB
                by_cases hlt : k < m.paid.length
                · obtain ⟨b, off, rfl, hb, h1, h2⟩ := (hm.mono (box_old hB)).paid k hlt
                  have HE : Hid (paidErr m k = if inB m.paid[k].sum 0 (m.sums.length - 1) && inB m.paid[k].claimant 0 (m.claimants.length - 1) then 0 else 4) := by show paidErr m k = _; simp [paidErr, hlt]
                  generalize m.paid[k] = x at h1 h2 HE
                  obtain ⟨su, cl⟩ := x
                  simp only at h1 h2 HE
                  have C1 := fun w' => In_any su 0 (m.sums.length - 1) w'
                  have C2 := fun w' => In_any cl 0 (m.claimants.length - 1) w'
                  generalize inB su 0 (m.sums.length - 1) = b1 at C1 HE
                  generalize inB cl 0 (m.claimants.length - 1) = b2 at C2 HE
                  have C1 := Lib.hid C1
                  have C2 := Lib.hid C2
                  cases b1
                  · go_wp2
                    go_quiet ((go_at_call 71; exact Calls.quiet_of_same (C1.out _)))
                    go_wp2
                    go_ret3
                    have R := R4.out.trans (checkPart_err (by omega) hlt HZ.out (by rw [HE.out]; simp))
                    rw [HE.out] at R
                    subst R
                    exact ⟨rfl, box_old (below_drewN' hB _)⟩
                  · cases b2
                    · go_wp2
                      go_quiet (first | (go_at_call 71; (with_reducible exact Calls.quiet_of_same (C1.out _))) | (go_at_call 71; (with_reducible exact Calls.quiet_of_same (C2.out _))))
                      go_wp2
                      go_ret3
                      have R := R4.out.trans (checkPart_err (by omega) hlt HZ.out (by rw [HE.out]; simp))
                      rw [HE.out] at R
                      subst R
                      exact ⟨rfl, box_old (below_drewN' hB _)⟩
                    · go_wp2
                      go_quiet (first | (go_at_call 71; (with_reducible exact Calls.quiet_of_same (C1.out _))) | (go_at_call 71; (with_reducible exact Calls.quiet_of_same (C2.out _))))
                      go_wp2
                      go_roundw
                      case rel => exact ⟨k+1, by omega, by go_num, Lib.hid (fun i hi => if h : i < k then HZ.out i h else by rw [show i = k from by omega]; exact HE.out), below_drewN' hB _⟩
                      case measure => simp [intOf]; omega
                · have R := R4.out.trans (checkPart_ok (by omega) (fun i hi => HZ.out i (by omega)))
                  subst R
                  go_wp2
                  go_ret3
                  exact ⟨rfl, box_old hB⟩
end Go.Proofs.Ytnlolliankhfmaa
