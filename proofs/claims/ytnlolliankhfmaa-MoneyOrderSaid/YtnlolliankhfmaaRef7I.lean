/- What is proved here: contracts of the reference of layer 7: Need, Right. Conditions: valid lists. -/
import Derived.Test.YtnlolliankhfmaaRef7H
import Derived.Test.YtnlolliankhfmaaPlain
set_option linter.unusedVariables false
set_option linter.unusedSimpArgs false
namespace Go.Proofs.Ytnlolliankhfmaa
open Go Go.RowKit

set_option maxHeartbeats 2000000 in
theorem Need7_any (ac az aw ap : Option Addr) (cc cz cw cp : Nat) (m : MoList) (w : World) (hm : ListC w ac az aw ap cc cz cw cp m) :
    Calls Try.prog 35 #[(.agg #[.slice ac m.claimants.length cc, .slice az m.sums.length cz, .slice aw m.words.length cw, .slice ap m.paid.length cp])] w fun e w' => e = .returned (.tuple #[.int .i64 (needOf m).1, .int .i64 (needOf m).2.1, .int .i64 (needOf m).2.2]) ∧ Below w.heap.size w w' := by
  have HF : Hid (needOf m = if (heldOf m).2 = 0 then ((needTo m (heldOf m).1 m.sums.length).1, (needTo m (heldOf m).1 m.sums.length).2, 0) else (0, 0, (heldOf m).2)) := rfl
  have HV : Hid ((heldOf m).2 = 0 → Valid m) := held_valid
  generalize needOf m = r at HF ⊢
  have hB0 := Below.refl (w.heap.size + 1) (w.alloc (.cells #[.slice ac m.claimants.length cc, .slice az m.sums.length cz, .slice aw m.words.length cw, .slice ap m.paid.length cp] 27))
  obtain ⟨c0, c1, c2, c3⟩ := box_four hB0
  have hbz := box_size hB0
  have C := Lib.hid (Held7_any ac az aw ap cc cz cw cp m (w.alloc (.cells #[.slice ac m.claimants.length cc, .slice az m.sums.length cz, .slice aw m.words.length cw, .slice ap m.paid.length cp] 27)) (hm.mono (box_old hB0)))
  generalize heldOf m = x at C HF HV
  obtain ⟨hl, he⟩ := x
  simp only at C HF HV
  by_cases h0 : he = 0
  · have hva := HV.out h0
    have h1 := nei_f h0
    replace HF := Lib.hid (HF.out.trans (if_pos h0))
    subst h0
    have hz := hva.nz
    go_enter Try.func35, Try.ntmps35
    go_wp2_with (go_at_call 27; go_must (refine C.out.mono ?_; rintro e w2 ⟨v, rfl, ⟨ah, ch, rfl, hso, hih⟩, hb⟩; have hB2 := hB0.trans (hb.mono (by simp)); obtain ⟨d0, d1, d2, d3⟩ := box_four hB2; have hbz2 := box_size hB2; dsimp only))
    clear c0 c1 c2 c3 d0 d1 d2 d3
    have hlh := hso.len
    go_loopw [7, 8, 9] (fun s a i wr => ∃ k : Nat, k ≤ m.sums.length ∧ i = .int .i64 k ∧ s = .int .i64 (needTo m hl k).1 ∧ a = .int .i64 (needTo m hl k).2 ∧ Below w2.heap.size w2 wr) (fun _ _ i _ => m.sums.length - (intOf i).toNat)
    case atStart => exact ⟨0, Nat.zero_le _, rfl, rfl, rfl, Below.refl _ _⟩
    case round =>
      obtain ⟨k, hk, rfl, rfl, rfl, hbw⟩ := hrel
      have hB := hB2.trans (hbw.mono hbz2)
      obtain ⟨c0, c1, c2, c3⟩ := box_four hB
      have hbz3 := box_size hB
      by_cases hlt : k < m.sums.length
      · have P := Lib.hid (Paid7_any ac az aw ap cc cz cw cp m k wr (hm.mono (box_old hB)))
        have HN : Hid (needTo m hl (k+1) = if paidB m k then needTo m hl k else ((needTo m hl k).1 + (if hasB hl k then 0 else penceAt m k), (needTo m hl k).2 + penceAt m k)) := rfl
        have hbd := needTo_bd m hva hl k
        have hpb := pence_bd m hva k
        have hpe : penceAt m k = m.sums[k].pence := by unfold penceAt; rw [List.getElem?_eq_getElem hlt]
        obtain ⟨b, off, rfl, hb1, _, z2, _⟩ := hm.sums k hlt
        rw [← hpe] at z2
        clear hpe
        generalize penceAt m k = pe at HN hpb z2
        have H := fun W h => Has_any ah hl ch k W hlh h
        generalize hasB hl k = bh at H HN
        have H := Lib.hid H
        generalize paidB m k = bp at P HN
        generalize needTo m hl k = x at HN hbd ⊢
        obtain ⟨x1, x2⟩ := x
        simp only at HN hbd
        cases bp
        · cases bh
          all_goals
            go_wp2_with (first
              | (go_at_call 44; go_must (refine (H.out _ (hih.mono hbw4)).mono ?_; rintro e w5 ⟨rfl, hw5⟩; obtain rfl := hw5.symm; dsimp only))
              | (go_at_call 91; go_must (refine P.out.mono ?_; rintro e w4 ⟨rfl, hb4⟩; have hbw4 := hbw.trans (hb4.mono hbw.size); have hB4 := hB2.trans (hbw4.mono hbz2); obtain ⟨e0, e1, e2, e3⟩ := box_four hB4; have hbz4 := box_size hB4; have z4 := cell_below (box_old hB4) z2; have hb5 := lt_of_cell z4; dsimp only)))
            go_roundw
            case rel => exact ⟨k + 1, by omega, by go_num, val_int (by rw [HN.out]; simp), val_int (by rw [HN.out]; simp), hbw4⟩
            case measure => simp [intOf]; omega
        · go_wp2_with (go_at_call 91; go_must (refine P.out.mono ?_; rintro e w4 ⟨rfl, hb4⟩; have hbw4 := hbw.trans (hb4.mono hbw.size); dsimp only))
          go_roundw
          case rel => exact ⟨k + 1, by omega, by go_num, val_int (by rw [HN.out]; simp), val_int (by rw [HN.out]; simp), hbw4⟩
          case measure => simp [intOf]; omega
      · obtain rfl : k = m.sums.length := by omega
        go_wp2
        go_ret3
        have hr := HF.out
        subst hr
        exact ⟨rfl, box_old hB⟩
  · have h1 := nei_t h0
    replace HF := Lib.hid (HF.out.trans (if_neg h0))
    go_enter Try.func35, Try.ntmps35
    go_wp2_with (go_at_call 27; go_must (refine C.out.mono ?_; rintro e w2 ⟨v, rfl, _, hb⟩; have hB2 := hB0.trans (hb.mono (by simp)); dsimp only))
    go_ret3
    have hr := HF.out
    subst hr
    exact ⟨rfl, box_old hB2⟩

set_option maxRecDepth 100000 in
set_option maxHeartbeats 4000000 in
theorem Right7_any (ac az aw ap : Option Addr) (cc cz cw cp : Nat) (m : MoList) (at_ ab : Option Addr) (t but : List Int) (ct cb : Nat) (w : World) (hm : ListC w ac az aw ap cc cz cw cp m) (hv : Valid m) (hst : SlOk at_ t.length ct) (hit : IntsC w at_ t) (ht : t.length = m.sums.length) (hsb : SlOk ab but.length cb) (hib : IntsC w ab but) :
    Calls Try.prog 94 #[(.agg #[.slice ac m.claimants.length cc, .slice az m.sums.length cz, .slice aw m.words.length cw, .slice ap m.paid.length cp]), .slice at_ t.length ct, .slice ab but.length cb] w fun e w' => e = .returned (.bool (right m t but)) ∧ Below w.heap.size w w' := by
  have l4 := hm.okp.len
  have v4 := hv.np
  have hlb := hsb.len
  go_enter Try.func94, Try.ntmps94
  go_wp2
  go_loopw [7] (fun i wr => ∃ k : Nat, k ≤ m.paid.length ∧ i = .int .i64 k ∧ Hid (∀ j, j < k → rightAt m t but j = true) ∧ Below (w.heap.size + 1) (w.alloc (.cells #[.slice ac m.claimants.length cc, .slice az m.sums.length cz, .slice aw m.words.length cw, .slice ap m.paid.length cp] 27)) wr) (fun i _ => m.paid.length - (intOf i).toNat)
  case atStart => exact ⟨0, Nat.zero_le _, rfl, Lib.hid (fun j h => absurd h (Nat.not_lt_zero j)), Below.refl _ _⟩
  case round =>
    obtain ⟨k, hk, rfl, HR, hB⟩ := hrel
    obtain ⟨c0, c1, c2, c3⟩ := box_four hB
    have hbz := box_size hB
    by_cases hlt : k < m.paid.length
    · obtain ⟨b, off, rfl, hb0, z1, z2⟩ := hm.paid k hlt
      have hpv := hv.paid k hlt
      have A1 := Lib.hid (rightAt_skip (t := t) (but := but) hlt)
      have A2 := Lib.hid (rightAt_who (t := t) (but := but) hlt)
      have A3 := Lib.hid (fun (k2 : Nat) => rightAt_pair (t := t) (but := but) (k := k2) hlt)
      have A4 := Lib.hid (rightAt_ok (t := t) (but := but) hlt)
      have H := fun W h => Has_any ab but cb k W hlb h
      generalize hbk : hasB but k = bk at A1 A2 A3 H
      clear hbk
      have H := Lib.hid H
      have z1w := cell_below (box_old hB) z1
      have z2w := cell_below (box_old hB) z2
      have hbz1 := lt_of_cell z1w
      generalize hps : m.paid[k].sum = ps at z1 z1w hpv A2 A3 A4
      generalize hpc : m.paid[k].claimant = pc at z2 z2w hpv A2 A4
      clear hps hpc
      obtain ⟨⟨hp0, hp1⟩, hp2, hp3⟩ := hpv
      obtain ⟨p, rfl⟩ := Int.eq_ofNat_of_zero_le hp0
      simp only [Int.toNat_natCast] at A2 A4
      have hpt : p < t.length := by omega
      cases bk
      · obtain ⟨b2, off2, rfl, hb2, y1⟩ := hit p hpt
        simp only [List.getElem?_eq_getElem hpt, Option.getD_some] at A2 A4
        have y1w := cell_below (box_old hB) y1
        have hbz2 := lt_of_cell y1w
        generalize t[p] = y at y1 y1w A2 A4
        have hlt2 := Lib.hid ht
        clear ht
        by_cases hy : y = pc
        · have hy2 := nei_f hy
          replace A4 := Lib.hid (A4.out hy)
          clear A2 A1 hy
          obtain ⟨wa, hwa⟩ : ∃ wa : World, wa = wr := ⟨_, rfl⟩
          subst hwa
          go_wp2_with (go_at_call 44; go_must (refine (H.out _ (hib.mono (box_old hB))).mono ?_; rintro e w5 ⟨rfl, hw5⟩; obtain rfl := hw5.symm; dsimp only))
          go_quiet (fail)
          go_wp2
          go_loopw [8] (fun i wr => ∃ j : Nat, j ≤ k ∧ i = .int .i64 j ∧ Hid (∀ i, i < j → pairOk m but p i = true) ∧ Below (w.heap.size + 1) (w.alloc (.cells #[.slice ac m.claimants.length cc, .slice az m.sums.length cz, .slice aw m.words.length cw, .slice (some ⟨b, off, none⟩) m.paid.length cp] 27)) wr) (fun i _ => k - (intOf i).toNat)
          case atStart => exact ⟨0, Nat.zero_le _, rfl, Lib.hid (fun j h => absurd h (Nat.not_lt_zero j)), below_drewN' hB _⟩
          case round =>
            clear c0 c1 c2 c3 hbz z1w z2w y1w hbz1 hbz2
            obtain ⟨j, hj, rfl, HP, hB5⟩ := hrel
            obtain ⟨c0, c1, c2, c3⟩ := box_four hB5
            have hbz := box_size hB5
            by_cases hjl : j < k
            · have hjp : j < m.paid.length := by omega
              obtain ⟨b', off', e', hb', x1, x2⟩ := hm.paid j hjp
              cases e'
              have P1 := Lib.hid (pairOk_eq (but := but) (s := (p : Int)) hjp)
              have A5 := Lib.hid (A3.out j (by first | rfl | trivial) hjl)
              have H2 := fun W h => Has_any ab but cb j W hlb h
              generalize hasB but j = bj at H2 P1
              have H2 := Lib.hid H2
              have x1w := cell_below (box_old hB5) x1
              have z1w := cell_below (box_old hB5) z1
              have hbz1 := lt_of_cell z1w
              generalize m.paid[j].sum = q at x1w P1
              clear x1 x2
              cases bj
              · by_cases hq : q = p
                · have hq2 := eqi_t hq
                  have P2 := Lib.hid (show pairOk m but p j = false by rw [P1.out]; simp [hq])
                  clear hq P1
                  go_wp2
                  go_quiet ((go_at_call 44; (with_reducible exact Calls.quiet_of_same (H2.out _ (hib.mono (below_drewN' (box_old hB5) _))))))
                  go_wp2
                  go_ret
                  exact ⟨ret_bool (right_false hlt (A5.out P2.out)).symm, box_old (below_drewN' hB5 _)⟩
                · have hq2 := eqi_f hq
                  have P2 := Lib.hid (show pairOk m but p j = true by rw [P1.out]; simp [hq])
                  clear hq P1
                  go_wp2
                  go_quiet ((go_at_call 44; (with_reducible exact Calls.quiet_of_same (H2.out _ (hib.mono (below_drewN' (box_old hB5) _))))))
                  go_wp2
                  go_roundw
                  case rel => exact ⟨j + 1, by omega, by go_num, Lib.hid (fun i hi => if h : i < j then HP.out i h else by rw [show i = j from by omega]; exact P2.out), below_drewN' hB5 _⟩
                  case measure => simp [intOf]; omega
              · have P2 := Lib.hid (show pairOk m but p j = true by rw [P1.out]; simp)
                clear P1
                go_wp2
                go_quiet ((go_at_call 44; (with_reducible exact Calls.quiet_of_same (H2.out _ (hib.mono (below_drewN' (box_old hB5) _))))))
                go_wp2
                go_roundw
                case rel => exact ⟨j + 1, by omega, by go_num, Lib.hid (fun i hi => if h : i < j then HP.out i h else by rw [show i = j from by omega]; exact P2.out), below_drewN' hB5 _⟩
                case measure => simp [intOf]; omega
            · obtain rfl : j = k := by omega
              go_wp2
              go_roundw
              case rel => exact ⟨j + 1, by omega, by go_num, Lib.hid (fun i hi => if h : i < j then HR.out i h else by rw [show i = j from by omega]; exact A4.out HP.out), hB5⟩
              case measure => simp [intOf]; omega
        · have hy2 := nei_t hy
          have HA := Lib.hid (A2.out (by first | rfl | trivial) hy)
          clear A1 A2 A3 A4
          go_wp2_with (go_at_call 44; go_must (refine (H.out _ (hib.mono (box_old hB))).mono ?_; rintro e w5 ⟨rfl, hw5⟩; obtain rfl := hw5.symm; dsimp only))
          go_quiet (fail)
          go_wp2
          go_ret
          exact ⟨ret_bool (right_false hlt HA.out).symm, box_old (below_drewN' hB _)⟩
      · go_wp2_with (go_at_call 44; go_must (refine (H.out _ (hib.mono (box_old hB))).mono ?_; rintro e w5 ⟨rfl, hw5⟩; obtain rfl := hw5.symm; dsimp only))
        go_roundw
        case rel => exact ⟨k + 1, by omega, by go_num, Lib.hid (fun j hj => if h : j < k then HR.out j h else by rw [show j = k from by omega]; exact A1.out rfl), hB⟩
        case measure => simp [intOf]; omega
    · obtain rfl : k = m.paid.length := by omega
      go_wp2
      go_ret
      exact ⟨ret_bool (right_true HR.out).symm, box_old hB⟩
end Go.Proofs.Ytnlolliankhfmaa
