/- What is proved here: contracts of the reference of layer 7: Wait. No condition. -/
import Derived.Test.YtnlolliankhfmaaRef7M
import Derived.Test.YtnlolliankhfmaaPlain
set_option linter.unusedVariables false
set_option linter.unusedSimpArgs false
namespace Go.Proofs.Ytnlolliankhfmaa
open Go Go.RowKit

set_option maxRecDepth 100000 in
set_option maxHeartbeats 8000000 in
theorem Wait7_any (ac az aw ap : Option Addr) (cc cz cw cp : Nat) (m : MoList) (w : World) (hm : ListC w ac az aw ap cc cz cw cp m) :
    Calls Try.prog 29 #[(.agg #[.slice ac m.claimants.length cc, .slice az m.sums.length cz, .slice aw m.words.length cw, .slice ap m.paid.length cp])] w fun e w' => ∃ v, e = .returned (.tuple #[v, .int .i64 (waitOf m).2]) ∧ IntsV w' v (waitOf m).1 ∧ Below w.heap.size w w' := by
  have HF : Hid (waitOf m = if wholeErr m = 0 then (match searchFrom (fun c => decides m (picks (lateWords m) c)) (lateWords m).length 0 ((lateWords m).length + 1) with | some c => (picks (lateWords m) c, 0) | none => ([], 9)) else ([], wholeErr m)) := rfl
  have HE : Hid (wholeErr m = someErr m (check m).2.2) := rfl
  have HV : Hid (wholeErr m = 0 → Valid m ∧ 0 < (truths m).length) := whole_valid
  have HC : Hid ((check m).2.2 = 0 → Valid m) := valid_of
  generalize waitOf m = r at HF ⊢
  generalize wholeErr m = we at HF HE HV
  have hB0 := Below.refl (w.heap.size + 1) (w.alloc (.cells #[.slice ac m.claimants.length cc, .slice az m.sums.length cz, .slice aw m.words.length cw, .slice ap m.paid.length cp] 27))
  obtain ⟨c0, c1, c2, c3⟩ := box_four hB0
  have hbz := box_size hB0
  have C := Lib.hid (Check7_any ac az aw ap cc cz cw cp m (w.alloc (.cells #[.slice ac m.claimants.length cc, .slice az m.sums.length cz, .slice aw m.words.length cw, .slice ap m.paid.length cp] 27)) (hm.mono (box_old hB0)))
  generalize check m = x at C HE HC
  obtain ⟨x1, x2, x3⟩ := x
  simp only at C HE HC
  have S := Lib.hid (fun (W : World) (h : Below w.heap.size w W) => Some7_any ac az aw ap cc cz cw cp m x3 W (hm.mono h) HC.out)
  have hE := HE.out
  rw [← hE] at S
  clear hE HE
  by_cases h0 : we = 0
  · obtain ⟨hva, hpos⟩ := HV.out h0
    have h1 := nei_f h0
    replace HF := Lib.hid (HF.out.trans (if_pos h0))
    subst h0
    have hn := hva.nw
    have hll := late_len m
    have hlb := late_bd m
    have L0 := Lib.hid (fun (W : World) (h : Below w.heap.size w W) => Late7_any ac az aw ap cc cz cw cp m W (hm.mono h) (by omega))
    generalize lateWords m = late at HF hll hlb L0
    have hln : late.length ≤ 6 := by omega
    go_enter Try.func29, Try.ntmps29
    go_wp2_with (first
      | (go_at_call 45; go_must (refine (L0.out _ (box_old hB3)).mono ?_; rintro e w5 ⟨v, rfl, ⟨a, c, rfl, hso, hli⟩, hb5⟩; have hB5 := hB3.trans (hb5.mono hbz3); obtain ⟨g0, g1, g2, g3⟩ := box_four hB5; have hbz5 := box_size hB5; dsimp only))
      | (go_at_call 76; go_must (refine (S.out _ (box_old hB2)).mono ?_; rintro e w3 ⟨v, rfl, hsv, hb3⟩; have hB3 := hB2.trans (hb3.mono hbz2); obtain ⟨e0, e1, e2, e3⟩ := box_four hB3; have hbz3 := box_size hB3; dsimp only))
      | (go_at_call 17; go_must (refine C.out.mono ?_; rintro e w2 ⟨rfl, hb⟩; have hB2 := hB0.trans (hb.mono (by simp)); obtain ⟨d0, d1, d2, d3⟩ := box_four hB2; have hbz2 := box_size hB2; dsimp only)))
    clear c0 c1 c2 c3 d0 d1 d2 d3 e0 e1 e2 e3 g0 g1 g2 g3 hsv
    obtain ⟨so, hso2⟩ : ∃ so : List Int → Bool, so = fun c => decides m (picks late c) := ⟨_, rfl⟩
    have R1 := Lib.hid (fun (W : World) (ab : Option Addr) (c : List Int) (cb : Nat) (h : Below w5.heap.size w5 W) (hc : ∀ x ∈ c, 0 ≤ x ∧ x < late.length) hsb hib => (show Calls Try.prog 47 #[(.agg #[.slice ac m.claimants.length cc, .slice az m.sums.length cz, .slice aw m.words.length cw, .slice ap m.paid.length cp]), .slice ab (picks late c).length cb] W fun e w' => e = .returned (.bool (so c)) ∧ Below W.heap.size W w' from by rw [hso2]; exact Decides7_any ac az aw ap cc cz cw cp m ab (picks late c) cb W (hm.mono ((box_old hB5).trans (h.mono (box_old hB5).size))) hva hsb hib (picks_bd hlb hc)))
    rw [← hso2] at HF
    clear hso2
    generalize hR : searchFrom so late.length 0 (late.length + 1) = R at HF
    have HR0 := Lib.hid hR.symm
    clear hR
    go_loopw [8] (fun i wr => ∃ k : Nat, k ≤ late.length + 1 ∧ i = .int .i64 k ∧ Hid (R = searchFrom so late.length k (late.length + 1 - k)) ∧ Below w5.heap.size w5 wr) (fun i _ => late.length + 1 - (intOf i).toNat)
    case atStart => exact ⟨0, Nat.zero_le _, rfl, HR0, Below.refl _ _⟩
    case round =>
      obtain ⟨k, hk, rfl, HR, hbw⟩ := hrel
      have hB := hB5.trans (hbw.mono hbz5)
      obtain ⟨c0, c1, c2, c3⟩ := box_four hB
      have hbz4 := box_size hB
      by_cases hlt : k ≤ late.length
      · have Ch := Lib.hid (Choices_any late.length k wr (by omega) (by omega) (by omega) (by omega))
        have hch : choices (late.length : Int) (k : Int) = choicesTo late.length k := rfl
        rw [hch] at Ch
        clear hch
        have HS1 := Lib.hid (fun (h : (choicesTo late.length k).find? so = none) => (HR.out.trans (by rw [show late.length + 1 - k = (late.length + 1 - (k + 1)) + 1 from by omega]; exact search_none h) : R = searchFrom so late.length (k + 1) (late.length + 1 - (k + 1))))
        have HS2 := Lib.hid (fun (l : List Int) (h : (choicesTo late.length k).find? so = some l) => (HR.out.trans (by rw [show late.length + 1 - k = (late.length + 1 - (k + 1)) + 1 from by omega]; exact search_some h) : R = some l))
        have HCL := Lib.hid (choicesTo_len late.length k)
        have HCB := Lib.hid (choicesTo_bd late.length k)
        clear HR HR0
        generalize choicesTo (late.length : Int) k = L at Ch HS1 HS2 HCL HCB
        go_wp2_with (go_at_call 86; go_must (refine Ch.out.mono ?_; rintro e w4 ⟨v, rfl, ⟨al, cl, rfl, hsl, hrl⟩, hb4⟩; have hbw4 := hbw.trans (hb4.mono hbw.size); have hB4 := hB5.trans (hbw4.mono hbz5); have hbz6 := box_size hB4; have hlL := hsl.len; dsimp only))
        clear c0 c1 c2 c3
        go_loopw [10] (fun i wr => ∃ j : Nat, j ≤ L.length ∧ i = .int .i64 j ∧ Hid (∀ x (_ : x < j) (h : x < L.length), so L[x] = false) ∧ Below w4.heap.size w4 wr) (fun i _ => L.length - (intOf i).toNat)
        case atStart => exact ⟨0, Nat.zero_le _, rfl, Lib.hid (fun j h => absurd h (Nat.not_lt_zero j)), Below.refl _ _⟩
        case round =>
          obtain ⟨wb, hwb⟩ : ∃ wb : World, wb = wr := ⟨_, rfl⟩
          subst hwb
          obtain ⟨j, hj, rfl, HP, hbw5⟩ := hrel
          have hbw45 := hbw4.trans (hbw5.mono hbw4.size)
          have hB6 := hB5.trans (hbw45.mono hbz5)
          have hbz7 := box_size hB6
          by_cases hjl : j < L.length
          · obtain ⟨b, off, a', c', rfl, hb0, hcell, hsi, hints⟩ := hrl j hjl
            have HN := Lib.hid (fun (h : so L[j] = false) => none_succ HP.out hjl h)
            have HH := Lib.hid (fun (h : so L[j] = true) => HS2.out _ (find_hit hjl HP.out h))
            have hll2 := HCL.out _ (List.getElem_mem hjl)
            have hlb2 := HCB.out _ (List.getElem_mem hjl)
            have hcw := cell_below hbw5 hcell
            have hintw := hints.mono hbw5
            generalize L[j] = l at hcell hcw hsi hints hintw HN HH hll2 hlb2
            have R2 := Lib.hid (fun (W : World) (ab : Option Addr) (cb : Nat) (h : Below w5.heap.size w5 W) hsb hib => R1.out W ab l cb h hlb2 hsb hib)
            generalize so l = bs at HN HH R2
            have HLL := Lib.hid hll2
            have hkl : k = l.length := hll2.symm
            clear hll2 hcell hints
            subst hkl
            go_wp2
            go_loopw [11, 12] (fun v i wr => ∃ t : Nat, t ≤ l.length ∧ i = .int .i64 t ∧ wr.ownsRow wb.heap.size 3 1 v t ((picks late (l.take t)).map (Value.int .i64)) ∧ Below wb.heap.size wb wr) (fun _ i _ => l.length - (intOf i).toNat)
            case atStart => exact ⟨0, Nat.zero_le _, rfl, World.ownsRow_nil _ _ _ _, Below.refl _ _⟩
            case round =>
              obtain ⟨t, ht, rfl, hown, hbw6⟩ := hrel
              have hbw56 := hbw45.trans (hbw6.mono hbw45.size)
              have hB7 := hB5.trans (hbw56.mono hbz5)
              obtain ⟨c0, c1, c2, c3⟩ := box_four hB7
              have hbz8 := box_size hB7
              have hz6 := hbw6.size
              by_cases htl : t < l.length
              · have hps := Lib.hid (picks_succ late l t htl)
                obtain ⟨b2, off2, rfl, hb2, hx⟩ := hintw t htl
                have hxb := hlb2 _ (List.getElem_mem htl)
                generalize l[t] = x at hps hx hxb
                obtain ⟨q, rfl⟩ := Int.eq_ofNat_of_zero_le hxb.1
                have hq : q < late.length := by omega
                obtain ⟨b3, off3, rfl, hb3', hy⟩ := hli q hq
                replace hps := Lib.hid (hps.out.trans (by simp only [Int.toNat_natCast]; rw [List.getElem?_eq_getElem hq, Option.getD_some]) : picks late (l.take (t + 1)) = picks late (l.take t) ++ [late[q]])
                generalize late[q] = y at hy hps
                generalize hP : picks late (l.take t) = P at hown hps
                have HPk := Lib.hid hP
                clear hP
                have hcw2 := cell_below hbw6 hcw
                have hx2 := cell_below hbw6 hx
                have hy2 := cell_below hbw56 hy
                have q1 := lt_of_cell hcw2
                have q2 := lt_of_cell hx2
                have q3 := lt_of_cell hy2
                go_wp2_with (at_builtin; go_must (refine wpList_app (.tmp 51) (.tmp 62) E_int rfl rfl rfl rfl wb.heap.size t 1 (P.map (Value.int .i64)) [.int .i64 y] (hown.alloc _) (SrcAt.one _ _ _ rfl) (by omega) (by decide) (by simp; omega) ?_; intro v2 w6 ho2 hg2 _; (have hb6 := app_next hbw6 (Nat.le_refl _) (Nat.le_refl _) hown hg2); clear hg2; simp only [Act.put, List.setIfInBounds_toArray, List.set_cons_succ, List.set_cons_zero]))
                go_roundw
                case rel => exact ⟨t + 1, by omega, by go_num, by rw [hps.out]; simpa using ho2, hb6⟩
                case measure => simp [intOf]; omega
              · obtain rfl : t = l.length := by omega
                rw [List.take_length] at hown
                obtain ⟨a6, c6, rfl, hs6, hi6⟩ := ints_ownV hown
                have D := Lib.hid (R2.out wr a6 c6 hbw56 hs6 hi6)
                cases bs
                · go_wp2_with (go_at_call 47; go_must (refine D.out.mono ?_; rintro e w7 ⟨rfl, hb7⟩; dsimp only))
                  go_roundw
                  case rel => exact ⟨j + 1, by omega, by go_num, Lib.hid (HN.out (by trivial)), hbw5.trans ((hbw6.trans (hb7.mono hbw6.size)).mono hbw5.size)⟩
                  case measure => simp [intOf]; omega
                · go_wp2_with (go_at_call 47; go_must (refine D.out.mono ?_; rintro e w7 ⟨rfl, hb7⟩; dsimp only))
                  go_ret2
                  have hr := HF.out
                  rw [HH.out (by trivial)] at hr
                  subst hr
                  exact ⟨_, rfl, ⟨_, _, rfl, hs6, hi6.mono hb7⟩, box_old (hB7.trans (hb7.mono hbz8))⟩
          · obtain rfl : j = L.length := by omega
            go_wp2
            go_roundw
            case rel => exact ⟨k + 1, by omega, by go_num, Lib.hid (HS1.out (find_none (fun i h => HP.out i h h))), hbw45⟩
            case measure => simp [intOf]; omega
      · obtain rfl : k = late.length + 1 := by omega
        go_wp2
        go_ret2
        have hr := HF.out
        have hr2 := HR.out
        simp only [Nat.sub_self, searchFrom] at hr2
        rw [hr2] at hr
        subst hr
        exact ⟨_, rfl, ⟨none, 0, rfl, ⟨Nat.le_refl _, by omega, fun _ => rfl⟩, IntsC.nil _ _⟩, box_old hB⟩
  · have h1 := nei_t h0
    replace HF := Lib.hid (HF.out.trans (if_neg h0))
    go_enter Try.func29, Try.ntmps29
    go_wp2_with (first
      | (go_at_call 76; go_must (refine (S.out _ (box_old hB2)).mono ?_; rintro e w3 ⟨v, rfl, hsv, hb3⟩; dsimp only))
      | (go_at_call 17; go_must (refine C.out.mono ?_; rintro e w2 ⟨rfl, hb⟩; have hB2 := hB0.trans (hb.mono (by simp)); obtain ⟨d0, d1, d2, d3⟩ := box_four hB2; have hbz2 := box_size hB2; dsimp only)))
    go_ret2
    have hr := HF.out
    subst hr
    exact ⟨_, rfl, ⟨none, 0, rfl, ⟨Nat.le_refl _, by omega, fun _ => rfl⟩, IntsC.nil _ _⟩, (box_old hB2).trans (hb3.mono (box_old hB2).size)⟩
end Go.Proofs.Ytnlolliankhfmaa
