/- What is proved here: contracts of the reference of layer 7: Some, Wrong. Conditions: valid lists. -/
import Derived.Test.YtnlolliankhfmaaRef7I
import Derived.Test.YtnlolliankhfmaaRef1C
set_option linter.unusedVariables false
set_option linter.unusedSimpArgs false
namespace Go.Proofs.Ytnlolliankhfmaa
open Go Go.RowKit

theorem held_keep {B b o : Nat} {wr W : World} {v0 v1 v2 v3 v4 : Value} (h : Below wr.heap.size wr W) (c0 : wr.cell? ⟨B, 0, none⟩ = some v0) (c1 : wr.cell? ⟨B, 1, none⟩ = some v1) (c2 : wr.cell? ⟨B, 2, none⟩ = some v2) (c3 : wr.cell? ⟨B, 3, none⟩ = some v3) (c4 : wr.cell? ⟨b, o, none⟩ = some v4) :
    Below wr.heap.size wr W ∧ W.cell? ⟨B, 0, none⟩ = some v0 ∧ W.cell? ⟨B, 1, none⟩ = some v1 ∧ W.cell? ⟨B, 2, none⟩ = some v2 ∧ W.cell? ⟨B, 3, none⟩ = some v3 ∧ W.cell? ⟨b, o, none⟩ = some v4 ∧ B < W.heap.size ∧ b < W.heap.size :=
  ⟨h, cell_below h c0, cell_below h c1, cell_below h c2, cell_below h c3, cell_below h c4, lt_of_cell (cell_below h c0), lt_of_cell (cell_below h c4)⟩
theorem held_next {wr W W' : World} {p : Prop} (h : Below wr.heap.size wr W ∧ p) (hb : Below W.heap.size W W') : Below wr.heap.size wr W' := h.1.trans (hb.mono h.1.size)

set_option maxHeartbeats 2000000 in
theorem SomeRight7_any (ac az aw ap : Option Addr) (cc cz cw cp : Nat) (m : MoList) (aL ab : Option Addr) (all : List (List Int)) (but : List Int) (cL cb : Nat) (w : World) (hm : ListC w ac az aw ap cc cz cw cp m) (hv : Valid m) (hso : SlOk aL all.length cL) (hr : RowsC w aL all) (hs : ∀ t ∈ all, t.length = m.sums.length) (hsb : SlOk ab but.length cb) (hib : IntsC w ab but) :
    Calls Try.prog 53 #[(.agg #[.slice ac m.claimants.length cc, .slice az m.sums.length cz, .slice aw m.words.length cw, .slice ap m.paid.length cp]), .slice aL all.length cL, .slice ab but.length cb] w fun e w' => e = .returned (.bool (someRight m all but)) ∧ Below w.heap.size w w' := by
  have hal := hso.len
  go_enter Try.func53, Try.ntmps53
  go_wp2
  go_loopw [7] (fun i wr => ∃ k : Nat, k ≤ all.length ∧ i = .int .i64 k ∧ Hid (∀ j (_ : j < k) (h : j < all.length), right m all[j] but = false) ∧ Below (w.heap.size + 1) (w.alloc (.cells #[.slice ac m.claimants.length cc, .slice az m.sums.length cz, .slice aw m.words.length cw, .slice ap m.paid.length cp] 27)) wr) (fun i _ => all.length - (intOf i).toNat)
  case atStart => exact ⟨0, Nat.zero_le _, rfl, Lib.hid (fun j h => absurd h (Nat.not_lt_zero j)), Below.refl _ _⟩
  case round =>
    obtain ⟨k, hk, rfl, HR, hB⟩ := hrel
    obtain ⟨c0, c1, c2, c3⟩ := box_four hB
    have hbz := box_size hB
    by_cases hlt : k < all.length
    · obtain ⟨b, off, a', c', rfl, hb0, hcell, hsl, hints⟩ := hr k hlt
      have HH := Lib.hid (fun (h : right m all[k] but = true) => (any_hit hlt h : someRight m all but = true))
      have hst := hs _ (List.getElem_mem hlt)
      have HN := Lib.hid (fun (h : right m all[k] but = false) => none_succ (so := fun t => right m t but) HR.out hlt h)
      have hcw := cell_below (box_old hB) hcell
      have R := Lib.hid (fun (W : World) (h : Below wr.heap.size wr W) => Right7_any ac az aw ap cc cz cw cp m a' ab all[k] but c' cb W (hm.mono ((box_old hB).trans (h.mono (box_old hB).size))) hv hsl (hints.mono ((box_old hB).trans (h.mono (box_old hB).size))) hst hsb (hib.mono ((box_old hB).trans (h.mono (box_old hB).size))))
      generalize right m all[k] but = br at R HH HN
      generalize all[k].length = tl at hsl hcell hcw R hst
      clear hcell hints hst
      have hBd := below_drew' (Below.refl wr.heap.size wr)
      cases br
      all_goals
        go_wp2
        go_region_held3 (fun W => Below wr.heap.size wr W ∧ W.cell? ⟨w.heap.size, 0, none⟩ = some (.slice ac m.claimants.length cc) ∧ W.cell? ⟨w.heap.size, 1, none⟩ = some (.slice az m.sums.length cz) ∧ W.cell? ⟨w.heap.size, 2, none⟩ = some (.slice aw m.words.length cw) ∧ W.cell? ⟨w.heap.size, 3, none⟩ = some (.slice ap m.paid.length cp) ∧ W.cell? ⟨b, off + k, none⟩ = some (.slice a' tl c') ∧ w.heap.size < W.heap.size ∧ b < W.heap.size) (exact held_keep (by assumption) c0 c1 c2 c3 hcw) (first
          | (go_at_call 94; refine (R.out _ (And.left (by assumption))).mono ?_; rintro e w2 ⟨rfl, hb⟩; have hB2 := held_next (by assumption) hb; dsimp only))
        have hB3 := hB.trans (hB2.mono hbz)
        go_wp2
      · go_roundw
        case rel => exact ⟨k + 1, by omega, by go_num, Lib.hid (HN.out (by trivial)), hB3⟩
        case measure => simp [intOf]; omega
      · go_ret
        exact ⟨ret_bool (HH.out (by trivial)).symm, box_old hB3⟩
    · obtain rfl : k = all.length := by omega
      go_wp2
      go_ret
      exact ⟨ret_bool (any_none (fun i h => HR.out i h h)).symm, box_old hB⟩

set_option maxRecDepth 100000 in
set_option maxHeartbeats 4000000 in
theorem Wrong7_any (ac az aw ap : Option Addr) (cc cz cw cp : Nat) (m : MoList) (w : World) (hm : ListC w ac az aw ap cc cz cw cp m) :
    Calls Try.prog 31 #[(.agg #[.slice ac m.claimants.length cc, .slice az m.sums.length cz, .slice aw m.words.length cw, .slice ap m.paid.length cp])] w fun e w' => ∃ v, e = .returned (.tuple #[v, .int .i64 (wrongOf m).2]) ∧ IntsV w' v (wrongOf m).1 ∧ Below w.heap.size w w' := by
  have HF : Hid (wrongOf m = if wholeErr m = 0 then ((searchFrom (someRight m (truths m)) m.paid.length 0 m.paid.length).getD ((choicesTo m.paid.length m.paid.length).headD []), 0) else ([], wholeErr m)) := rfl
  have HE : Hid (wholeErr m = someErr m (check m).2.2) := rfl
  have HV : Hid (wholeErr m = 0 → Valid m ∧ 0 < (truths m).length) := whole_valid
  have HC : Hid ((check m).2.2 = 0 → Valid m) := valid_of
  generalize wrongOf m = r at HF ⊢
  generalize wholeErr m = we at HF HE HV
  have hB0 := Below.refl (w.heap.size + 1) (w.alloc (.cells #[.slice ac m.claimants.length cc, .slice az m.sums.length cz, .slice aw m.words.length cw, .slice ap m.paid.length cp] 27))
  obtain ⟨c0, c1, c2, c3⟩ := box_four hB0
  have hbz := box_size hB0
  have C := Lib.hid (Check7_any ac az aw ap cc cz cw cp m (w.alloc (.cells #[.slice ac m.claimants.length cc, .slice az m.sums.length cz, .slice aw m.words.length cw, .slice ap m.paid.length cp] 27)) (hm.mono (box_old hB0)))
  generalize check m = x at C HE HC
  obtain ⟨x1, x2, x3⟩ := x
  simp only at C HE HC
  have S := Lib.hid (fun (W : World) (h : Below w.heap.size w W) => Some7_any ac az aw ap cc cz cw cp m x3 W (hm.mono h) HC.out)
  have hE := HE.out
  rw [← hE] at S
  clear hE HE
  by_cases h0 : we = 0
  · obtain ⟨hva, hpos⟩ := HV.out h0
    have h1 := nei_f h0
    replace HF := Lib.hid (HF.out.trans (if_pos h0))
    subst h0
    have hn := hva.np
    have hcp := hm.okp.len
    go_enter Try.func31, Try.ntmps31
    go_wp2_with (first
      | (go_at_call 76; go_must (refine (S.out _ (box_old hB2)).mono ?_; rintro e w3 ⟨v, rfl, hsv, hb3⟩; obtain ⟨a, c, rfl, hso, hrc⟩ := hsv.1 rfl; have hB3 := hB2.trans (hb3.mono hbz2); obtain ⟨e0, e1, e2, e3⟩ := box_four hB3; have hbz3 := box_size hB3; dsimp only))
      | (go_at_call 17; go_must (refine C.out.mono ?_; rintro e w2 ⟨rfl, hb⟩; have hB2 := hB0.trans (hb.mono (by simp)); obtain ⟨d0, d1, d2, d3⟩ := box_four hB2; have hbz2 := box_size hB2; dsimp only)))
    clear c0 c1 c2 c3 d0 d1 d2 d3 e0 e1 e2 e3
    have R1 := Lib.hid (fun (W : World) (ab : Option Addr) (but : List Int) (cb : Nat) (h : Below w3.heap.size w3 W) hsb hib => SomeRight7_any ac az aw ap cc cz cw cp m a ab (truths m) but c cb W (hm.mono ((box_old hB3).trans (h.mono (box_old hB3).size))) hva hso (hrc.mono h) (truths_len m) hsb hib)
    generalize hT : (truths m).length = T at *
    clear hT
    generalize someRight m (truths m) = so at R1 HF
    generalize hR : searchFrom so m.paid.length 0 m.paid.length = R at HF
    have HR0 := Lib.hid hR.symm
    clear hR
    go_loopw [8] (fun i wr => ∃ k : Nat, k ≤ m.paid.length ∧ i = .int .i64 k ∧ Hid (R = searchFrom so m.paid.length k (m.paid.length - k)) ∧ Below w3.heap.size w3 wr) (fun i _ => m.paid.length - (intOf i).toNat)
    case atStart => exact ⟨0, Nat.zero_le _, rfl, HR0, Below.refl _ _⟩
    case round =>
      obtain ⟨k, hk, rfl, HR, hbw⟩ := hrel
      have hB := hB3.trans (hbw.mono hbz3)
      obtain ⟨c0, c1, c2, c3⟩ := box_four hB
      have hbz4 := box_size hB
      by_cases hlt : k < m.paid.length
      · have Ch := Lib.hid (Choices_any m.paid.length k wr (by omega) (by omega) (by omega) (by omega))
        have hch : choices (m.paid.length : Int) (k : Int) = choicesTo m.paid.length k := rfl
        rw [hch] at Ch
        clear hch
        have HS1 := Lib.hid (fun (h : (choicesTo m.paid.length k).find? so = none) => (HR.out.trans (by rw [show m.paid.length - k = (m.paid.length - (k + 1)) + 1 from by omega]; exact search_none h) : R = searchFrom so m.paid.length (k + 1) (m.paid.length - (k + 1))))
        have HS2 := Lib.hid (fun (l : List Int) (h : (choicesTo m.paid.length k).find? so = some l) => (HR.out.trans (by rw [show m.paid.length - k = (m.paid.length - (k + 1)) + 1 from by omega]; exact search_some h) : R = some l))
        clear HR HR0
        generalize choicesTo (m.paid.length : Int) k = L at Ch HS1 HS2
        go_wp2_with (go_at_call 86; go_must (refine Ch.out.mono ?_; rintro e w4 ⟨v, rfl, ⟨al, cl, rfl, hsl, hrl⟩, hb4⟩; have hbw4 := hbw.trans (hb4.mono hbw.size); have hB4 := hB3.trans (hbw4.mono hbz3); have hbz5 := box_size hB4; have hll := hsl.len; dsimp only))
        clear c0 c1 c2 c3
        go_loopw [10] (fun i wr => ∃ j : Nat, j ≤ L.length ∧ i = .int .i64 j ∧ Hid (∀ x (_ : x < j) (h : x < L.length), so L[x] = false) ∧ Below w4.heap.size w4 wr) (fun i _ => L.length - (intOf i).toNat)
        case atStart => exact ⟨0, Nat.zero_le _, rfl, Lib.hid (fun j h => absurd h (Nat.not_lt_zero j)), Below.refl _ _⟩
        case round =>
          obtain ⟨wb, hwb⟩ : ∃ wb : World, wb = wr := ⟨_, rfl⟩
          subst hwb
          obtain ⟨j, hj, rfl, HP, hbw5⟩ := hrel
          have hB5 := hB4.trans (hbw5.mono hbz5)
          have hbw35 := hbw4.trans (hbw5.mono hbw4.size)
          obtain ⟨c0, c1, c2, c3⟩ := box_four hB5
          have hbz6 := box_size hB5
          by_cases hjl : j < L.length
          · obtain ⟨b, off, a', c', rfl, hb0, hcell, hsi, hints⟩ := hrl j hjl
            have HN := Lib.hid (fun (h : so L[j] = false) => none_succ HP.out hjl h)
            have HH := Lib.hid (fun (h : so L[j] = true) => HS2.out _ (find_hit hjl HP.out h))
            have R2 := Lib.hid (fun (W : World) (h : Below wb.heap.size wb W) => R1.out W a' L[j] c' (hbw35.trans (h.mono hbw35.size)) hsi (hints.mono (hbw5.trans (h.mono hbw5.size))))
            have hcw := cell_below hbw5 hcell
            generalize L[j] = l at hcell hcw hsi hints HN HH R2
            generalize so l = bs at HN HH R2
            have hBd := below_drew' (Below.refl wb.heap.size wb)
            cases bs
            all_goals
              go_wp2
              go_region_held3 (fun W => Below wb.heap.size wb W ∧ W.cell? ⟨w.heap.size, 0, none⟩ = some (.slice ac m.claimants.length cc) ∧ W.cell? ⟨w.heap.size, 1, none⟩ = some (.slice az m.sums.length cz) ∧ W.cell? ⟨w.heap.size, 2, none⟩ = some (.slice aw m.words.length cw) ∧ W.cell? ⟨w.heap.size, 3, none⟩ = some (.slice ap m.paid.length cp) ∧ W.cell? ⟨b, off + j, none⟩ = some (.slice a' l.length c') ∧ w.heap.size < W.heap.size ∧ b < W.heap.size) (exact held_keep (by assumption) c0 c1 c2 c3 hcw) (first
                | (go_at_call 53; refine (R2.out _ (And.left (by assumption))).mono ?_; rintro e w6 ⟨rfl, hb6⟩; have hB6 := held_next (by assumption) hb6; dsimp only))
              have hB7 := hB5.trans (hB6.mono hbz6)
              have hcx := cell_below hB6 hcw
              have hbx := lt_of_cell hcx
              go_wp2
            · go_roundw
              case rel => exact ⟨j + 1, by omega, by go_num, Lib.hid (HN.out (by trivial)), hbw5.trans (hB6.mono hbw5.size)⟩
              case measure => simp [intOf]; omega
            · go_ret2
              have hr := HF.out
              rw [HH.out (by trivial)] at hr
              subst hr
              exact ⟨_, rfl, ⟨_, _, rfl, hsi, hints.mono (hbw5.trans (hB6.mono hbw5.size))⟩, box_old hB7⟩
          · obtain rfl : j = L.length := by omega
            go_wp2
            go_roundw
            case rel => exact ⟨k + 1, by omega, by go_num, Lib.hid (HS1.out (find_none (fun i h => HP.out i h h))), hbw35⟩
            case measure => simp [intOf]; omega
      · obtain rfl : k = m.paid.length := by omega
        have Ch := Lib.hid (Choices_any m.paid.length m.paid.length wr (by omega) (by omega) (by omega) (by omega))
        have hch : choices (m.paid.length : Int) (m.paid.length : Int) = choicesTo m.paid.length m.paid.length := rfl
        have hcpos := choices_all m.paid.length hn
        rw [hch] at Ch
        clear hch
        generalize choicesTo (m.paid.length : Int) m.paid.length = L at Ch HF hcpos
        rw [headD_get (d := []) _ hcpos] at HF
        go_wp2_with (go_at_call 86; go_must (refine Ch.out.mono ?_; rintro e w4 ⟨v, rfl, ⟨al, cl, rfl, hsl, hrl⟩, hb4⟩; have hbw4 := hbw.trans (hb4.mono hbw.size); have hB4 := hB3.trans (hbw4.mono hbz3); obtain ⟨b, off, a', c', rfl, hb6, hcell, hsi, hints⟩ := hrl 0 hcpos; simp only [Nat.add_zero] at hcell; have hl5 := hsl.len; dsimp only))
        go_ret2
        have hr := HF.out
        have hr2 := HR.out
        simp only [Nat.sub_self, searchFrom] at hr2
        rw [hr2] at hr
        subst hr
        exact ⟨_, rfl, ⟨_, _, rfl, hsi, hints⟩, box_old hB4⟩
  · have h1 := nei_t h0
    replace HF := Lib.hid (HF.out.trans (if_neg h0))
    go_enter Try.func31, Try.ntmps31
    go_wp2_with (first
      | (go_at_call 76; go_must (refine (S.out _ (box_old hB2)).mono ?_; rintro e w3 ⟨v, rfl, hsv, hb3⟩; dsimp only))
      | (go_at_call 17; go_must (refine C.out.mono ?_; rintro e w2 ⟨rfl, hb⟩; have hB2 := hB0.trans (hb.mono (by simp)); obtain ⟨d0, d1, d2, d3⟩ := box_four hB2; have hbz2 := box_size hB2; dsimp only)))
    go_ret2
    have hr := HF.out
    subst hr
    exact ⟨_, rfl, ⟨none, 0, rfl, ⟨Nat.le_refl _, by omega, fun _ => rfl⟩, IntsC.nil _ _⟩, (box_old hB2).trans (hb3.mono (box_old hB2).size)⟩
end Go.Proofs.Ytnlolliankhfmaa
