/- What is proved here: contracts of the reference of layer 7: Late, Paid, Due, Held. Conditions: small lists. -/
import Derived.Test.YtnlolliankhfmaaRefC
import Derived.Test.YtnlolliankhfmaaPlain
set_option linter.unusedVariables false
set_option linter.unusedSimpArgs false
namespace Go.Proofs.Ytnlolliankhfmaa
open Go Go.RowKit

set_option maxHeartbeats 2000000 in
theorem Late7_any (ac az aw ap : Option Addr) (cc cz cw cp : Nat) (m : MoList) (w : World) (hm : ListC w ac az aw ap cc cz cw cp m) (hz : m.words.length ≤ 1000) :
    Calls Try.prog 45 #[(.agg #[.slice ac m.claimants.length cc, .slice az m.sums.length cz, .slice aw m.words.length cw, .slice ap m.paid.length cp])] w fun e w' => ∃ v, e = .returned v ∧ IntsV w' v (lateWords m) ∧ Below w.heap.size w w' := by
  obtain ⟨p, hp⟩ : ∃ p : Nat → Bool, p = fun (i : Nat) => match m.words[i]? with | some w => !w.came | none => false := ⟨_, rfl⟩
  have hW : Hid (lateWords m = ((List.range m.words.length).filter p).map (fun (c : Nat) => (c : Int))) := by rw [hp]; exact (rfl : lateWords m = _)
  generalize lateWords m = r at hW ⊢
  have HP := Lib.hid hp
  clear hp
  go_enter Try.func45, Try.ntmps45
  go_wp2
  go_loopw [3, 4] (fun o i wr => ∃ (c : Nat), c ≤ m.words.length ∧ i = .int .i64 c ∧ wr.ownsRow (w.heap.size + 1) 3 1 o (((List.range c).filter p).map (fun (c : Nat) => (c : Int))).length ((((List.range c).filter p).map (fun (c : Nat) => (c : Int))).map (Value.int .i64)) ∧ Below (w.heap.size + 1) (w.alloc (.cells #[.slice ac m.claimants.length cc, .slice az m.sums.length cz, .slice aw m.words.length cw, .slice ap m.paid.length cp] 27)) wr) (fun _ i _ => m.words.length - (intOf i).toNat)
  case atStart => exact ⟨0, Nat.zero_le _, rfl, World.ownsRow_nil _ _ _ _, Below.refl _ _⟩
  case round =>
    obtain ⟨c, hc, rfl, hown, hB⟩ := hrel
    obtain ⟨c0, c1, c2, c3⟩ := box_four hB
    have hbz := box_size hB
    have hB1 := hB.size
    simp at hB1
    by_cases hlt : c < m.words.length
    · have hst := Lib.hid (keep_succ p c)
      have hkl := keep_len p c
      generalize hL : ((List.range c).filter p).map (fun (c : Nat) => (c : Int)) = L at hown hst hkl
      clear hL
      obtain ⟨b, off, rfl, hb, _, _, _, _, h5⟩ := (hm.mono (box_old hB)).words c hlt
      have hpc : Hid (p c = !m.words[c].came) := by rw [HP.out]; show (match m.words[c]? with | some w => !w.came | none => false) = _; rw [List.getElem?_eq_getElem hlt]
      generalize m.words[c].came = bc at h5 hpc
      cases bc
      · have hpc2 := Lib.hid (hpc.out.trans rfl : p c = true)
        clear hpc
        rw [hpc2.out] at hst
        go_wp2_with (at_builtin; go_must (refine wpList_app (.tmp 19) (.tmp 21) E_int rfl rfl rfl rfl (w.heap.size + 1) L.length 1 (L.map (Value.int .i64)) [.int .i64 (c : Int)] (hown.alloc _) (SrcAt.one _ _ _ rfl) (by omega) (by decide) (by simp; omega) ?_; intro v2 w3 ho2 hg2 _; (have hb2 := app_next hB (by simp) (Nat.le_refl _) hown hg2); clear hg2; simp only [Act.put, List.setIfInBounds_toArray, List.set_cons_succ, List.set_cons_zero]))
        go_roundw
        case rel => exact ⟨c + 1, by omega, by go_num, by rw [hst.out]; simpa using ho2, hb2⟩
        case measure => simp [intOf]; omega
      · have hpc2 := Lib.hid (hpc.out.trans rfl : p c = false)
        clear hpc
        rw [hpc2.out] at hst
        go_wp2
        go_roundw
        case rel => exact ⟨c + 1, by omega, by go_num, by rw [hst.out]; simpa using hown, hB⟩
        case measure => simp [intOf]; omega
    · obtain rfl : c = m.words.length := by omega
      go_wp2
      go_ret
      exact ⟨_, rfl, by rw [hW.out]; exact ints_ownV hown, box_old hB⟩

set_option maxHeartbeats 2000000 in
theorem Paid7_any (ac az aw ap : Option Addr) (cc cz cw cp : Nat) (m : MoList) (s : Int) (w : World) (hm : ListC w ac az aw ap cc cz cw cp m) :
    Calls Try.prog 91 #[(.agg #[.slice ac m.claimants.length cc, .slice az m.sums.length cz, .slice aw m.words.length cw, .slice ap m.paid.length cp]), .int .i64 s] w fun e w' => e = .returned (.bool (paidB m s)) ∧ Below w.heap.size w w' := by
  have l4 := hm.okp.len
  obtain ⟨F, hF⟩ : ∃ F : Nat → Bool, F = fun j => (m.paid.take j).any fun p => decide (p.sum = s) := ⟨_, rfl⟩
  have F0 : Hid (F 0 = false) := by rw [hF]; exact (rfl : _ = false)
  have Fs : Hid (∀ j (h : j < m.paid.length), F (j+1) = (F j || decide (m.paid[j].sum = s))) := by intro j h; simp only [hF]; exact any_take_succ _ _ _ h
  have Fe : Hid (F m.paid.length = paidB m s) := by rw [hF]; show (m.paid.take m.paid.length).any _ = _; rw [List.take_length]; rfl
  clear hF
  rw [← Fe.out]
  have hB := Below.refl (w.heap.size + 1) (w.alloc (.cells #[.slice ac m.claimants.length cc, .slice az m.sums.length cz, .slice aw m.words.length cw, .slice ap m.paid.length cp] 27))
  obtain ⟨c0, c1, c2, c3⟩ := box_four hB
  have hbz := box_size hB
  go_enter Try.func91, Try.ntmps91
  go_wp2
  go_loop [5, 6] (fun x i => ∃ j : Nat, j ≤ m.paid.length ∧ i = .int .i64 j ∧ x = .bool (F j)) (fun _ i => m.paid.length - (intOf i).toNat)
  case atStart => exact ⟨0, Nat.zero_le _, rfl, val_bool F0.out.symm⟩
  case round =>
    obtain ⟨j, hj, rfl, rfl⟩ := hrel
    by_cases hlt : j < m.paid.length
    · obtain ⟨b', off', rfl, hb', g1, _⟩ := (hm.mono (box_old hB)).paid j hlt
      have H := Lib.hid (Fs.out j hlt)
      generalize F j = c at H ⊢
      generalize m.paid[j].sum = x at H g1
      by_cases hx : x = s
      all_goals (first | have hx2 := eqi_t hx | have hx2 := eqi_f hx)
      all_goals cases c
      all_goals go_wp2
      all_goals go_round
      all_goals try (simp [intOf]; omega; done)
      all_goals exact ⟨j+1, by omega, by go_num, val_bool (by rw [H.out]; simp [hx])⟩
    · go_wp2
      go_ret
      exact ⟨ret_bool (by congr 1; omega), by go_grown⟩

set_option maxHeartbeats 2000000 in
theorem Due7_any (ac az aw ap : Option Addr) (cc cz cw cp : Nat) (m : MoList) (a : Option Addr) (t : List Int) (ct : Nat) (s : Int) (w : World) (hm : ListC w ac az aw ap cc cz cw cp m) (hv : Valid m) (hso : SlOk a t.length ct) (hi : IntsC w a t) (ht : t.length = m.sums.length) :
    Calls Try.prog 40 #[(.agg #[.slice ac m.claimants.length cc, .slice az m.sums.length cz, .slice aw m.words.length cw, .slice ap m.paid.length cp]), .slice a t.length ct, .int .i64 s] w fun e w' => e = .returned (.int .i64 (dueOf m t s)) ∧ Below w.heap.size w w' := by
  have v2 := hv.nz
  have hG : Hid (dueOf m t s = dueTo m t s t.length) := rfl
  have hB := Below.refl (w.heap.size + 1) (w.alloc (.cells #[.slice ac m.claimants.length cc, .slice az m.sums.length cz, .slice aw m.words.length cw, .slice ap m.paid.length cp] 27))
  obtain ⟨c0, c1, c2, c3⟩ := box_four hB
  have hbz := box_size hB
  go_enter Try.func40, Try.ntmps40
  go_wp2
  go_loop [7, 8] (fun x i => ∃ j : Nat, j ≤ t.length ∧ i = .int .i64 j ∧ x = .int .i64 (dueTo m t s j)) (fun _ i => t.length - (intOf i).toNat)
  case atStart => exact ⟨0, Nat.zero_le _, rfl, rfl⟩
  case round =>
    obtain ⟨j, hj, rfl, rfl⟩ := hrel
    by_cases hlt : j < t.length
    · have hlz : j < m.sums.length := by omega
      obtain ⟨b', off', e', hb', g1⟩ := hi j hlt
      subst e'
      obtain ⟨b, off, rfl, hb, _, z2, _⟩ := (hm.mono (box_old hB)).sums j hlz
      have hbd := dueTo_bd m hv t s j
      have hpb := (hv.sums j hlz).1
      have H := Lib.hid (show dueTo m t s (j+1) = dueTo m t s j + (if t[j] = s then m.sums[j].pence else 0) by rw [dueTo]; simp [penceAt, hlt, hlz])
      have g1 := cell_below (box_old hB) g1
      have hb2 := lt_of_cell g1
      generalize dueTo m t s j = d at H hbd ⊢
      generalize m.sums[j].pence = pe at z2 H hpb
      generalize t[j] = x at H g1
      have hLt := Lib.hid ht
      clear ht
      by_cases hx : x = s
      all_goals (first | have hx2 := eqi_t hx | have hx2 := eqi_f hx)
      all_goals go_wp2
      all_goals go_round
      all_goals try (simp [intOf]; omega; done)
      all_goals exact ⟨j+1, by omega, by go_num, val_int (by rw [H.out]; simp [hx])⟩
    · go_wp2
      go_ret
      exact ⟨ret_int (by rw [hG.out]; congr 1; omega), by go_grown⟩

set_option maxHeartbeats 2000000 in
theorem Held7_any (ac az aw ap : Option Addr) (cc cz cw cp : Nat) (m : MoList) (w : World) (hm : ListC w ac az aw ap cc cz cw cp m) :
    Calls Try.prog 27 #[(.agg #[.slice ac m.claimants.length cc, .slice az m.sums.length cz, .slice aw m.words.length cw, .slice ap m.paid.length cp])] w fun e w' => ∃ v, e = .returned (.tuple #[v, .int .i64 (heldOf m).2]) ∧ IntsV w' v (heldOf m).1 ∧ Below w.heap.size w w' := by
  have HF : Hid (heldOf m = if wholeErr m = 0 then (unsure m (truths m), 0) else ([], wholeErr m)) := rfl
  have HE : Hid (wholeErr m = someErr m (check m).2.2) := rfl
  have HV : Hid (wholeErr m = 0 → Valid m ∧ 0 < (truths m).length) := whole_valid
  have HC : Hid ((check m).2.2 = 0 → Valid m) := valid_of
  generalize heldOf m = r at HF ⊢
  generalize wholeErr m = we at HF HE HV
  have hB0 := Below.refl (w.heap.size + 1) (w.alloc (.cells #[.slice ac m.claimants.length cc, .slice az m.sums.length cz, .slice aw m.words.length cw, .slice ap m.paid.length cp] 27))
  obtain ⟨c0, c1, c2, c3⟩ := box_four hB0
  have hbz := box_size hB0
  have C := Lib.hid (Check7_any ac az aw ap cc cz cw cp m (w.alloc (.cells #[.slice ac m.claimants.length cc, .slice az m.sums.length cz, .slice aw m.words.length cw, .slice ap m.paid.length cp] 27)) (hm.mono (box_old hB0)))
  generalize check m = x at C HE HC
  obtain ⟨x1, x2, x3⟩ := x
  simp only at C HE HC
  have S := Lib.hid (fun (W : World) (h : Below w.heap.size w W) => Some7_any ac az aw ap cc cz cw cp m x3 W (hm.mono h) HC.out)
  have hE := HE.out
  rw [← hE] at S
  clear hE HE
  by_cases h0 : we = 0
  · obtain ⟨hva, hpos⟩ := HV.out h0
    replace HF := Lib.hid (HF.out.trans (if_pos h0))
    subst h0
    have hn := hva.nc
    have hz := hva.nz
    have U := Lib.hid (fun (W : World) (a : Option Addr) (c : Nat) (h : Below w.heap.size w W) h1 h2 => Unsure7_any ac az aw ap cc cz cw cp m a (truths m) c W (hm.mono h) h1 h2 (fun t ht => by have := truths_len m t ht; omega) (by omega) (by omega))
    go_enter Try.func27, Try.ntmps27
    go_wp2_with (first
      | (go_at_call 82; go_must (refine (U.out _ _ _ (box_old hB3) hso hrc).mono ?_; rintro e w4 ⟨v, rfl, hv4, hb4⟩; dsimp only))
      | (go_at_call 76; go_must (refine (S.out _ (box_old hB2)).mono ?_; rintro e w3 ⟨v, rfl, hsv, hb3⟩; obtain ⟨a, c, rfl, hso, hrc⟩ := hsv.1 rfl; have hB3 := hB2.trans (hb3.mono hbz2); obtain ⟨e0, e1, e2, e3⟩ := box_four hB3; have hbz3 := box_size hB3; dsimp only))
      | (go_at_call 17; go_must (refine C.out.mono ?_; rintro e w2 ⟨rfl, hb⟩; have hB2 := hB0.trans (hb.mono (by simp)); obtain ⟨d0, d1, d2, d3⟩ := box_four hB2; have hbz2 := box_size hB2; dsimp only)))
    go_ret2
    have hr := HF.out
    subst hr
    exact ⟨_, rfl, hv4, (box_old hB3).trans (hb4.mono (box_old hB3).size)⟩
  · have h1 := nei_t h0
    replace HF := Lib.hid (HF.out.trans (if_neg h0))
    go_enter Try.func27, Try.ntmps27
    go_wp2_with (first
      | (go_at_call 76; go_must (refine (S.out _ (box_old hB2)).mono ?_; rintro e w3 ⟨v, rfl, hsv, hb3⟩; dsimp only))
      | (go_at_call 17; go_must (refine C.out.mono ?_; rintro e w2 ⟨rfl, hb⟩; have hB2 := hB0.trans (hb.mono (by simp)); obtain ⟨d0, d1, d2, d3⟩ := box_four hB2; have hbz2 := box_size hB2; dsimp only)))
    go_ret2
    have hr := HF.out
    subst hr
    exact ⟨_, rfl, ⟨none, 0, rfl, ⟨Nat.le_refl _, by omega, fun _ => rfl⟩, IntsC.nil _ _⟩, (box_old hB2).trans (hb3.mono (box_old hB2).size)⟩
end Go.Proofs.Ytnlolliankhfmaa
