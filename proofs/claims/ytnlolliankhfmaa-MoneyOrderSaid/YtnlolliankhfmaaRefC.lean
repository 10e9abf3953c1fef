/- What is proved here: contracts of the reference of layer 7: some, asked, First. Condition: where there is no error, the list is valid. -/
/- What is proved here: contracts of the reference of layer 7: whom, Unsure. Conditions: the truths are long enough, few claimants. -/
/- What is proved here: contracts of the reference of layer 7: For, Pay, Held. No condition. -/
import Derived.Test.YtnlolliankhfmaaRefA
import Derived.Test.YtnlolliankhfmaaRefB
import Derived.Test.YtnlolliankhfmaaPlain
import Derived.Test.YtnlolliankhfmaaGround
import Derived.Deep.RegionHeld3
set_option linter.unusedVariables false
set_option linter.unusedSimpArgs false
namespace Go.Proofs.Ytnlolliankhfmaa
open Go Go.RowKit

theorem headD_get {α : Type} {d : α} (l : List α) (h : 0 < l.length) : l.headD d = l[0] := by cases l <;> first | rfl | (simp at h)

/-- Some truths in memory, where there is no error. -/
def SomeV (w : World) (v : Value) (m : MoList) (e : Int) : Prop := (e = 0 → RowsV w v (truths m)) ∧ (e ≠ 0 → v = .slice none 0 0)
theorem SomeV.mono {w W : World} {v : Value} {m : MoList} {e : Int} (h : SomeV w v m e) (hb : Below w.heap.size w W) : SomeV W v m e := ⟨fun h0 => (h.1 h0).mono hb, h.2⟩

set_option maxHeartbeats 1000000 in
theorem Some7_any (ac az aw ap : Option Addr) (cc cz cw cp : Nat) (m : MoList) (e0 : Int) (w : World) (hm : ListC w ac az aw ap cc cz cw cp m) (hv : e0 = 0 → Valid m) :
    Calls Try.prog 76 #[(.agg #[.slice ac m.claimants.length cc, .slice az m.sums.length cz, .slice aw m.words.length cw, .slice ap m.paid.length cp]), .int .i64 e0] w fun e w' => ∃ v, e = .returned (.tuple #[v, .int .i64 (someErr m e0)]) ∧ SomeV w' v m (someErr m e0) ∧ Below w.heap.size w w' := by
  have HS : Hid (someErr m e0 = if e0 = 0 then (if (truths m).length = 0 then 8 else 0) else e0) := rfl
  generalize someErr m e0 = r at HS ⊢
  by_cases h0 : e0 = 0
  · have h1 := nei_f h0
    have hva := hv h0
    replace HS := Lib.hid (HS.out.trans (if_pos h0))
    subst h0
    clear hv
    have T := fun (W : World) hm => Truths7_any ac az aw ap cc cz cw cp m W hm hva
    have HT : Hid (truths m = truths m) := rfl
    have hB0 := Below.refl (w.heap.size + 1) (w.alloc (.cells #[.slice ac m.claimants.length cc, .slice az m.sums.length cz, .slice aw m.words.length cw, .slice ap m.paid.length cp] 27))
    obtain ⟨c0, c1, c2, c3⟩ := box_four hB0
    have hbz := box_size hB0
    by_cases hl : (truths m).length = 0
    · replace HS := Lib.hid (HS.out.trans (if_pos hl))
      have HL := Lib.hid hl
      clear hl
      go_enter Try.func76, Try.ntmps76
      go_wp2_with (go_at_call 39; refine (T _ (hm.mono (box_old hB0))).mono ?_; rintro e w2 ⟨v, rfl, ⟨a, c, rfl, hso, hrc⟩, hb⟩; have hn := HL.out; dsimp only; simp only [hn] at *)
      go_ret2
      have := HS.out
      subst this
      exact ⟨_, rfl, ⟨fun h => by simp at h, fun _ => rfl⟩, box_old (hB0.trans (hb.mono (by simp)))⟩
    · replace HS := Lib.hid (HS.out.trans (if_neg hl))
      have hln : ((truths m).length : Int) ≠ 0 := by omega
      go_enter Try.func76, Try.ntmps76
      go_wp2_with (go_at_call 39; refine (T _ (hm.mono (box_old hB0))).mono ?_; rintro e w2 ⟨v, rfl, ⟨a, c, rfl, hso, hrc⟩, hb⟩; dsimp only)
      go_ret2
      obtain rfl : r = 0 := HS.out
      exact ⟨_, rfl, ⟨fun _ => ⟨_, _, rfl, hso, hrc⟩, fun h => absurd rfl h⟩, box_old (hB0.trans (hb.mono (by simp)))⟩
  · have h1 := nei_t h0
    replace HS := Lib.hid (HS.out.trans (if_neg h0))
    go_enter Try.func76, Try.ntmps76
    go_wp2
    go_ret2
    have := HS.out
    subst this
    exact ⟨_, rfl, ⟨fun h => absurd h h0, fun _ => rfl⟩, by go_grown⟩

set_option maxHeartbeats 1000000 in
theorem Asked7_any (ac az aw ap : Option Addr) (cc cz cw cp : Nat) (m : MoList) (n below : Int) (w : World) (hm : ListC w ac az aw ap cc cz cw cp m) (hb0 : 0 ≤ below) (hb1 : below ≤ 9223372036854775807) :
    Calls Try.prog 78 #[(.agg #[.slice ac m.claimants.length cc, .slice az m.sums.length cz, .slice aw m.words.length cw, .slice ap m.paid.length cp]), .int .i64 n, .int .i64 below] w fun e w' => e = .returned (.int .i64 (askedErr m n below)) ∧ Below w.heap.size w w' := by
  have HS : Hid (askedErr m n below = if (check m).2.2 = 0 then (if inB n 0 (below - 1) then 0 else 4) else (check m).2.2) := rfl
  generalize askedErr m n below = r at HS ⊢
  have hB0 := Below.refl (w.heap.size + 1) (w.alloc (.cells #[.slice ac m.claimants.length cc, .slice az m.sums.length cz, .slice aw m.words.length cw, .slice ap m.paid.length cp] 27))
  obtain ⟨c0, c1, c2, c3⟩ := box_four hB0
  have hbz := box_size hB0
  have C := Lib.hid (Check7_any ac az aw ap cc cz cw cp m (w.alloc (.cells #[.slice ac m.claimants.length cc, .slice az m.sums.length cz, .slice aw m.words.length cw, .slice ap m.paid.length cp] 27)) (hm.mono (box_old hB0)))
  generalize check m = x at HS C
  obtain ⟨x1, x2, x3⟩ := x
  simp only at HS C
  have I := fun w' => In_any n 0 (below - 1) w'
  generalize inB n 0 (below - 1) = b at HS I
  have I := Lib.hid I
  by_cases h0 : x3 = 0
  · have h1 := eqi_t h0
    replace HS := Lib.hid (HS.out.trans (if_pos h0))
    clear h0
    cases b
    all_goals
      go_enter Try.func78, Try.ntmps78
      go_wp2_with (first
        | (go_at_call 71; refine (I.out _).mono ?_; rintro e w3 ⟨rfl, hw3⟩; obtain rfl := hw3.symm; dsimp only)
        | (go_at_call 17; refine C.out.mono ?_; rintro e w2 ⟨rfl, hb⟩; dsimp only))
      go_ret
      have := HS.out
      subst this
      exact ⟨by first | rfl | (have := h1; simp at this; simp [this]), box_old (hB0.trans (hb.mono (by simp)))⟩
  · have h1 := eqi_f h0
    replace HS := Lib.hid (HS.out.trans (if_neg h0))
    clear h0
    go_enter Try.func78, Try.ntmps78
    go_wp2_with (go_at_call 17; refine C.out.mono ?_; rintro e w2 ⟨rfl, hb⟩; dsimp only)
    go_ret
    have := HS.out
    subst this
    exact ⟨rfl, box_old (hB0.trans (hb.mono (by simp)))⟩

set_option maxHeartbeats 1000000 in
theorem First7_any (ac az aw ap : Option Addr) (cc cz cw cp : Nat) (m : MoList) (w : World) (hm : ListC w ac az aw ap cc cz cw cp m) :
    Calls Try.prog 19 #[(.agg #[.slice ac m.claimants.length cc, .slice az m.sums.length cz, .slice aw m.words.length cw, .slice ap m.paid.length cp])] w fun e w' => ∃ v, e = .returned (.tuple #[v, .int .i64 (firstOf m).2.1, .int .i64 (firstOf m).2.2]) ∧ IntsV w' v (firstOf m).1 ∧ Below w.heap.size w w' := by
  have HF : Hid (firstOf m = if wholeErr m = 0 then ((truths m).headD [], ((truths m).length : Int), 0) else ([], 0, wholeErr m)) := rfl
  have HE : Hid (wholeErr m = someErr m (check m).2.2) := rfl
  have HV : Hid (wholeErr m = 0 → 0 < (truths m).length) := fun h => (whole_valid h).2
  have HC : Hid ((check m).2.2 = 0 → Valid m) := valid_of
  generalize firstOf m = r at HF ⊢
  generalize wholeErr m = we at HF HE HV
  have hB0 := Below.refl (w.heap.size + 1) (w.alloc (.cells #[.slice ac m.claimants.length cc, .slice az m.sums.length cz, .slice aw m.words.length cw, .slice ap m.paid.length cp] 27))
  obtain ⟨c0, c1, c2, c3⟩ := box_four hB0
  have hbz := box_size hB0
  have C := Lib.hid (Check7_any ac az aw ap cc cz cw cp m (w.alloc (.cells #[.slice ac m.claimants.length cc, .slice az m.sums.length cz, .slice aw m.words.length cw, .slice ap m.paid.length cp] 27)) (hm.mono (box_old hB0)))
  generalize check m = x at C HE HC
  obtain ⟨x1, x2, x3⟩ := x
  simp only at C HE HC
  have S := Lib.hid (fun (W : World) (h : Below w.heap.size w W) => Some7_any ac az aw ap cc cz cw cp m x3 W (hm.mono h) HC.out)
  have hE := HE.out
  rw [← hE] at S
  clear hE HE
  by_cases h0 : we = 0
  · have hpos := HV.out h0
    replace HF := Lib.hid (HF.out.trans (if_pos h0))
    subst h0
    have hT := headD_get (d := []) (truths m) hpos
    rw [hT] at HF
    go_enter Try.func19, Try.ntmps19
    go_wp2_with (first
      | (go_at_call 76; go_must (refine (S.out _ (box_old hB2)).mono ?_; rintro e w3 ⟨v, rfl, hsv, hb3⟩; obtain ⟨a, c, rfl, hso, hrc⟩ := hsv.1 rfl; obtain ⟨b, off, a', c', rfl, hb6, hcell, hsl, hints⟩ := hrc 0 hpos; simp only [Nat.add_zero] at hcell; have hl5 := hso.len; dsimp only))
      | (go_at_call 17; go_must (refine C.out.mono ?_; rintro e w2 ⟨rfl, hb⟩; have hB2 := hB0.trans (hb.mono (by simp)); obtain ⟨d0, d1, d2, d3⟩ := box_four hB2; have hbz2 := box_size hB2; dsimp only)))
    go_ret3
    have hr := HF.out
    subst hr
    exact ⟨_, rfl, ⟨_, _, rfl, hsl, hints⟩, (box_old hB2).trans (hb3.mono (box_old hB2).size)⟩
  · have h1 := nei_t h0
    replace HF := Lib.hid (HF.out.trans (if_neg h0))
    go_enter Try.func19, Try.ntmps19
    go_wp2_with (first
      | (go_at_call 76; go_must (refine (S.out _ (box_old hB2)).mono ?_; rintro e w3 ⟨v, rfl, hsv, hb3⟩; dsimp only))
      | (go_at_call 17; go_must (refine C.out.mono ?_; rintro e w2 ⟨rfl, hb⟩; have hB2 := hB0.trans (hb.mono (by simp)); obtain ⟨d0, d1, d2, d3⟩ := box_four hB2; have hbz2 := box_size hB2; dsimp only)))
    go_ret3
    have hr := HF.out
    subst hr
    exact ⟨_, rfl, ⟨none, 0, rfl, ⟨Nat.le_refl _, by omega, fun _ => rfl⟩, IntsC.nil _ _⟩, (box_old hB2).trans (hb3.mono (box_old hB2).size)⟩
end Go.Proofs.Ytnlolliankhfmaa
namespace Go.Proofs.Ytnlolliankhfmaa
open Go Go.RowKit

set_option maxHeartbeats 2000000 in
theorem Whom7_any (ac az aw ap : Option Addr) (cc cz cw cp : Nat) (m : MoList) (aL : Option Addr) (all : List (List Int)) (cL s : Nat) (w : World) (hm : ListC w ac az aw ap cc cz cw cp m) (hso : SlOk aL all.length cL) (hr : RowsC w aL all) (hs : ∀ t ∈ all, s < t.length) (hn : m.claimants.length ≤ 1000) :
    Calls Try.prog 79 #[(.agg #[.slice ac m.claimants.length cc, .slice az m.sums.length cz, .slice aw m.words.length cw, .slice ap m.paid.length cp]), .slice aL all.length cL, .int .i64 s] w fun e w' => ∃ v, e = .returned v ∧ IntsV w' v (whom m.claimants.length all s) ∧ Below w.heap.size w w' := by
  have hal := hso.len
  obtain ⟨p, hp⟩ : ∃ p : Nat → Bool, p = fun (c : Nat) => all.any fun t => decide (t[s]?.getD 0 = (c : Int)) := ⟨_, rfl⟩
  have hW : Hid (whom m.claimants.length all s = ((List.range m.claimants.length).filter p).map (fun (c : Nat) => (c : Int))) := by rw [hp]; exact (rfl : whom m.claimants.length all s = _)
  generalize whom m.claimants.length all s = r at hW ⊢
  have HP := Lib.hid hp
  clear hp
  go_enter Try.func79, Try.ntmps79
  go_wp2
  go_loopw [7, 8] (fun o i wr => ∃ (c : Nat), c ≤ m.claimants.length ∧ i = .int .i64 c ∧ wr.ownsRow (w.heap.size + 1) 3 1 o (((List.range c).filter p).map (fun (c : Nat) => (c : Int))).length ((((List.range c).filter p).map (fun (c : Nat) => (c : Int))).map (Value.int .i64)) ∧ Below (w.heap.size + 1) (w.alloc (.cells #[.slice ac m.claimants.length cc, .slice az m.sums.length cz, .slice aw m.words.length cw, .slice ap m.paid.length cp] 27)) wr) (fun _ i _ => m.claimants.length - (intOf i).toNat)
  case atStart => exact ⟨0, Nat.zero_le _, rfl, World.ownsRow_nil _ _ _ _, Below.refl _ _⟩
  case round =>
    obtain ⟨c, hc, rfl, hown, hB⟩ := hrel
    obtain ⟨c0, c1, c2, c3⟩ := box_four hB
    have hbz := box_size hB
    have hB1 := hB.size
    simp at hB1
    by_cases hlt : c < m.claimants.length
    · have hst := Lib.hid (keep_succ p c)
      have hkl := keep_len p c
      generalize hL : ((List.range c).filter p).map (fun (c : Nat) => (c : Int)) = L at hown hst hkl
      clear hL
      obtain ⟨F, hF⟩ : ∃ F : Nat → Bool, F = fun j => (all.take j).any fun t => decide (t[s]?.getD 0 = (c : Int)) := ⟨_, rfl⟩
      have F0 : Hid (F 0 = false) := by rw [hF]; exact (rfl : _ = false)
      have Fs : Hid (∀ j (h : j < all.length), F (j+1) = (F j || decide (all[j][s]?.getD 0 = (c : Int)))) := by intro j h; simp only [hF]; exact any_take_succ _ _ _ h
      have Fe : Hid (F all.length = p c) := by rw [hF, HP.out]; show (all.take all.length).any _ = _; rw [List.take_length]
      clear hF
      go_wp2
      go_loop [9, 10] (fun x i => ∃ j : Nat, j ≤ all.length ∧ i = .int .i64 j ∧ x = .bool (F j)) (fun _ i => all.length - (intOf i).toNat)
      case atStart => exact ⟨0, Nat.zero_le _, rfl, val_bool F0.out.symm⟩
      case round =>
        obtain ⟨j, hj, rfl, rfl⟩ := hrel
        by_cases hjl : j < all.length
        · obtain ⟨b, off, a', c', rfl, hb0, hcell, hsl, hints⟩ := hr j hjl
          have hts := hs _ (List.getElem_mem hjl)
          have H := Lib.hid (Fs.out j hjl)
          generalize all[j] = t at hcell hsl hints hts H
          obtain ⟨b2, off2, rfl, hb2, hcell2⟩ := hints s hts
          have htl := hsl.len
          replace H := Lib.hid (show F (j+1) = (F j || decide (t[s] = (c : Int))) by rw [H.out]; simp [hts])
          generalize t[s] = y at hcell2 H
          have hcell := cell_below (box_old hB) hcell
          have hcell2 := cell_below (box_old hB) hcell2
          have hb3 := lt_of_cell hcell
          have hb4 := lt_of_cell hcell2
          generalize F j = bF at H ⊢
          cases bF
          · by_cases hy : y = c
            all_goals (first | have hy2 := eqi_t hy | have hy2 := eqi_f hy)
            all_goals go_wp2
            all_goals go_round
            all_goals try (simp [intOf]; omega; done)
            all_goals exact ⟨j+1, by omega, by go_num, val_bool (by rw [H.out]; simp [hy])⟩
          · go_wp2
            go_round
            case rel => exact ⟨j+1, by omega, by go_num, val_bool (by rw [H.out]; simp)⟩
            case measure => simp [intOf]; omega
        · have hjL : j = all.length := by omega
          rw [hjL, Fe.out]
          generalize p c = bp at hst
          cases bp
          · go_wp2
            go_roundw
            case rel => exact ⟨c + 1, by omega, by go_num, by rw [hst.out]; simpa using hown, hB⟩
            case measure => simp [intOf]; omega
          · go_wp2_with (at_builtin; go_must (refine wpList_app (.tmp 37) (.tmp 39) E_int rfl rfl rfl rfl (w.heap.size + 1) L.length 1 (L.map (Value.int .i64)) [.int .i64 (c : Int)] (hown.alloc _) (SrcAt.one _ _ _ rfl) (by omega) (by decide) (by simp; omega) ?_; intro v2 w2 ho2 hg2 _; (have hb2 := app_next hB (by simp) (Nat.le_refl _) hown hg2); clear hg2; simp only [Act.put, List.setIfInBounds_toArray, List.set_cons_succ, List.set_cons_zero]))
            go_roundw
            case rel => exact ⟨c + 1, by omega, by go_num, by rw [hst.out]; simpa using ho2, hb2⟩
            case measure => simp [intOf]; omega
    · obtain rfl : c = m.claimants.length := by omega
      go_wp2
      go_ret
      exact ⟨_, rfl, by rw [hW.out]; exact ints_ownV hown, box_old hB⟩

set_option maxHeartbeats 2000000 in
theorem Unsure7_any (ac az aw ap : Option Addr) (cc cz cw cp : Nat) (m : MoList) (aL : Option Addr) (all : List (List Int)) (cL : Nat) (w : World) (hm : ListC w ac az aw ap cc cz cw cp m) (hso : SlOk aL all.length cL) (hr : RowsC w aL all) (hs : ∀ t ∈ all, m.sums.length ≤ t.length) (hn : m.claimants.length ≤ 1000) (hz : m.sums.length ≤ 1000) :
    Calls Try.prog 82 #[(.agg #[.slice ac m.claimants.length cc, .slice az m.sums.length cz, .slice aw m.words.length cw, .slice ap m.paid.length cp]), .slice aL all.length cL] w fun e w' => ∃ v, e = .returned v ∧ IntsV w' v (unsure m all) ∧ Below w.heap.size w w' := by
  have hal := hso.len
  obtain ⟨p, hp⟩ : ∃ p : Nat → Bool, p = fun (i : Nat) => decide (1 < (whom m.claimants.length all i).length) := ⟨_, rfl⟩
  have hW : Hid (unsure m all = ((List.range m.sums.length).filter p).map (fun (c : Nat) => (c : Int))) := by rw [hp]; exact (rfl : unsure m all = _)
  generalize unsure m all = r at hW ⊢
  have HP := Lib.hid hp
  clear hp
  go_enter Try.func82, Try.ntmps82
  go_wp2
  go_loopw [5, 6] (fun o i wr => ∃ (c : Nat), c ≤ m.sums.length ∧ i = .int .i64 c ∧ wr.ownsRow (w.heap.size + 1) 3 1 o (((List.range c).filter p).map (fun (c : Nat) => (c : Int))).length ((((List.range c).filter p).map (fun (c : Nat) => (c : Int))).map (Value.int .i64)) ∧ Below (w.heap.size + 1) (w.alloc (.cells #[.slice ac m.claimants.length cc, .slice az m.sums.length cz, .slice aw m.words.length cw, .slice ap m.paid.length cp] 27)) wr) (fun _ i _ => m.sums.length - (intOf i).toNat)
  case atStart => exact ⟨0, Nat.zero_le _, rfl, World.ownsRow_nil _ _ _ _, Below.refl _ _⟩
  case round =>
    obtain ⟨c, hc, rfl, hown, hB⟩ := hrel
    obtain ⟨c0, c1, c2, c3⟩ := box_four hB
    have hbz := box_size hB
    have hB1 := hB.size
    simp at hB1
    by_cases hlt : c < m.sums.length
    · have hst := Lib.hid (keep_succ p c)
      have hkl := keep_len p c
      generalize hL : ((List.range c).filter p).map (fun (c : Nat) => (c : Int)) = L at hown hst hkl
      clear hL
      have W := Lib.hid (Whom7_any ac az aw ap cc cz cw cp m aL all cL c wr (hm.mono (box_old hB)) hso (hr.mono (box_old hB)) (fun t ht => Nat.lt_of_lt_of_le hlt (hs t ht)) hn)
      have hpc : Hid (p c = decide (1 < (whom m.claimants.length all c).length)) := by rw [HP.out]; exact (rfl : _ = _)
      generalize whom m.claimants.length all c = q at W hpc
      by_cases hq : 1 < q.length
      · have hq2 : (1 : Int) < (q.length : Int) := by omega
        have hpc2 := Lib.hid (show p c = true by rw [hpc.out]; simp [hq])
        clear hpc
        rw [hpc2.out] at hst
        go_wp2_with (first
          | (at_builtin; go_must (refine wpList_app (.tmp 20) (.tmp 22) E_int rfl rfl rfl rfl (w.heap.size + 1) L.length 1 (L.map (Value.int .i64)) [.int .i64 (c : Int)] (hown2.alloc _) (SrcAt.one _ _ _ rfl) (by omega) (by decide) (by simp; omega) ?_; intro v2 w3 ho2 hg2 _; (have hb2 := app_next hB2 (by simp) (Nat.le_refl _) hown2 hg2); clear hg2; simp only [Act.put, List.setIfInBounds_toArray, List.set_cons_succ, List.set_cons_zero]))
          | (go_at_call 79; go_must (refine W.out.mono ?_; rintro e w2 ⟨v, rfl, ⟨a5, c5, rfl, hs5, _⟩, hbw⟩; dsimp only; have hB2 := hB.trans (hbw.mono (by omega)); have hown2 := own_below hown hbw; have hz2 := hbw.size; have hl5 := hs5.len)))
        go_roundw
        case rel => exact ⟨c + 1, by omega, by go_num, by rw [hst.out]; simpa using ho2, hb2⟩
        case measure => simp [intOf]; omega
      · have hq2 : ¬ (1 : Int) < (q.length : Int) := by omega
        have hpc2 := Lib.hid (show p c = false by rw [hpc.out]; simp; omega)
        clear hpc
        rw [hpc2.out] at hst
        go_wp2_with (go_at_call 79; go_must (refine W.out.mono ?_; rintro e w2 ⟨v, rfl, ⟨a5, c5, rfl, hs5, _⟩, hbw⟩; dsimp only; have hB2 := hB.trans (hbw.mono (by omega)); have hown2 := own_below hown hbw; have hl5 := hs5.len))
        go_roundw
        case rel => exact ⟨c + 1, by omega, by go_num, by rw [hst.out]; simpa using hown2, hB2⟩
        case measure => simp [intOf]; omega
    · obtain rfl : c = m.sums.length := by omega
      go_wp2
      go_ret
      exact ⟨_, rfl, by rw [hW.out]; exact ints_ownV hown, box_old hB⟩
end Go.Proofs.Ytnlolliankhfmaa
namespace Go.Proofs.Ytnlolliankhfmaa
open Go Go.RowKit

theorem four_keep {w W : World} {v0 v1 v2 v3 : Value} {t : TypeId} (h : Below (w.heap.size + 1) (w.alloc (.cells #[v0, v1, v2, v3] t)) W) :
    Below (w.heap.size + 1) (w.alloc (.cells #[v0, v1, v2, v3] t)) W ∧ W.cell? ⟨w.heap.size, 0, none⟩ = some v0 ∧ W.cell? ⟨w.heap.size, 1, none⟩ = some v1 ∧ W.cell? ⟨w.heap.size, 2, none⟩ = some v2 ∧ W.cell? ⟨w.heap.size, 3, none⟩ = some v3 ∧ w.heap.size < W.heap.size :=
  ⟨h, (box_four h).1, (box_four h).2.1, (box_four h).2.2.1, (box_four h).2.2.2, box_size h⟩
theorem four_old {w W : World} {v0 v1 v2 v3 : Value} {t : TypeId} (h : Below (w.heap.size + 1) (w.alloc (.cells #[v0, v1, v2, v3] t)) W ∧ W.cell? ⟨w.heap.size, 0, none⟩ = some v0 ∧ W.cell? ⟨w.heap.size, 1, none⟩ = some v1 ∧ W.cell? ⟨w.heap.size, 2, none⟩ = some v2 ∧ W.cell? ⟨w.heap.size, 3, none⟩ = some v3 ∧ w.heap.size < W.heap.size) : Below w.heap.size w W := box_old h.1
theorem four_next {w W W' : World} {v0 v1 v2 v3 : Value} {t : TypeId} (h : Below (w.heap.size + 1) (w.alloc (.cells #[v0, v1, v2, v3] t)) W ∧ W.cell? ⟨w.heap.size, 0, none⟩ = some v0 ∧ W.cell? ⟨w.heap.size, 1, none⟩ = some v1 ∧ W.cell? ⟨w.heap.size, 2, none⟩ = some v2 ∧ W.cell? ⟨w.heap.size, 3, none⟩ = some v3 ∧ w.heap.size < W.heap.size)
    (hb : Below W.heap.size W W') : Below (w.heap.size + 1) (w.alloc (.cells #[v0, v1, v2, v3] t)) W' := h.1.trans (hb.mono h.2.2.2.2.2)

set_option maxHeartbeats 2000000 in
theorem For7_any (ac az aw ap : Option Addr) (cc cz cw cp : Nat) (m : MoList) (s : Int) (w : World) (hm : ListC w ac az aw ap cc cz cw cp m) :
    Calls Try.prog 22 #[(.agg #[.slice ac m.claimants.length cc, .slice az m.sums.length cz, .slice aw m.words.length cw, .slice ap m.paid.length cp]), .int .i64 s] w fun e w' => ∃ v, e = .returned (.tuple #[v, .int .i64 (forOf m s).2]) ∧ IntsV w' v (forOf m s).1 ∧ Below w.heap.size w w' := by
  have HF : Hid (forOf m s = if forErr m s = 0 then (whom m.claimants.length (truths m) s.toNat, 0) else ([], forErr m s)) := rfl
  have HE : Hid (forErr m s = someErr m (askedErr m s m.sums.length)) := rfl
  have HV : Hid (forErr m s = 0 → Valid m ∧ 0 < (truths m).length ∧ 0 ≤ s ∧ s < m.sums.length) := for_valid
  have HC : Hid (askedErr m s m.sums.length = 0 → Valid m) := fun h => valid_of (askedErr_zero h).1
  have l2 := hm.okz.len
  generalize forOf m s = r at HF ⊢
  generalize forErr m s = we at HF HE HV
  have hB0 := Below.refl (w.heap.size + 1) (w.alloc (.cells #[.slice ac m.claimants.length cc, .slice az m.sums.length cz, .slice aw m.words.length cw, .slice ap m.paid.length cp] 27))
  obtain ⟨c0, c1, c2, c3⟩ := box_four hB0
  have hbz := box_size hB0
  have C := Lib.hid (fun (W : World) (h : Below w.heap.size w W) => Asked7_any ac az aw ap cc cz cw cp m s m.sums.length W (hm.mono h) (by omega) (by omega))
  generalize askedErr m s m.sums.length = x at C HE HC
  have S := Lib.hid (fun (W : World) (h : Below w.heap.size w W) => Some7_any ac az aw ap cc cz cw cp m x W (hm.mono h) HC.out)
  have hE := HE.out
  rw [← hE] at S
  clear hE HE
  by_cases h0 : we = 0
  · obtain ⟨hva, hpos, hs0, hs1⟩ := HV.out h0
    obtain ⟨k, rfl⟩ := Int.eq_ofNat_of_zero_le hs0
    replace HF := Lib.hid (HF.out.trans (if_pos h0))
    subst h0
    simp only [Int.toNat_natCast] at HF
    have hn := hva.nc
    have Wh := Lib.hid (fun (W : World) (a : Option Addr) (c : Nat) (h : Below w.heap.size w W) h1 h2 => Whom7_any ac az aw ap cc cz cw cp m a (truths m) c k W (hm.mono h) h1 h2 (fun t ht => by have := truths_len m t ht; omega) (by omega))
    have hBd := below_drew' hB0
    go_enter Try.func22, Try.ntmps22
    go_wp2
    go_region_held3 (fun W => Below (w.heap.size + 1) (w.alloc (.cells #[.slice ac m.claimants.length cc, .slice az m.sums.length cz, .slice aw m.words.length cw, .slice ap m.paid.length cp] 27)) W ∧ W.cell? ⟨w.heap.size, 0, none⟩ = some (.slice ac m.claimants.length cc) ∧ W.cell? ⟨w.heap.size, 1, none⟩ = some (.slice az m.sums.length cz) ∧ W.cell? ⟨w.heap.size, 2, none⟩ = some (.slice aw m.words.length cw) ∧ W.cell? ⟨w.heap.size, 3, none⟩ = some (.slice ap m.paid.length cp) ∧ w.heap.size < W.heap.size) (exact four_keep (by assumption)) (first
      | (go_at_call 78; refine (C.out _ (four_old (by assumption))).mono ?_; rintro e w2 ⟨rfl, hb⟩; have hB2 := four_next (by assumption) hb; dsimp only)
      | (go_at_call 76; refine (S.out _ (four_old (by assumption))).mono ?_; rintro e w3 ⟨v, rfl, hsv, hb3⟩; have hB3 := four_next (by assumption) hb3; obtain ⟨a, c, rfl, hso, hrc⟩ := hsv.1 rfl; dsimp only))
    obtain ⟨d0, d1, d2, d3⟩ := box_four hB3
    have hbz3 := box_size hB3
    go_wp2_with (go_at_call 79; go_must (refine (Wh.out _ _ _ (box_old hB3) hso hrc).mono ?_; rintro e w4 ⟨v, rfl, hv, hb4⟩; dsimp only))
    go_ret2
    have hr := HF.out
    subst hr
    exact ⟨_, rfl, hv, box_old (hB3.trans (hb4.mono hbz3))⟩
  · have h1 := nei_t h0
    replace HF := Lib.hid (HF.out.trans (if_neg h0))
    have hBd := below_drew' hB0
    go_enter Try.func22, Try.ntmps22
    go_wp2
    go_region_held3 (fun W => Below (w.heap.size + 1) (w.alloc (.cells #[.slice ac m.claimants.length cc, .slice az m.sums.length cz, .slice aw m.words.length cw, .slice ap m.paid.length cp] 27)) W ∧ W.cell? ⟨w.heap.size, 0, none⟩ = some (.slice ac m.claimants.length cc) ∧ W.cell? ⟨w.heap.size, 1, none⟩ = some (.slice az m.sums.length cz) ∧ W.cell? ⟨w.heap.size, 2, none⟩ = some (.slice aw m.words.length cw) ∧ W.cell? ⟨w.heap.size, 3, none⟩ = some (.slice ap m.paid.length cp) ∧ w.heap.size < W.heap.size) (exact four_keep (by assumption)) (first
      | (go_at_call 78; refine (C.out _ (four_old (by assumption))).mono ?_; rintro e w2 ⟨rfl, hb⟩; have hB2 := four_next (by assumption) hb; dsimp only)
      | (go_at_call 76; refine (S.out _ (four_old (by assumption))).mono ?_; rintro e w3 ⟨v, rfl, hsv, hb3⟩; have hB3 := four_next (by assumption) hb3; dsimp only))
    go_wp2
    go_ret2
    have hr := HF.out
    subst hr
    exact ⟨_, rfl, ⟨none, 0, rfl, ⟨Nat.le_refl _, by omega, fun _ => rfl⟩, IntsC.nil _ _⟩, box_old hB3⟩

set_option maxHeartbeats 2000000 in
theorem Pay7_any (ac az aw ap : Option Addr) (cc cz cw cp : Nat) (m : MoList) (s : Int) (w : World) (hm : ListC w ac az aw ap cc cz cw cp m) :
    Calls Try.prog 25 #[(.agg #[.slice ac m.claimants.length cc, .slice az m.sums.length cz, .slice aw m.words.length cw, .slice ap m.paid.length cp]), .int .i64 s] w fun e w' => e = .returned (.tuple #[.int .i64 (payOf m s).1, .int .i64 (payOf m s).2]) ∧ Below w.heap.size w w' := by
  have HF : Hid (payOf m s = if forErr m s = 0 then (if 1 < (whom m.claimants.length (truths m) s.toNat).length then (0, 9) else ((whom m.claimants.length (truths m) s.toNat).headD 0, 0)) else (0, forErr m s)) := rfl
  have HG : Hid (forOf m s = if forErr m s = 0 then (whom m.claimants.length (truths m) s.toNat, 0) else ([], forErr m s)) := rfl
  have HV : Hid (forErr m s = 0 → 0 < (whom m.claimants.length (truths m) s.toNat).length) := fun h => by
    obtain ⟨_, h1, h2, h3⟩ := for_valid h
    exact whom_pos m h1 _ (by omega)
  generalize payOf m s = r at HF ⊢
  have hB0 := Below.refl (w.heap.size + 1) (w.alloc (.cells #[.slice ac m.claimants.length cc, .slice az m.sums.length cz, .slice aw m.words.length cw, .slice ap m.paid.length cp] 27))
  obtain ⟨c0, c1, c2, c3⟩ := box_four hB0
  have hbz := box_size hB0
  have C := Lib.hid (For7_any ac az aw ap cc cz cw cp m s (w.alloc (.cells #[.slice ac m.claimants.length cc, .slice az m.sums.length cz, .slice aw m.words.length cw, .slice ap m.paid.length cp] 27)) (hm.mono (box_old hB0)))
  generalize forOf m s = x at C HG
  generalize forErr m s = we at HF HG HV
  generalize whom m.claimants.length (truths m) s.toNat = q at HF HG HV
  by_cases h0 : we = 0
  · have hpos := HV.out h0
    replace HF := Lib.hid (HF.out.trans (if_pos h0))
    obtain rfl := HG.out.trans (if_pos h0)
    subst h0
    clear HG HV
    simp only at C
    by_cases hq : 1 < q.length
    · have hq2 : (1 : Int) < (q.length : Int) := by omega
      replace HF := Lib.hid (HF.out.trans (if_pos hq))
      go_enter Try.func25, Try.ntmps25
      go_wp2_with (go_at_call 22; go_must (refine C.out.mono ?_; rintro e w2 ⟨v, rfl, ⟨a, c, rfl, hso, hic⟩, hb⟩; have hl5 := hso.len; dsimp only))
      go_ret2
      have hr := HF.out
      subst hr
      exact ⟨rfl, box_old (hB0.trans (hb.mono hbz))⟩
    · have hq2 : ¬ (1 : Int) < (q.length : Int) := by omega
      replace HF := Lib.hid (HF.out.trans (if_neg hq))
      rw [headD_get (d := 0) q hpos] at HF
      go_enter Try.func25, Try.ntmps25
      go_wp2_with (go_at_call 22; go_must (refine C.out.mono ?_; rintro e w2 ⟨v, rfl, ⟨a, c, rfl, hso, hic⟩, hb⟩; have hl5 := hso.len; obtain ⟨b, off, rfl, hb2, hcell⟩ := hic 0 hpos; simp only [Nat.add_zero] at hcell; dsimp only))
      go_ret2
      have hr := HF.out
      subst hr
      exact ⟨rfl, box_old (hB0.trans (hb.mono hbz))⟩
  · have h1 := nei_t h0
    have h2 := eqi_f h0
    replace HF := Lib.hid (HF.out.trans (if_neg h0))
    obtain rfl := HG.out.trans (if_neg h0)
    clear HG HV
    simp only at C
    go_enter Try.func25, Try.ntmps25
    go_wp2_with (go_at_call 22; go_must (refine C.out.mono ?_; rintro e w2 ⟨v, rfl, ⟨a, c, rfl, hso, hic⟩, hb⟩; have hl5 := hso.len; dsimp only))
    go_ret2
    have hr := HF.out
    subst hr
    exact ⟨rfl, box_old (hB0.trans (hb.mono hbz))⟩
end Go.Proofs.Ytnlolliankhfmaa
