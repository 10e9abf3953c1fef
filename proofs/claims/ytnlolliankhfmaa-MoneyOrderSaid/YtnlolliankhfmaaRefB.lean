/- What is proved here: contracts of the reference of layer 7: Counts, So. Conditions: indices are in range. -/
/- What is proved here: the contract of the reference's Truths of layer 7. Condition: the list is valid. -/
import Derived.Test.YtnlolliankhfmaaRefA
import Derived.Test.YtnlolliankhfmaaPlain
set_option linter.unusedVariables false
set_option linter.unusedSimpArgs false
namespace Go.Proofs.Ytnlolliankhfmaa
open Go Go.RowKit

theorem all_take_succ {α : Type} (p : α → Bool) (l : List α) (k : Nat) (h : k < l.length) : (l.take (k+1)).all p = ((l.take k).all p && p l[k]) := by
  rw [List.take_succ_eq_append_getElem h, List.all_append]; simp
theorem any_take_succ {α : Type} (p : α → Bool) (l : List α) (k : Nat) (h : k < l.length) : (l.take (k+1)).any p = ((l.take k).any p || p l[k]) := by
  rw [List.take_succ_eq_append_getElem h, List.any_append]; simp

set_option maxHeartbeats 1000000 in
theorem Counts7_any (ac az aw ap : Option Addr) (cc cz cw cp : Nat) (m : MoList) (k : Nat) (w : World) (hm : ListC w ac az aw ap cc cz cw cp m) (hk : k < m.words.length) :
    Calls Try.prog 55 #[(.agg #[.slice ac m.claimants.length cc, .slice az m.sums.length cz, .slice aw m.words.length cw, .slice ap m.paid.length cp]), .int .i64 k] w fun e w' => e = .returned (.bool (counts m k)) ∧ Below w.heap.size w w' := by
  have l3 := hm.okw.len
  obtain ⟨b, off, rfl, hb, _, _, _, _, h5⟩ := hm.words k hk
  obtain ⟨F, hF⟩ : ∃ F : Nat → Bool, F = fun j => m.words[k].came && (m.words.take j).all fun x => !(x.came && decide (x.back = (k : Int))) := ⟨_, rfl⟩
  have F0 : F 0 = m.words[k].came := by simp [hF]
  have Fs : Hid (∀ j (h : j < m.words.length), F (j+1) = (F j && !(m.words[j].came && decide (m.words[j].back = (k : Int))))) := by
    intro j h
    simp only [hF]
    rw [all_take_succ _ _ _ h, Bool.and_assoc]
  have Fe : Hid (F m.words.length = counts m k) := by
    show _ = _
    simp [hF, counts, hk]
  clear hF
  rw [← F0] at h5
  clear F0
  rw [← Fe.out]
  go_enter Try.func55, Try.ntmps55
  go_wp2
  go_loop [5, 6] (fun x i => ∃ j : Nat, j ≤ m.words.length ∧ i = .int .i64 j ∧ x = .bool (F j)) (fun _ i => m.words.length - (intOf i).toNat)
  case atStart => exact ⟨0, Nat.zero_le _, rfl, rfl⟩
  case round =>
    obtain ⟨j, hj, rfl, rfl⟩ := hrel
    by_cases hlt : j < m.words.length
    · obtain ⟨b', off', e, hb', _, _, _, g4, g5⟩ := hm.words j hlt
      cases e
      have H := Lib.hid (Fs.out j hlt)
      generalize F j = c at H ⊢
      generalize m.words[j] = x at H g4 g5
      obtain ⟨_, _, _, bk, ca⟩ := x
      simp only at H g4 g5
      by_cases hx : bk = k
      all_goals (first | have hx2 := eqi_t hx | have hx2 := eqi_f hx)
      all_goals cases c
      all_goals cases ca
      all_goals go_wp2
      all_goals go_round
      all_goals try (simp [intOf]; omega; done)
      all_goals exact ⟨j+1, by omega, by go_num, val_bool (by rw [H.out]; simp [hx])⟩
    · go_wp2
      go_ret
      exact ⟨ret_bool (by congr 1; omega), by go_grown⟩

set_option maxRecDepth 100000 in
set_option maxHeartbeats 2000000 in
theorem So7_any (x : MoWord) (a : Option Addr) (t : List Int) (c : Nat) (w : World) (ht : t.length ≤ 9223372036854775807) (hi : IntsC w a t) (hs : 0 ≤ x.sum) (ho : 2 ≤ x.says → 0 ≤ x.of) (hy : 0 ≤ x.says ∧ x.says ≤ 3) :
    Calls Try.prog 92 #[.agg #[.int .i64 x.says, .int .i64 x.sum, .int .i64 x.of, .int .i64 x.back, .bool x.came], .slice a t.length c] w fun e w' => e = .returned (.bool (so x t)) ∧ Below w.heap.size w w' := by
  obtain ⟨says, sum, of, back, came⟩ := x
  simp only at hs ho hy ⊢
  have HF : Hid (so ⟨says, sum, of, back, came⟩ t = if (t.length : Int) ≤ sum then true else if says = 0 then decide (t[sum.toNat]?.getD 0 = of) else if says = 1 then decide (t[sum.toNat]?.getD 0 ≠ of)
    else if says = 2 then decide ((t.length : Int) ≤ of) || decide (t[sum.toNat]?.getD 0 = t[of.toNat]?.getD 0) else decide ((t.length : Int) ≤ of) || decide (t[sum.toNat]?.getD 0 ≠ t[of.toNat]?.getD 0)) := rfl
  generalize so ⟨says, sum, of, back, came⟩ t = r at HF ⊢
  obtain ⟨S, rfl⟩ := Int.eq_ofNat_of_zero_le hs
  by_cases hlt : S < t.length
  · have HF := Lib.hid (HF.out.trans (if_neg (by omega)))
    obtain ⟨b, off, rfl, hb, h1⟩ := hi S hlt
    simp only [Int.toNat_natCast, List.getElem?_eq_getElem hlt, Option.getD_some] at HF
    generalize t[S] = y at h1 HF
    by_cases h0 : says = 0
    · have hn0 := eqi_t h0
      have HF := Lib.hid (HF.out.trans (if_pos h0))
      clear h0
      by_cases he : y = of
      all_goals (first | have he2 := eqi_t he | have he2 := eqi_f he)
      all_goals
        go_enter Try.func92, Try.ntmps92
        go_wp2
        go_quiet (fail)
        go_wp2
        go_ret
        exact ⟨ret_bool (by rw [HF.out]; simp [he]), below_drewN' (by go_grown) _⟩
    · by_cases h1' : says = 1
      · have hn0 := eqi_f h0
        have hn1 := eqi_t h1'
        have HF := Lib.hid ((HF.out.trans (if_neg h0)).trans (if_pos h1'))
        clear h0 h1'
        by_cases he : y = of
        all_goals (first | have he2 := nei_f he | have he2 := nei_t he)
        all_goals
          go_enter Try.func92, Try.ntmps92
          go_wp2
          go_quiet (fail)
          go_wp2
          go_ret
          exact ⟨ret_bool (by rw [HF.out]; simp [he]), below_drewN' (by go_grown) _⟩
      · obtain ⟨O, rfl⟩ := Int.eq_ofNat_of_zero_le (ho (by omega))
        have hn0 := eqi_f h0
        have hn1 := eqi_f h1'
        simp only [Int.toNat_natCast, if_neg h0, if_neg h1'] at HF
        by_cases h2 : says = 2
        all_goals (first | have h22 := eqi_t h2 | have h22 := eqi_f h2)
        all_goals
          by_cases hO : O < t.length
          · obtain ⟨b', off', e, hb', g1⟩ := hi O hO
            cases e
            simp only [List.getElem?_eq_getElem hO, Option.getD_some] at HF
            generalize t[O] = z at g1 HF
            by_cases he : y = z
            all_goals (first | have he2 := eqi_t he | have he2 := eqi_f he)
            all_goals (first | have he3 := nei_f he | have he3 := nei_t he)
            all_goals
              have hd : decide ((t.length : Int) ≤ (O : Int)) = false := by simp; omega
              have hHF := HF.out
              simp only [h2, he, hd, if_true, if_false, Bool.false_or, decide_true, decide_false, ne_eq, not_true_eq_false, not_false_eq_true, reduceIte] at hHF
              have HF := Lib.hid hHF
              clear hHF h0 h1' h2 he
              go_enter Try.func92, Try.ntmps92
              go_wp2
              go_quiet (fail)
              go_wp2
              go_ret
              exact ⟨ret_bool (by rw [HF.out] <;> first | rfl | (simp; done) | (simp; omega)), below_drewN' (by go_grown) _⟩
          · have hd : decide ((t.length : Int) ≤ (O : Int)) = true := by simp; omega
            have hHF := HF.out
            simp only [hd, Bool.true_or, ite_self] at hHF
            have HF := Lib.hid hHF
            clear hHF h0 h1' h2
            go_enter Try.func92, Try.ntmps92
            go_wp2
            go_quiet (fail)
            go_wp2
            go_ret
            exact ⟨ret_bool (by rw [HF.out] <;> first | rfl | (simp; done) | (simp; omega)), below_drewN' (by go_grown) _⟩
  · have HF := Lib.hid (HF.out.trans (if_pos (by omega)))
    go_enter Try.func92, Try.ntmps92
    go_wp2
    go_ret
    exact ⟨ret_bool HF.out.symm, by go_grown⟩
end Go.Proofs.Ytnlolliankhfmaa
namespace Go.Proofs.Ytnlolliankhfmaa
open Go Go.RowKit

set_option maxRecDepth 100000 in
set_option maxHeartbeats 16000000 in
theorem Truths7_any (ac az aw ap : Option Addr) (cc cz cw cp : Nat) (m : MoList) (w : World) (hm : ListC w ac az aw ap cc cz cw cp m) (hv : Valid m) :
    Calls Try.prog 39 #[(.agg #[.slice ac m.claimants.length cc, .slice az m.sums.length cz, .slice aw m.words.length cw, .slice ap m.paid.length cp])] w fun e w' => ∃ v, e = .returned v ∧ RowsV w' v (truths m) ∧ Below w.heap.size w w' := by
  have l1 := hm.okc.len
  have l2 := hm.okz.len
  have l3 := hm.okw.len
  have v1 := hv.nc
  have v2 := hv.nz
  have v3 := hv.nw
  show Calls _ _ _ _ fun e w' => ∃ v, e = .returned v ∧ RowsV w' v (truthsTo m m.sums.length) ∧ Below w.heap.size w w'
  go_enter Try.func39, Try.ntmps39
  go_wp2
  go_loopw [3, 4] (fun o i wr => ∃ (k c : Nat) (a : Option Addr), k ≤ m.sums.length ∧ i = .int .i64 k ∧ o = .slice a (truthsTo m k).length c ∧ SlOk a (truthsTo m k).length c ∧ RowsC wr a (truthsTo m k) ∧ Below (w.heap.size + 1) (w.alloc (.cells #[.slice ac m.claimants.length cc, .slice az m.sums.length cz, .slice aw m.words.length cw, .slice ap m.paid.length cp] 27)) wr) (fun _ i _ => m.sums.length - (intOf i).toNat)
  case atStart =>
    refine ⟨0, 1, some ⟨w.heap.size + 1, 0, none⟩, Nat.zero_le _, rfl, rfl, ⟨by simp [truthsTo], by omega, fun h => by cases h⟩, ?_, by go_grown⟩
    intro i hi
    simp [truthsTo] at hi
    subst hi
    exact ⟨w.heap.size + 1, 0, none, 0, rfl, by simp, by simp [truthsTo], ⟨by simp [truthsTo], by omega, fun _ => rfl⟩, IntsC.nil _ _⟩
  case round =>
    obtain ⟨k, c, a, hk, rfl, rfl, hso, hrc, hB⟩ := hrel
    obtain ⟨c0, c1, c2, c3⟩ := box_four hB
    have hbz := box_size hB
    by_cases hlt : k < m.sums.length
    · have hlen := Lib.hid (truthsTo_len m k)
      have hmany := truths_many m v1 k (by omega)
      have hmany2 := truths_many m v1 (k+1) (by omega)
      have hnext : Hid (truthsTo m (k+1) = (truthsTo m k).flatMap (truthStep m k)) := rfl
      generalize truthsTo m k = L at hlen hmany hnext hrc hso ⊢
      generalize hL' : truthsTo m (k+1) = L' at hnext hmany2
      have HL' := Lib.hid hL'
      clear hL'
      rw [hnext.out] at hmany2
      obtain ⟨W0, hW0⟩ : ∃ W0 : World, W0 = wr := ⟨_, rfl⟩
      subst hW0
      go_wp2
      go_loopw [5, 6] (fun v i wr => ∃ (j : Nat), j ≤ L.length ∧ i = .int .i64 j ∧ OwnRows wr W0.heap.size 31 v ((L.take j).flatMap (truthStep m k)) ∧ Below W0.heap.size W0 wr) (fun _ i _ => L.length - (intOf i).toNat)
      case atStart => exact ⟨0, Nat.zero_le _, rfl, OwnRows.nil _ _ _, Below.refl _ _⟩
      case round =>
        clear c0 c1 c2 c3
        obtain ⟨j, hj, rfl, hown, hbw1⟩ := hrel
        have hB1 := hB.trans (hbw1.mono (by omega))
        obtain ⟨c0, c1, c2, c3⟩ := box_four hB1
        by_cases hjl : j < L.length
        · obtain ⟨b, off, a', c', rfl, hbl0, hcell0, hsl, hints0⟩ := hrc j hjl
          have hll : L[j].length = k := hlen.out _ (List.getElem_mem hjl)
          have htk := Lib.hid (flat_take_succ (truthStep m k) L j hjl)
          have hcnt := flat_take_le (truthStep m k) L (j+1)
          rw [htk.out] at hcnt
          simp only [List.length_append] at hcnt
          have hstep : Hid (truthStep m k L[j] = ((List.range m.claimants.length).filter fun c => fine m k L[j] c).map fun (c : Nat) => L[j] ++ [(c : Int)]) := rfl
          generalize L[j] = l at hcell0 hsl hints0 hll htk hcnt hstep
          generalize (L.take j).flatMap (truthStep m k) = N at *
          have hl5 : l.length ≤ 5 := by omega
          have HLL := Lib.hid hll
          clear hll
          obtain ⟨wa, hwa⟩ : ∃ wa : World, wa = wr := ⟨_, rfl⟩
          subst hwa
          go_wp2
          go_loopw [5, 7] (fun v i wr => ∃ (x : Nat), x ≤ m.claimants.length ∧ i = .int .i64 x ∧ OwnRows wr W0.heap.size 31 v (N ++ ((List.range x).filter fun c => fine m k l c).map fun (c : Nat) => l ++ [(c : Int)]) ∧ Below W0.heap.size W0 wr) (fun _ i _ => m.claimants.length - (intOf i).toNat)
          case atStart => exact ⟨0, Nat.zero_le _, rfl, by simpa using hown, hbw1⟩
          case round =>
            clear c0 c1 c2 c3 hown
            obtain ⟨x, hx, rfl, hown2, hbw2⟩ := hrel
            have hB2 := hB.trans (hbw2.mono (by omega))
            obtain ⟨c0, c1, c2, c3⟩ := box_four hB2
            have hbz2 := box_size hB2
            by_cases hxl : x < m.claimants.length
            · obtain ⟨vs, hvs1, hvs2⟩ := hown2
              have hc2 : wr.cell? ⟨b, off + j, none⟩ = some (.slice a' l.length c') := cell_below hbw2 hcell0
              have hi2 : IntsC wr a' l := hints0.mono hbw2
              have hb2 : b < wr.heap.size := lt_of_cell hc2
              have hW0 : W0.heap.size ≤ wr.heap.size := hbw2.size
              obtain ⟨bz, oz, rfl, hbz0, _, _, hfw⟩ := hm.sums k hlt
              have hfv := hv.sums k hlt
              have hab := allBits_small m.claimants.length (by omega)
              obtain ⟨F, hF⟩ : ∃ F : Nat → Bool, F = fun y => bitB m.sums[k].for_ x && soTo m (l ++ [(x : Int)]) y := ⟨_, rfl⟩
              have F0 : Hid (F 0 = bitB m.sums[k].for_ x) := by show _ = _; simp [hF, soTo]
              have Fs : Hid (∀ y (h : y < m.words.length), F (y+1) = (F y && (!counts m y || so m.words[y] (l ++ [(x : Int)])))) := by
                intro y h
                simp only [hF]
                rw [soTo_succ _ _ _ h, Bool.and_assoc]
              have Fe : Hid (F m.words.length = fine m k l x) := by
                show _ = _
                simp only [hF, soTo, fine, wordsSo, List.getElem?_eq_getElem hlt]
                (try rfl)
              clear hF
              generalize m.sums[k].for_ = fo at hfw hfv F0
              have hf := cell_below (box_old hB2) hfw
              have hbz4 : bz < wr.heap.size := lt_of_cell hf
              have Bt := fun W => Bit_any fo (x : Int) W (by omega) (by omega) (by omega) (by omega)
              simp only [Int.toNat_natCast] at Bt
              generalize bitB fo x = b0 at Bt F0
              have Bt := Lib.hid Bt
              have hNn : (N ++ ((List.range x).filter fun c => fine m k l c).map fun (c : Nat) => l ++ [(c : Int)]).length ≤ 2000 := by
                have := List.length_filter_le (fun c => fine m k l c) (List.range x)
                simp only [List.length_append, List.length_map, List.length_range] at this ⊢
                omega
              have hrm := Lib.hid (filterMap_succ (fun c => fine m k l c) x (fun (c : Nat) => l ++ [(c : Int)]))
              generalize hN2 : (N ++ ((List.range x).filter fun c => fine m k l c).map fun (c : Nat) => l ++ [(c : Int)]) = N2 at *
              have HN2 := Lib.hid hN2
              clear hN2
              go_wp2_with (first
                | (go_at_call 46; refine (Bt.out _).mono ?_; rintro e w3 ⟨rfl, hw3⟩; obtain rfl := hw3.symm; dsimp only)
                | (at_builtin; refine wpList_app (.tmp 37) (.tmp 39) E_int rfl rfl rfl rfl wr.heap.size l.length 1 (l.map (Value.int .i64)) [.int .i64 (x : Int)] (ho1.alloc _) (SrcAt.one _ _ _ rfl) (by omega) (by decide) (by simp; omega) ?_; (intro v2 w2 ho2 hg2 _; obtain ⟨g, cap, rfl⟩ := own_succ ho2; have hb2' := app_next hb1 (Nat.le_refl _) (Nat.le_refl _) ho1 hg2; have hz2 := hb2'.size; clear hg2); (have hB3 := hB2.trans (hb2'.mono (by omega)); obtain ⟨d0, d1, d2, d3⟩ := box_four hB3; have hf3 := cell_below (box_old hB3) hfw; have hbz5 : bz < w2.heap.size := lt_of_cell hf3; have hbz3 := box_size hB3); simp only [Act.put, List.setIfInBounds_toArray, List.set_cons_succ, List.set_cons_zero])
                | (at_builtin; (refine wpList_app (.tmp 32) (.tmp 36) E_int rfl rfl rfl rfl wr.heap.size 0 l.length [] (l.map (Value.int .i64)) (World.ownsRow_made wr #[] 0 (Nat.le_refl _) (by decide) rfl) ?g1 (by omega) (by decide) (by simp) ?_); (case g1 => exact SrcAt.ints hsl.2.2 (hi2.mono ((Below.refl _ _).alloc (Nat.le_refl _) _))); (intro v1 w1 ho1 hg1 _); (simp only [Nat.zero_add, List.nil_append] at ho1); (have hb1 := app_fresh hg1); (have hz1 := hb1.size; clear hg1); (simp only [Act.put, List.setIfInBounds_toArray, List.set_cons_succ, List.set_cons_zero])))
              obtain ⟨-, hti, hts, htb, htl⟩ := ints_own ho2 (l := l ++ [(x : Int)]) (by simp)
              go_loopw [9, 10] (fun v i wr => ∃ (y : Nat), y ≤ m.words.length ∧ i = .int .i64 y ∧ v = .bool (F y) ∧ Below w2.heap.size w2 wr) (fun _ i _ => m.words.length - (intOf i).toNat)
              case atStart => exact ⟨0, Nat.zero_le _, rfl, val_bool F0.out.symm, Below.refl _ _⟩
              case round =>
                clear c0 c1 c2 c3 d0 d1 d2 d3 hf hf3 hc2 hi2
                obtain ⟨wb, hwb⟩ : ∃ wb : World, wb = wr := ⟨_, rfl⟩
                subst hwb
                obtain ⟨y, hy, rfl, rfl, hbw4⟩ := hrel
                have hB4 := hB3.trans (hbw4.mono (by omega))
                obtain ⟨c0, c1, c2, c3⟩ := box_four hB4
                have hbz6 := box_size hB4
                by_cases hyl : y < m.words.length
                · have H := Lib.hid (Fs.out y hyl)
                  have hW := hv.words y hyl
                  obtain ⟨bw, ow, rfl, hbw0, h1w, h2w, h3w, h4w, h5w⟩ := hm.words y hyl
                  have Cn := Lib.hid (Counts7_any ac (some ⟨bz, oz, none⟩) (some ⟨bw, ow, none⟩) ap cc cz cw cp m y wb (hm.mono (box_old hB4)) hyl)
                  have Sn := fun (W : World) (hi : IntsC W (some ⟨g, 0, none⟩) (l ++ [(x : Int)])) => So7_any m.words[y] (some ⟨g, 0, none⟩) (l ++ [(x : Int)]) cap W hts.len hi hW.sum.1 (fun h => (hW.of2 h).1) hW.says
                  simp only [List.length_append, List.length_singleton] at Sn
                  generalize so m.words[y] (l ++ [(x : Int)]) = bS at Sn H
                  generalize m.words[y] = wd at h1w h2w h3w h4w h5w Sn
                  obtain ⟨says, sum, of, back, came⟩ := wd
                  simp only at h1w h2w h3w h4w h5w Sn
                  have Sn := Lib.hid Sn
                  have H1 := Lib.hid h1w
                  have H2 := Lib.hid h2w
                  have H3 := Lib.hid h3w
                  have H4 := Lib.hid h4w
                  have H5 := Lib.hid h5w
                  clear h1w h2w h3w h4w h5w hW
                  generalize F y = bF at H ⊢
                  generalize counts m y = bC at Cn H
                  cases bF
                  · go_wp2
                    go_roundw
                    case rel => exact ⟨y + 1, by omega, by go_num, val_bool (by rw [H.out]; simp), hbw4⟩
                    case measure => simp [intOf]; omega
                  · cases bC
                    · go_wp2_with (go_at_call 55; refine Cn.out.mono ?_; rintro e w5 ⟨rfl, hb5⟩; dsimp only)
                      go_roundw
                      case rel => exact ⟨y + 1, by omega, by go_num, val_bool (by rw [H.out]; simp), hbw4.trans (hb5.mono hbw4.size)⟩
                      case measure => simp [intOf]; omega
                    · go_wp2_with (first
                        | (go_at_call 55; refine Cn.out.mono ?_; rintro e w5 ⟨rfl, hb5⟩; dsimp only; have hbw5 := hbw4.trans (hb5.mono hbw4.size); have hB5 := hB3.trans (hbw5.mono (by omega)); obtain ⟨d0, d1, d2, d3⟩ := box_four hB5; have g1 := cell_below (box_old hB5) H1.out; have g2 := cell_below (box_old hB5) H2.out; have g3 := cell_below (box_old hB5) H3.out; have g4 := cell_below (box_old hB5) H4.out; have g5 := cell_below (box_old hB5) H5.out; have g6 := lt_of_cell g1; have hbz7 := box_size hB5)
                        | (go_at_call 92; refine (Sn.out _ (hti.mono hbw5)).mono ?_; rintro e w6 ⟨rfl, hb6⟩; dsimp only))
                      go_roundw
                      case rel => exact ⟨y + 1, by omega, by go_num, val_bool (by rw [H.out]; simp), hbw5.trans (hb6.mono hbw5.size)⟩
                      case measure => simp [intOf]; omega
                · have hyL : y = m.words.length := by omega
                  rw [hyL, Fe.out]
                  cases hfin : fine m k l x
                  · have Hf := Lib.hid hfin
                    clear hfin
                    have hbb := hb2'.trans (hbw4.mono hz2)
                    have hz4 := hbw4.size
                    go_wp2
                    go_roundw
                    case rel => exact ⟨x + 1, by omega, by go_num, by rw [hrm.out, Hf.out]; simp only [Bool.false_eq_true, if_false, List.append_nil]; rw [HN2.out]; exact OwnRows.kept ⟨vs, hvs1, hvs2⟩ hbb, hbw2.trans (hbb.mono hW0)⟩
                    case measure => simp [intOf]; omega
                  · have Hf := Lib.hid hfin
                    clear hfin
                    have hbb := hb2'.trans (hbw4.mono hz2)
                    have hz4 := hbw4.size
                    go_wp2_with (at_builtin; go_must (refine wpList_app (.tmp 73) (.tmp 75) E_ints rfl rfl rfl rfl W0.heap.size N2.length 1 vs [.slice (some ⟨g, 0, none⟩) (l.length + 1) cap] ((own_below hvs1 hbb).alloc _) (SrcAt.one _ _ _ rfl) (by omega) (by decide) (by simp; omega) ?_; intro v3 w3 ho3 hg3 hv3; (have hp := OwnRows.push (w := wr) (w1 := wb) (t := l ++ [(x : Int)]) hvs1 hvs2 hbb (hti.mono hbw4) (by simpa using hts) (fun ad e => by cases e; exact ⟨htb, Nat.lt_of_lt_of_le htl hbw4.size⟩) (by simpa using ho3) hg3 hv3); (have hb3 := app_next (hbw2.trans (hbb.mono hW0)) (Nat.le_refl _) (Nat.le_refl _) (own_below hvs1 hbb) hg3); clear ho3 hg3 hv3; simp only [Act.put, List.setIfInBounds_toArray, List.set_cons_succ, List.set_cons_zero]))
                    go_roundw
                    case rel => exact ⟨x + 1, by omega, by go_num, by rw [hrm.out, Hf.out]; simp only [if_true]; rw [← List.append_assoc, HN2.out]; exact hp, hb3⟩
                    case measure => simp [intOf]; omega
            · have hxc : x = m.claimants.length := by omega
              go_wp2
              go_roundw
              case rel => exact ⟨j + 1, by omega, by go_num, by rw [htk.out, hstep.out]; rw [hxc] at hown2; exact hown2, hbw2⟩
              case measure => simp [intOf]; omega
        · have hjL : j = L.length := by omega
          rw [hjL, List.take_length, ← hnext.out, ← HL'.out] at hown
          obtain ⟨a3, c3, rfl, hs3, hr3⟩ := hown.rows
          go_wp2
          go_roundw
          case rel => exact ⟨k + 1, c3, a3, by omega, by go_num, rfl, hs3, hr3, hB1⟩
          case measure => simp [intOf]; omega
    · obtain rfl : k = m.sums.length := by omega
      go_wp2
      go_ret
      exact ⟨_, rfl, ⟨a, c, rfl, hso, hrc⟩, box_old hB⟩
end Go.Proofs.Ytnlolliankhfmaa
