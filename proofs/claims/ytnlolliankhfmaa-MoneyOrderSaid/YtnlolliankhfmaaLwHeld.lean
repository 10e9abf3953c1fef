/- What is proved here: the walk of MoneyHeld: it returns true, and turns nothing that was there. Conditions: the list lies in memory. -/
import Derived.Test.YtnlolliankhfmaaLwL
set_option linter.unusedVariables false
set_option linter.unusedSimpArgs false
namespace Go.Proofs.Ytnlolliankhfmaa
open Go Go.RowKit
theorem gt_t {n : Nat} (h : 1 < n) : decide ((1 : Int) < (n : Int)) = true := decide_eq_true (by omega)
theorem gt_f {n : Nat} (h : ¬ 1 < n) : decide ((1 : Int) < (n : Int)) = false := decide_eq_false (by omega)
theorem Rising_yes (a : Option Addr) (l : List Int) (c : Nat) (n : Nat) (w : World) (hr : rising l n = true) (hl : l.length ≤ 9223372036854775807) (hi : IntsC w a l) :
    Calls Try.prog 43 #[.slice a l.length c, .int .i64 (n : Int)] w fun e w' => e = .returned (.bool true) ∧ w = w' := by
  have C := Rising_any a l c n w hl hi
  rw [hr] at C
  exact C.mono fun e w' h => ⟨h.1, h.2.symm⟩
theorem Has_is (a : Option Addr) (l : List Int) (c : Nat) (n : Int) (b : Bool) (w : World) (hr : hasB l n = b) (hl : l.length ≤ 9223372036854775807) (hi : IntsC w a l) :
    Calls Try.prog 44 #[.slice a l.length c, .int .i64 n] w fun e w' => e = .returned (.bool b) ∧ w = w' := by
  have C := Has_any a l c n w hl hi
  rw [hr] at C
  exact C.mono fun e w' h => ⟨h.1, h.2.symm⟩
theorem Bit_is (x k : Nat) (b : Bool) (w : World) (hr : bitB (x : Int) k = b) (hx : x ≤ 1000) (hk : k ≤ 1000) :
    Calls Try.prog 46 #[.int .i64 (x : Int), .int .i64 (k : Int)] w fun e w' => e = .returned (.bool b) ∧ w = w' := by
  have C := Bit_any (x : Int) (k : Int) w (by omega) (by omega) (by omega) (by omega)
  rw [Int.toNat_natCast, hr] at C
  exact C.mono fun e w' h => ⟨h.1, h.2.symm⟩
theorem Fewer_no (a b : Option Addr) (l m : List Int) (c d : Nat) (w : World) (hr : fewer l m = false) (hl : l.length ≤ 9223372036854775807) (hm : m.length ≤ 9223372036854775807) (hi : IntsC w a l) (hj : IntsC w b m) :
    Calls Try.prog 48 #[.slice a l.length c, .slice b m.length d] w fun e w' => e = .returned (.bool false) ∧ Below w.heap.size w w' := by
  have C := Fewer_any a b l m c d w hl hm hi hj
  rw [hr] at C
  exact C.mono fun e w' ⟨h1, q, h2⟩ => ⟨h1, by rw [h2]; exact below_draws _ _ q⟩
set_option maxRecDepth 100000 in
set_option maxHeartbeats 4000000 in
theorem MoneyHeld_walk (ac az aw ap : Option Addr) (cc cz cw cp : Nat) (m : MoList) (x : Nat) (hx : x ≤ 255) (w : World) (hm : ListC w ac az aw ap cc cz cw cp m) : Calls Try.prog 9 #[(.agg #[.slice ac m.claimants.length cc, .slice az m.sums.length cz, .slice aw m.words.length cw, .slice ap m.paid.length cp]), .int .u8 (x : Int)] w fun e w' => e = .returned (.bool true) ∧ Below w.heap.size w w' := by
  have hQ := Below.refl (w.heap.size + 1) (w.alloc (.cells #[.slice ac m.claimants.length cc, .slice az m.sums.length cz, .slice aw m.words.length cw, .slice ap m.paid.length cp] 27))
  have hx4 := box_four hQ
  have hz := box_size hQ
  by_cases h0 : wholeErr m = 0
  · have hv := (whole_valid h0).1
    have hH := held_yes h0
    have l1 := hm.okc.len
    have l2 := hm.okz.len
    have l3 := hm.okw.len
    have n6 := hv.nw
    have n5 := hv.nz
    have n4 := hv.nc
    have HS := Lib.hid (fun (W : World) (h : ListC W ac az aw ap cc cz cw cp m) => SomeL_yes _ _ _ _ _ _ _ _ m h0 W h)
    have HU := rising_incr (unsure_incr m (truths m))
    have FW : Hid (∀ i : Nat, i < m.sums.length → ∃ WH : List Int, forOf m i = (WH, 0) ∧ 0 < WH.length ∧ rising WH m.claimants.length = true ∧ hasB (unsure m (truths m)) i = decide (1 < WH.length)) := Lib.hid (fun i hi =>
      ⟨_, for_yes h0 hi, whom_pos m (whole_valid h0).2 i hi, rising_incr (whom_incr _ _ _), unsure_has m _ hi⟩)
    have W0 := wait_none h0
    have W1 := wait_some h0
    have HL := Lib.hid (fun (W : World) (h : ListC W ac az aw ap cc cz cw cp m) => Late7_any _ _ _ _ _ _ _ _ m W h (by omega))
    have LL := late_len m
    have PB := pick_bd m (x : Int)
    have PL := pickTo_len (lateWords m) (x : Int)
    have DC := Lib.hid (fun (a : Option Addr) (l : List Int) (c : Nat) (W : World) (h : ListC W ac az aw ap cc cz cw cp m) => Decides7_any _ _ _ _ _ _ _ _ m a l c W h hv)
    obtain ⟨⟨wv, we⟩, hW⟩ : ∃ r, waitOf m = r := ⟨_, rfl⟩
    rw [hW] at W0 W1
    generalize unsure m (truths m) = U at hH HU FW
    generalize lateWords m = LT at W0 W1 HL LL PB PL
    replace W0 := Lib.hid W0
    replace W1 := Lib.hid W1
    replace PB := Lib.hid PB
    replace PL := Lib.hid PL
    replace hH := Lib.hid hH
    replace hW := Lib.hid hW
    replace HU := Lib.hid HU
    clear h0 hv
    go_enter Try.func9, Try.ntmps9
    go_wp2_with (first
      | (go_at_call 43; (with_reducible refine (Rising_yes _ _ _ _ _ HU.out o1.len i1).mono ?_); rintro e w5 ⟨rfl, rfl⟩; dsimp only)
      | (go_at_call 38; (with_reducible refine (HS.out _ (hm.mono (box_old hQ))).mono ?_); rintro e w4 ⟨rfl, hb⟩; replace i1 := i1.mono hb; replace i2 := i2.mono hb; replace hQ := box_on hQ hb; replace hx4 := box_four hQ; replace hz := box_size hQ; dsimp only)
      | (go_at_call 28; (with_reducible refine (A_Wait _ _ _ _ _ _ _ _ m wv we hW.out _ (hm.mono (box_old hQ))).mono ?_); rintro e w3 ⟨a2, c2, rfl, o2, i2, hb⟩; replace i1 := i1.mono hb; replace hQ := box_on hQ hb; replace hx4 := box_four hQ; replace hz := box_size hQ; dsimp only)
      | (go_at_call 26; (with_reducible refine (A_Held _ _ _ _ _ _ _ _ m U 0 hH.out _ (hm.mono (box_old hQ))).mono ?_); rintro e w2 ⟨a1, c1, rfl, o1, i1, hb⟩; replace hQ := box_on hQ hb; replace hx4 := box_four hQ; replace hz := box_size hQ; dsimp only))
    go_loopw [9] (fun i wr => ∃ k : Nat, k ≤ m.sums.length ∧ i = .int .i64 k ∧ Below w4.heap.size w4 wr) (fun i _ => m.sums.length - (intOf i).toNat)
    case atStart => exact ⟨0, Nat.zero_le _, rfl, Below.refl _ _⟩
    case round =>
      obtain ⟨k, hk, rfl, hB⟩ := hrel
      have hQ2 := box_on hQ hB
      replace hx4 := box_four hQ2
      replace hz := box_size hQ2
      by_cases hlt : k < m.sums.length
      · obtain ⟨WH, hF, hp, hr, hh⟩ := FW.out k hlt
        have hp0 : ((WH.length : Int) == 0) = false := eqi_f (by omega)
        replace hF := Lib.hid hF
        replace hr := Lib.hid hr
        have i1' := i1.mono hB
        by_cases hgt : 1 < WH.length
        all_goals
          first
            | (have hh2 : Hid (hasB U k = true) := Lib.hid (hh.trans (decide_eq_true hgt)); have hg2 := gt_t hgt; have hg3 : decide (1 < WH.length) = true := decide_eq_true hgt)
            | (have hh2 : Hid (hasB U k = false) := Lib.hid (hh.trans (decide_eq_false hgt)); have hg2 := gt_f hgt; have hg3 : decide (1 < WH.length) = false := decide_eq_false hgt)
          clear hh
          go_wp2_with (first
            | (go_at_call 44; (with_reducible refine (Has_is _ _ _ _ _ _ hh2.out o1.len i1').mono ?_); rintro e w7 ⟨rfl, rfl⟩; dsimp only)
            | (go_at_call 43; (with_reducible refine (Rising_yes _ _ _ _ _ hr.out o5.len i5).mono ?_); rintro e w6 ⟨rfl, rfl⟩; dsimp only)
            | (go_at_call 21; (with_reducible refine (A_For _ _ _ _ _ _ _ _ m k WH 0 hF.out _ (hm.mono (box_old hQ2))).mono ?_); rintro e w5 ⟨a5, c5, rfl, o5, i5, hb⟩; replace i1' := i1'.mono hb; replace hB := hB.trans (hb.mono hB.size); replace hx4 := box_four (box_on hQ hB); replace hz := box_size (box_on hQ hB); dsimp only))
          go_roundw
          case rel => exact ⟨k + 1, by omega, by go_num, hB⟩
          case measure => simp [intOf]; omega
      · clear hx4 hz
        have hx4 := box_four hQ2
        have hz := box_size hQ2
        go_wp2_with (first
          | (go_at_call 45; (with_reducible refine (HL.out _ (hm.mono (box_old hQ2))).mono ?_); rintro e w6 ⟨v, rfl, ⟨aL, cL, rfl, oL, iL⟩, hb⟩; replace hB := hB.trans (hb.mono hB.size); dsimp only))
        have hQ6 := box_on hQ hB
        replace i1 := i1.mono hB
        replace i2 := i2.mono hB
        clear hx4 hz
        go_loopw [13, 14] (fun o i wq => ∃ k : Nat, k ≤ LT.length ∧ i = .int .i64 k ∧ wq.ownsRow w6.heap.size 3 1 o (pickTo LT (x : Int) k).length ((pickTo LT (x : Int) k).map (Value.int .i64)) ∧ Below w6.heap.size w6 wq) (fun _ i _ => LT.length - (intOf i).toNat)
        case atStart => exact ⟨0, Nat.zero_le _, rfl, World.ownsRow_nil _ _ _ _, Below.refl _ _⟩
        case round =>
          obtain ⟨k, hk, rfl, hown, hB6⟩ := hrel
          have hB6z := hB6.size
          by_cases hlt : k < LT.length
          · have hy := Lib.hid (pickTo_yes (b := (x : Int)) hlt)
            have hn := Lib.hid (pickTo_no (l := LT) (b := (x : Int)) (j := k))
            have hpl := PL.out k
            generalize hL : pickTo LT (x : Int) k = L at hown hy hn hpl
            clear hL
            obtain ⟨bl, ol, rfl, hbl, hcl⟩ := iL k hlt
            have hcl2 := cell_below hB6 hcl
            have hbl2 := lt_of_cell hcl2
            cases hbit : bitB (x : Int) k
            · go_wp2_with (go_at_call 46; (with_reducible refine (Bit_is x k _ _ hbit (by omega) (by omega)).mono ?_); rintro e w7 ⟨rfl, rfl⟩; dsimp only)
              go_roundw
              case rel => exact ⟨k + 1, by omega, by go_num, by rw [hn.out hbit]; exact hown, hB6⟩
              case measure => simp [intOf]; omega
            · generalize LT[k] = v at hy hcl2
              go_wp2_with (first
                | (at_builtin; go_must (refine wpList_app (.tmp 109) (.tmp 114) E_int rfl rfl rfl rfl w6.heap.size L.length 1 (L.map (Value.int .i64)) [.int .i64 v] (hown.alloc _) (SrcAt.one _ _ _ rfl) (by omega) (by decide) (by simp; omega) ?_; intro v2 w8 ho2 hg2 _; (have hb2 := app_next hB6 (Nat.le_refl _) (Nat.le_refl _) hown hg2); clear hg2; simp only [Act.put, List.setIfInBounds_toArray, List.set_cons_succ, List.set_cons_zero]))
                | (go_at_call 46; (with_reducible refine (Bit_is x k _ _ hbit (by omega) (by omega)).mono ?_); rintro e w7 ⟨rfl, rfl⟩; dsimp only))
              go_roundw
              case rel => exact ⟨k + 1, by omega, by go_num, by rw [hy.out hbit]; simpa using ho2, hb2⟩
              case measure => simp [intOf]; omega
          · obtain rfl : k = LT.length := by omega
            have hO := Lib.hid PB.out
            have W0O := Lib.hid (fun h => (W0.out h).2 (x : Int))
            have W1O := Lib.hid (fun h => (W1.out h).2.1 (x : Int))
            generalize pickTo LT (x : Int) LT.length = O at hown hO W0O W1O
            obtain ⟨a3, c3, rfl, o3, i3⟩ := ints_ownV hown
            have hQ7 := box_on hQ6 hB6
            have hx4 := box_four hQ7
            have hz := box_size hQ7
            replace i1 := i1.mono hB6
            replace i2 := i2.mono hB6
            have iL' := iL.mono hB6
            go_upto_region 21 with (first
              | (go_at_call 47; (with_reducible refine (DC.out a3 O c3 _ (hm.mono (box_old hQ7)) o3 i3 hO.out).mono ?_); rintro e w9 ⟨rfl, hb⟩; replace hQ7 := box_on hQ7 hb; replace hx4 := box_four hQ7; replace hz := box_size hQ7; replace i1 := i1.mono hb; replace i2 := i2.mono hb; replace i3 := i3.mono hb; replace iL' := iL'.mono hb; dsimp only))
            by_cases hwe : we = 0
            · obtain ⟨hr, -, hlt3, hbd, hhK⟩ := W1.out hwe
              have hF := W1O.out hwe
              subst hwe
              have WW := Lib.hid (fun (W : World) (h : ListC W ac az aw ap cc cz cw cp m) (h2 : IntsC W a2 wv) => With7_any _ _ _ _ _ _ _ _ m a2 wv c2 W h o2 h2 hbd (by omega))
              generalize withWords m wv = K at WW hhK
              generalize decides m O = D at hF ⊢
              replace hF := Lib.hid hF
              replace hr := Lib.hid hr
              replace hhK := Lib.hid hhK
              replace hlt3 := Lib.hid hlt3
              clear hk hbd
              go_upto_region 23 with (fail)
              go_cut [148] (fun v W => v = .bool false ∧ Below w9.heap.size w9 W)
              case first =>
                have hB9 := Below.refl w9.heap.size w9
                cases D
                · go_wp2_with (first
                    | (go_at_call 43; (with_reducible refine (Rising_yes _ _ _ _ _ hr.out o2.len i2).mono ?_); rintro e w10 ⟨rfl, rfl⟩; dsimp only))
                  go_meet
                  case rel => exact ⟨rfl, hB9⟩
                · go_wp2_with (first
                    | (go_at_call 48; (with_reducible refine (Fewer_no _ _ _ _ _ _ _ (hF.out rfl) o3.len o2.len i3 i2).mono ?_); rintro e w11 ⟨rfl, hb⟩; replace hB9 := hB9.trans (hb.mono hB9.size); dsimp only)
                    | (go_at_call 43; (with_reducible refine (Rising_yes _ _ _ _ _ hr.out o2.len i2).mono ?_); rintro e w10 ⟨rfl, rfl⟩; dsimp only))
                  go_meet
                  case rel => exact ⟨rfl, hB9⟩
              case rest =>
                obtain ⟨rfl, hB9⟩ := hcut
                replace hQ7 := box_on hQ7 hB9
                replace i2 := i2.mono hB9
                replace iL' := iL'.mono hB9
                have lw := o2.len
                clear hx4 hz
                go_wp2
                go_loopw [16] (fun i wr => ∃ k : Nat, k ≤ wv.length ∧ i = .int .i64 k ∧ Below wc.heap.size wc wr) (fun i _ => wv.length - (intOf i).toNat)
                case atStart => exact ⟨0, Nat.zero_le _, rfl, Below.refl _ _⟩
                case round =>
                  obtain ⟨k, hk, rfl, hBc⟩ := hrel
                  by_cases hlt : k < wv.length
                  · obtain ⟨b2, f2, rfl, hb2, hc2⟩ := i2 k hlt
                    have hc3 := cell_below hBc hc2
                    have hb3 := lt_of_cell hc3
                    have hh := Lib.hid (hlt3.out _ (List.getElem_mem hlt))
                    generalize wv[k] = v at hc3 hh hc2
                    have iL9 := iL'.mono hBc
                    go_wp2_with (go_at_call 44; (with_reducible refine (Has_is _ _ _ _ _ _ hh.out oL.len iL9).mono ?_); rintro e w12 ⟨rfl, rfl⟩; dsimp only)
                    go_roundw
                    case rel => exact ⟨k + 1, by omega, by go_num, hBc⟩
                    case measure => simp [intOf]; omega
                  · have hQ8 := box_on hQ7 hBc
                    have hx4 := box_four hQ8
                    have hz := box_size hQ8
                    go_wp2_with (first
                      | (go_at_call 23; (with_reducible refine (Awake_any _).mono ?_); rintro e w15 ⟨rfl, hb⟩; replace hQ8 := box_on hQ8 hb; dsimp only)
                      | (go_at_call 26; (with_reducible refine (A_Held _ _ _ _ _ _ _ _ K [] 0 hhK.out _ hK).mono ?_); rintro e w14 ⟨a6, c6, rfl, o6, i6, hb⟩; replace hQ8 := box_on hQ8 hb; dsimp only [List.length_nil])
                      | (go_at_call 49; (with_reducible refine (WW.out _ (hm.mono (box_old hQ8)) (i2.mono hBc)).mono ?_); rintro e w13 ⟨aw', cw', rfl, hK, hb⟩; replace hQ8 := box_on hQ8 hb; dsimp only))
                    go_ret
                    exact ⟨rfl, box_old hQ8⟩
            · have hD := W0O.out hwe
              obtain ⟨heq, -⟩ := W0.out hwe
              obtain ⟨rfl, rfl⟩ := Prod.mk.inj heq
              rw [hD]
              clear hk
              go_wp2_with (first
                | (go_at_call 23; (with_reducible refine (Awake_any _).mono ?_); rintro e w15 ⟨rfl, hb⟩; replace hQ7 := box_on hQ7 hb; dsimp only))
              go_ret
              exact ⟨rfl, box_old hQ7⟩
  · have hH := held_no h0
    have hW := wait_no h0
    have he' := nei_t h0
    have HS := Lib.hid (fun (W : World) (h : ListC W ac az aw ap cc cz cw cp m) => SomeL_no _ _ _ _ _ _ _ _ m h0 W h)
    generalize wholeErr m = e1 at hH hW he'
    have hee := eqi_t (rfl : e1 = e1)
    replace hH := Lib.hid hH
    replace hW := Lib.hid hW
    clear h0
    go_enter Try.func9, Try.ntmps9
    go_wp2_with (first
      | (go_at_call 23; (with_reducible refine (Awake_any _).mono ?_); rintro e w5 ⟨rfl, hb⟩; replace hQ := box_on hQ hb; replace hx4 := box_four hQ; replace hz := box_size hQ; dsimp only)
      | (go_at_call 38; (with_reducible refine (HS.out _ (hm.mono (box_old hQ))).mono ?_); rintro e w4 ⟨rfl, hb⟩; replace hQ := box_on hQ hb; replace hx4 := box_four hQ; replace hz := box_size hQ; dsimp only)
      | (go_at_call 28; (with_reducible refine (A_Wait _ _ _ _ _ _ _ _ m [] e1 hW.out _ (hm.mono (box_old hQ))).mono ?_); rintro e w3 ⟨a2, c2, rfl, o2, i2, hb⟩; replace hQ := box_on hQ hb; replace hx4 := box_four hQ; replace hz := box_size hQ; dsimp only [List.length_nil])
      | (go_at_call 26; (with_reducible refine (A_Held _ _ _ _ _ _ _ _ m [] e1 hH.out _ (hm.mono (box_old hQ))).mono ?_); rintro e w2 ⟨a1, c1, rfl, o1, i1, hb⟩; replace hQ := box_on hQ hb; replace hx4 := box_four hQ; replace hz := box_size hQ; dsimp only [List.length_nil]))
    go_ret
    exact ⟨rfl, box_old hQ⟩
end Go.Proofs.Ytnlolliankhfmaa
