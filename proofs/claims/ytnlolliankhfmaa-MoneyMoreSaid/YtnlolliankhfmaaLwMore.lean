/- What is proved here: the walk of MoneyMore: it returns true, and turns nothing that was there. Conditions: the list lies in memory. -/
import Derived.Test.YtnlolliankhfmaaLwL
import Derived.Test.YtnlolliankhfmaaPlNeed
set_option linter.unusedVariables false
set_option linter.unusedSimpArgs false
namespace Go.Proofs.Ytnlolliankhfmaa
open Go Go.RowKit
set_option maxRecDepth 100000 in
set_option maxHeartbeats 4000000 in
theorem MoneyMore_walk (ac az aw ap : Option Addr) (cc cz cw cp : Nat) (m : MoList) (x : Nat) (hx : x ≤ 255) (w : World) (hm : ListC w ac az aw ap cc cz cw cp m) : Calls Try.prog 12 #[(.agg #[.slice ac m.claimants.length cc, .slice az m.sums.length cz, .slice aw m.words.length cw, .slice ap m.paid.length cp]), .int .u8 (x : Int)] w fun e w' => e = .returned (.bool true) ∧ Below w.heap.size w w' := by
  have hQ := Below.refl (w.heap.size + 1) (w.alloc (.cells #[.slice ac m.claimants.length cc, .slice az m.sums.length cz, .slice aw m.words.length cw, .slice ap m.paid.length cp] 27))
  have hx4 := box_four hQ
  have hz := box_size hQ
  have l3 := hm.okw.len
  by_cases h0 : wholeErr m = 0
  · have HS := Lib.hid (fun (W : World) (h : ListC W ac az aw ap cc cz cw cp m) => SomeL_yes _ _ _ _ _ _ _ _ m h0 W h)
    obtain ⟨l1, n1, hF, -, -⟩ := first_is h0
    have hv := (whole_valid h0).1
    have n6 := hv.nw
    by_cases hw0 : m.words.length = 0
    · replace hF := Lib.hid hF
      have hw1 : ((m.words.length : Int) == 0) = true := eqi_t (by omega)
      replace hw0 := Lib.hid hw0
      clear h0 hv
      go_enter Try.func12, Try.ntmps12
      go_wp2_with (first
        | (go_at_call 23; (with_reducible refine (Awake_any _).mono ?_); rintro e w5 ⟨rfl, hb⟩; replace hQ := box_on hQ hb; replace hx4 := box_four hQ; replace hz := box_size hQ; dsimp only)
        | (go_at_call 18; (with_reducible refine (A_First _ _ _ _ _ _ _ _ m l1 n1 0 hF.out _ (hm.mono (box_old hQ))).mono ?_); rintro e w3 ⟨a1, c1, rfl, o1, i1, hb⟩; replace hQ := box_on hQ hb; replace hx4 := box_four hQ; replace hz := box_size hQ; dsimp only)
        | (go_at_call 38; (with_reducible refine (HS.out _ (hm.mono (box_old hQ))).mono ?_); rintro e w2 ⟨rfl, hb⟩; replace hQ := box_on hQ hb; replace hx4 := box_four hQ; replace hz := box_size hQ; dsimp only))
      go_ret
      exact ⟨rfl, box_old hQ⟩
    · have hk : x % m.words.length < m.words.length := Nat.mod_lt _ (by omega)
      have hw1 : ((m.words.length : Int) == 0) = false := eqi_f (by omega)
      have W1 := Lib.hid (fun (W : World) (t : TypeId) (h : ListC W ac az aw ap cc cz cw cp m) => With_one _ _ _ _ _ _ _ _ m _ t W h hk n6)
      simp only [Int.natCast_emod] at W1
      obtain ⟨bw, ow, rfl, hbw, _, _, _, hcb, _⟩ := hm.words _ hk
      obtain ⟨bk, hbk⟩ : ∃ bk, bk = m.words[x % m.words.length].back := ⟨_, rfl⟩
      rw [← hbk] at hcb
      have hcb2 := cell_below (box_old hQ) hcb
      have hbw2 := lt_of_cell hcb2
      by_cases hb1 : bk = -1
      · subst hb1
        obtain ⟨hKe, hD1, hD2⟩ := more_facts h0 hk hbk.symm
        have PC := fun (i : Nat) (hi : i < m.sums.length) => pay_cases h0 hi
        have hH := held_yes h0
        generalize withCame m (x % m.words.length) true = K at hKe hD1 hD2 W1
        clear hbk
        by_cases hK0 : wholeErr K = 0
        · obtain ⟨hn, hP, hHK, hHl⟩ := hD2 hK0
          obtain ⟨l2, n2, hFK, -, -⟩ := first_is hK0
          rw [hF, hFK] at hn
          simp only at hn
          replace PC : Hid (∀ i : Nat, i < m.sums.length → (∃ c : Int, payOf m i = (c, 0) ∧ payOf K i = (c, 0)) ∨ payOf m i = (0, 9)) := Lib.hid (fun i hi => by
            rcases PC i hi with ⟨c, h1, -⟩ | ⟨h1, -⟩
            · left
              have := hP i hi (by rw [h1])
              exact ⟨c, h1, by rw [this, h1]⟩
            · exact .inr h1)
          generalize unsure m (truths m) = U at hH hHl
          generalize unsure K (truths K) = U2 at hHK hHl
          have hnb : decide (n1 < n2) = false := by simpa using hn
          have hlb : decide ((U2.length : Int) ≤ (U.length : Int)) = true := by simpa using hHl
          have hlb2 : decide (U2.length ≤ U.length) = true := by simpa using hHl
          replace hF := Lib.hid hF
          replace hFK := Lib.hid hFK
          replace hH := Lib.hid hH
          replace hHK := Lib.hid hHK
          have l2z := hm.okz.len
          have n5 := hv.nz
          clear h0 hv hD1 hD2 hP hKe hn hK0
          go_enter Try.func12, Try.ntmps12
          go_wp2_with (first
            | (go_at_call 18; (with_reducible refine (A_First _ _ _ _ _ _ _ _ m l1 n1 0 hF.out _ (hm.mono (box_old (box_on hQ (box_old hR))))).mono ?_); rintro e w5 ⟨a2, c2, rfl, o2, i2, hb⟩; replace hR := box_on hR hb; replace hy4 := box_four hR; replace hx4 := box_four (box_on hQ (box_old hR)); replace hz := box_size (box_on hQ (box_old hR)); replace hzy := box_size hR; dsimp only)
            | (go_at_call 18; (with_reducible refine (A_First _ _ _ _ _ _ _ _ K l2 n2 0 hFK.out _ (hK.mono (box_old hR))).mono ?_); rintro e w4 ⟨a1, c1, rfl, o1, i1, hb⟩; replace hR := box_on hR hb; replace hy4 := box_four hR; replace hx4 := box_four (box_on hQ (box_old hR)); replace hz := box_size (box_on hQ (box_old hR)); replace hzy := box_size hR; dsimp only)
            | (go_at_call 49; (with_reducible refine (W1.out _ _ (hm.mono (box_old hQ))).mono ?_); rintro e w3 ⟨aw', cw', rfl, hK, hb⟩; replace hQ := box_on hQ hb; have hR := Below.refl (w3.heap.size + 1) (w3.alloc (.cells #[.slice ac K.claimants.length cc, .slice az K.sums.length cz, .slice aw' K.words.length cw', .slice ap K.paid.length cp] 27)); have hy4 := box_four hR; have hzy := box_size hR; replace hx4 := box_four (box_on hQ (box_old hR)); replace hz := box_size (box_on hQ (box_old hR)); dsimp only)
            | (go_at_call 38; (with_reducible refine (HS.out _ (hm.mono (box_old hQ))).mono ?_); rintro e w2 ⟨rfl, hb⟩; replace hcb2 := cell_below hb hcb2; replace hbw2 := lt_of_cell hcb2; replace hQ := box_on hQ hb; replace hx4 := box_four hQ; replace hz := box_size hQ; dsimp only))
          clear hb o1 o2 i1 i2 hcb hcb2 hbw hbw2
          go_loopw [16] (fun i wr => ∃ k : Nat, k ≤ m.sums.length ∧ i = .int .i64 k ∧ Below (w3.heap.size + 1) (w3.alloc (.cells #[.slice ac K.claimants.length cc, .slice az K.sums.length cz, .slice aw' K.words.length cw', .slice ap K.paid.length cp] 27)) wr) (fun i _ => m.sums.length - (intOf i).toNat)
          case atStart => exact ⟨0, Nat.zero_le _, rfl, hR⟩
          case round =>
            clear hR hx4 hy4 hz hzy
            obtain ⟨i, hi, rfl, hR⟩ := hrel
            have hy4 := box_four hR
            have hx4 := box_four (box_on hQ (box_old hR))
            have hz := box_size (box_on hQ (box_old hR))
            have hzy := box_size hR
            by_cases hlt : i < m.sums.length
            · rcases PC.out i hlt with ⟨c, hp1, hp2⟩ | hp1
              · replace hp1 := Lib.hid hp1
                replace hp2 := Lib.hid hp2
                have hcc := nei_f (rfl : c = c)
                go_wp2_with (first
                  | (go_at_call 24; (with_reducible refine (A_Pay _ _ _ _ _ _ _ _ m i c 0 hp1.out _ (hm.mono (box_old (box_on hQ (box_old hR))))).mono ?_); rintro e w6 ⟨rfl, hb⟩; replace hR := box_on hR hb; replace hy4 := box_four hR; replace hx4 := box_four (box_on hQ (box_old hR)); replace hz := box_size (box_on hQ (box_old hR)); replace hzy := box_size hR; dsimp only)
                  | (go_at_call 24; (with_reducible refine (A_Pay _ _ _ _ _ _ _ _ K i c 0 hp2.out _ (hK.mono (box_old hR))).mono ?_); rintro e w7 ⟨rfl, hb⟩; replace hR := box_on hR hb; replace hy4 := box_four hR; replace hx4 := box_four (box_on hQ (box_old hR)); replace hz := box_size (box_on hQ (box_old hR)); replace hzy := box_size hR; dsimp only))
                go_roundw
                case rel => exact ⟨i + 1, by omega, by go_num, hR⟩
                case measure => simp [intOf]; omega
              · obtain ⟨⟨c2, e2⟩, hp2⟩ : ∃ r, payOf K i = r := ⟨_, rfl⟩
                replace hp1 := Lib.hid hp1
                replace hp2 := Lib.hid hp2
                go_wp2_with (first
                  | (go_at_call 24; (with_reducible refine (A_Pay _ _ _ _ _ _ _ _ m i 0 9 hp1.out _ (hm.mono (box_old (box_on hQ (box_old hR))))).mono ?_); rintro e w6 ⟨rfl, hb⟩; replace hR := box_on hR hb; replace hy4 := box_four hR; replace hx4 := box_four (box_on hQ (box_old hR)); replace hz := box_size (box_on hQ (box_old hR)); replace hzy := box_size hR; dsimp only)
                  | (go_at_call 24; (with_reducible refine (A_Pay _ _ _ _ _ _ _ _ K i c2 e2 hp2.out _ (hK.mono (box_old hR))).mono ?_); rintro e w7 ⟨rfl, hb⟩; replace hR := box_on hR hb; replace hy4 := box_four hR; replace hx4 := box_four (box_on hQ (box_old hR)); replace hz := box_size (box_on hQ (box_old hR)); replace hzy := box_size hR; dsimp only))
                go_roundw
                case rel => exact ⟨i + 1, by omega, by go_num, hR⟩
                case measure => simp [intOf]; omega
            · go_wp2_with (first
                | (go_at_call 23; (with_reducible refine (Awake_any _).mono ?_); rintro e w8 ⟨rfl, hb⟩; replace hR := box_on hR hb; replace hy4 := box_four hR; replace hx4 := box_four (box_on hQ (box_old hR)); replace hz := box_size (box_on hQ (box_old hR)); replace hzy := box_size hR; dsimp only)
                | (go_at_call 26; (with_reducible refine (A_Held _ _ _ _ _ _ _ _ m U 0 hH.out _ (hm.mono (box_old (box_on hQ (box_old hR))))).mono ?_); rintro e w6 ⟨a3, c3, rfl, o3, i3, hb⟩; replace hR := box_on hR hb; replace hy4 := box_four hR; replace hx4 := box_four (box_on hQ (box_old hR)); replace hz := box_size (box_on hQ (box_old hR)); replace hzy := box_size hR; dsimp only)
                | (go_at_call 26; (with_reducible refine (A_Held _ _ _ _ _ _ _ _ K U2 0 hHK.out _ (hK.mono (box_old hR))).mono ?_); rintro e w7 ⟨a4, c4, rfl, o4, i4, hb⟩; replace hR := box_on hR hb; replace hy4 := box_four hR; replace hx4 := box_four (box_on hQ (box_old hR)); replace hz := box_size (box_on hQ (box_old hR)); replace hzy := box_size hR; dsimp only))
              go_ret
              exact ⟨rfl, box_old (box_on hQ (box_old hR))⟩
        · obtain ⟨hFK, hT⟩ := hD1 hK0
          have hvK := valid_of hKe
          have HT := Lib.hid (fun (ac az aw ap : Option Addr) (cc cz cw cp : Nat) (W : World) (h : ListC W ac az aw ap cc cz cw cp K) => Truths7_any ac az aw ap cc cz cw cp K W h hvK)
          obtain hT := List.eq_nil_of_length_eq_zero hT
          rw [hT] at HT
          replace hFK := Lib.hid hFK
          replace hF := Lib.hid hF
          clear h0 hv hD1 hD2 hKe hK0 PC hH hT hvK
          go_enter Try.func12, Try.ntmps12
          go_wp2_with (first
            | (go_at_call 23; (with_reducible refine (Awake_any _).mono ?_); rintro e w6 ⟨rfl, hb⟩; replace hR := box_on hR hb; replace hy4 := box_four hR; replace hx4 := box_four (box_on hQ (box_old hR)); replace hz := box_size (box_on hQ (box_old hR)); replace hzy := box_size hR; dsimp only)
            | (go_at_call 39; (with_reducible refine (HT.out _ _ _ _ _ _ _ _ _ (hK.mono (box_old hR))).mono ?_); rintro e w5 ⟨v, rfl, ⟨aT, cT, rfl, hsT, -⟩, hb⟩; replace hR := box_on hR hb; replace hy4 := box_four hR; replace hx4 := box_four (box_on hQ (box_old hR)); replace hz := box_size (box_on hQ (box_old hR)); replace hzy := box_size hR; dsimp only [List.length_nil])
            | (go_at_call 18; (with_reducible refine (A_First _ _ _ _ _ _ _ _ K [] 0 8 hFK.out _ (hK.mono (box_old hR))).mono ?_); rintro e w4 ⟨a1, c1, rfl, o1, i1, hb⟩; replace hR := box_on hR hb; replace hy4 := box_four hR; replace hx4 := box_four (box_on hQ (box_old hR)); replace hz := box_size (box_on hQ (box_old hR)); replace hzy := box_size hR; dsimp only)
            | (go_at_call 49; (with_reducible refine (W1.out _ _ (hm.mono (box_old hQ))).mono ?_); rintro e w3 ⟨aw', cw', rfl, hK, hb⟩; replace hQ := box_on hQ hb; have hR := Below.refl (w3.heap.size + 1) (w3.alloc (.cells #[.slice ac K.claimants.length cc, .slice az K.sums.length cz, .slice aw' K.words.length cw', .slice ap K.paid.length cp] 27)); have hy4 := box_four hR; have hzy := box_size hR; replace hx4 := box_four (box_on hQ (box_old hR)); replace hz := box_size (box_on hQ (box_old hR)); dsimp only)
            | (go_at_call 38; (with_reducible refine (HS.out _ (hm.mono (box_old hQ))).mono ?_); rintro e w2 ⟨rfl, hb⟩; replace hcb2 := cell_below hb hcb2; replace hbw2 := lt_of_cell hcb2; replace hQ := box_on hQ hb; replace hx4 := box_four hQ; replace hz := box_size hQ; dsimp only))
          go_ret
          exact ⟨rfl, box_old (box_on hQ (box_old hR))⟩
      · have hb2 := nei_t hb1
        replace hbk := Lib.hid hbk
        clear h0 hv hF hb1 W1
        go_enter Try.func12, Try.ntmps12
        go_wp2_with (first
          | (go_at_call 23; (with_reducible refine (Awake_any _).mono ?_); rintro e w5 ⟨rfl, hb⟩; replace hQ := box_on hQ hb; replace hx4 := box_four hQ; replace hz := box_size hQ; dsimp only)
          | (go_at_call 38; (with_reducible refine (HS.out _ (hm.mono (box_old hQ))).mono ?_); rintro e w2 ⟨rfl, hb⟩; replace hcb2 := cell_below hb hcb2; replace hbw2 := lt_of_cell hcb2; replace hQ := box_on hQ hb; replace hx4 := box_four hQ; replace hz := box_size hQ; dsimp only))
        go_ret
        exact ⟨rfl, box_old hQ⟩
  · have hF : firstOf m = ([], 0, wholeErr m) := by unfold firstOf; rw [if_neg h0]
    have he' := eqi_f h0
    have HS := Lib.hid (fun (W : World) (h : ListC W ac az aw ap cc cz cw cp m) => SomeL_no _ _ _ _ _ _ _ _ m h0 W h)
    generalize wholeErr m = e1 at hF he'
    replace hF := Lib.hid hF
    clear h0
    go_enter Try.func12, Try.ntmps12
    go_wp2_with (first
      | (go_at_call 23; (with_reducible refine (Awake_any _).mono ?_); rintro e w5 ⟨rfl, hb⟩; replace hQ := box_on hQ hb; replace hx4 := box_four hQ; replace hz := box_size hQ; dsimp only)
      | (go_at_call 18; (with_reducible refine (A_First _ _ _ _ _ _ _ _ m [] 0 e1 hF.out _ (hm.mono (box_old hQ))).mono ?_); rintro e w3 ⟨a1, c1, rfl, o1, i1, hb⟩; replace hQ := box_on hQ hb; replace hx4 := box_four hQ; replace hz := box_size hQ; dsimp only)
      | (go_at_call 38; (with_reducible refine (HS.out _ (hm.mono (box_old hQ))).mono ?_); rintro e w2 ⟨rfl, hb⟩; replace hQ := box_on hQ hb; replace hx4 := box_four hQ; replace hz := box_size hQ; dsimp only))
    go_ret
    exact ⟨rfl, box_old hQ⟩
end Go.Proofs.Ytnlolliankhfmaa
