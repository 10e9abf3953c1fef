/- What is proved here: the contract of slices.Compare at ints, both signs; the contract of fewest. Conditions: a function that answers as a plain one does. -/
import Derived.Test.YtnlolliankhfmaaLook15
import Derived.Test.YtnlolliankhfmaaPlain
set_option linter.unusedVariables false
set_option linter.unusedSimpArgs false
namespace Go.Proofs.Ytnlolliankhfmaa
open Go Go.RowKit

set_option maxHeartbeats 400000 in
theorem Cmp2_any (a1 a2 : Option Addr) (l1 l2 : List Int) (c1 c2 : Nat) (w : World) (hl : l1.length = l2.length) (hl5 : l2.length ≤ 9223372036854775807) (h1 : IntsC w a1 l1) (h2 : IntsC w a2 l2) :
    Calls Try.prog 75 #[.slice a1 l1.length c1, .slice a2 l2.length c2] w fun e w' => ∃ k : Int, e = .returned (.int .i64 k) ∧ Hid (decide (0 < k) = less l2 l1) ∧ w' = w := by
  have HC := Lib.hid (fun (x y : Int) (W : World) => CmpInt_any x y W)
  obtain ⟨r, hr⟩ : ∃ r, r = less l2 l1 := ⟨_, rfl⟩
  rw [← hr]
  have h00 : Hid (less (l2.drop 0) (l1.drop 0) = r) := hr.symm
  clear hr
  go_enter Try.func75, Try.ntmps75
  go_wp2
  go_loop [11] (fun i => ∃ k : Nat, i = .int .i64 k ∧ k ≤ l1.length ∧ Hid (less (l2.drop k) (l1.drop k) = r)) (fun i => l1.length - (intOf i).toNat)
  case atStart => exact ⟨0, rfl, by omega, h00⟩
  case round =>
    obtain ⟨k, rfl, hk, hr⟩ := hrel
    by_cases hlt : k < l1.length
    · obtain ⟨b1, o1, rfl, hb1, hc1⟩ := h1 k hlt
      obtain ⟨b2, o2, rfl, hb2, hc2⟩ := h2 k (by omega)
      have hlt2 : k < l2.length := by omega
      have hst := Lib.hid ((less_at l2 l1 k hlt2 hlt).symm.trans hr.out)
      generalize hx : l1[k] = x at hc1 hst
      generalize hy : l2[k] = y at hc2 hst
      clear hx hy
      have HK : Hid (cmpI x y = if x < y then -1 else if y < x then 1 else 0) := rfl
      have HC := fun W => HC.out x y W
      generalize cmpI x y = q at HC HK
      have HC := Lib.hid HC
      by_cases hq : q = 0
      · have g1 := nei_f hq
        go_wp2_with (go_at_call 102; refine (HC.out _).mono ?_; rintro e w2 ⟨rfl, rfl⟩; dsimp only)
        go_round
        case rel => exact ⟨k + 1, by go_num, by omega, Lib.hid (by rw [← hst.out]; have := HK.out; have e : y = x := (by split at this <;> (try split at this) <;> omega); rw [if_pos e])⟩
        case measure => simp [intOf]; omega
      · have g1 := nei_t hq
        go_wp2_with (go_at_call 102; refine (HC.out _).mono ?_; rintro e w2 ⟨rfl, rfl⟩; dsimp only)
        go_ret
        refine ⟨_, rfl, Lib.hid ?_, rfl⟩
        rw [← hst.out]
        have := HK.out
        have e : y ≠ x := by intro e; subst e; simp at this; exact hq this
        rw [if_neg e, decide_eq_decide]
        split at this <;> (try split at this) <;> omega
    · obtain rfl : k = l1.length := by omega
      go_wp2
      go_ret
      refine ⟨_, rfl, Lib.hid ?_, rfl⟩
      rw [← hr.out, List.drop_length, hl, List.drop_length]
      simp [less]

theorem two_pow_wrap : ∀ n : Nat, n ≤ 6 → wrap64 (2 ^ n) = ((2 ^ n : Nat) : Int) := by decide +kernel
theorem two_pow_le : ∀ n : Nat, n ≤ 6 → 2 ^ n ≤ 64 := by decide +kernel

set_option maxRecDepth 100000 in
set_option maxHeartbeats 800000 in
theorem MFewest_any (n F : Nat) (hn : n ≤ 6) (caps : Array Value) (so : Nat → Bool) (w : World) (hCF : ∀ (xs : Array Value) (W : World), (callFunc F xs).run Try.prog W = .ok (.enter F xs) W) (hF : ∀ (s : Nat) (W : World), s < 2 ^ n → Below w.heap.size w W → Calls Try.prog F (#[.int .i64 (s : Int)] ++ caps) W fun e W' => e = .returned (.bool (so s)) ∧ Below W.heap.size W W') :
    Calls Try.prog 83 #[.int .i64 (n : Int), .func (.func F) #[] caps] w fun e w' => ∃ v best found, e = .returned (.tuple #[v, .bool found]) ∧ IntsV w' v best ∧ Hid (Found n so (2 ^ n) best found) ∧ Below w.heap.size w w' := by
  have hp := two_pow_wrap n hn
  have hp64 := two_pow_le n hn
  have NU := Lib.hid (fun (s : Nat) (hs : s < 64) (W : World) => MNumbers_any s n hs hn W)
  generalize hNN : 2 ^ n = N at hp hp64 hF ⊢
  replace hF := Lib.hid hF
  clear hNN
  go_enter Try.func83, Try.ntmps83
  go_wp2
  rw [hp]
  clear hp
  go_loopw [4, 5, 10] (fun v f i wr => ∃ (k : Nat) (best : List Int) (found : Bool), k ≤ N ∧ i = .int .i64 k ∧ f = .bool found ∧ IntsV wr v best ∧ Hid (Found n so k best found) ∧ Below w.heap.size w wr) (fun _ _ i _ => N - (intOf i).toNat)
  case atStart => exact ⟨0, [], false, Nat.zero_le _, rfl, rfl, ⟨none, 0, rfl, ⟨by simp, by omega, fun _ => rfl⟩, IntsC.nil _ _⟩, Lib.hid (found_zero n so), Below.refl _ _⟩
  case round =>
    obtain ⟨k, best, found, hk, rfl, rfl, ⟨ab, cb, rfl, hsb, hib⟩, HFO, hB⟩ := hrel
    have hbl := hsb.len
    by_cases hlt : k < N
    · have HK1 := Lib.hid (fun (e : found = true) (h : fewer best (bitsList k n) = true) => (found_skip (e ▸ HFO.out) (.inr h) : Found n so (k + 1) best true))
      have HK2 := Lib.hid (fun (h : so k = false) => found_no HFO.out h)
      have HK3 := Lib.hid (fun (h : so k = true) (hf : found = true → fewer best (bitsList k n) = false) => found_yes HFO.out h hf)
      replace NU := fun W => NU.out k (by omega) W
      have C := fun W h => hF.out k W hlt h
      generalize bitsList k n = l at HK1 HK3 NU
      generalize so k = sk at HK2 HK3 C
      replace NU := Lib.hid NU
      replace C := Lib.hid C
      have hkN : (k : Int) < 64 := by omega
      cases found
      · replace HK3 := Lib.hid (fun h => HK3.out h (fun e => by cases e))
        cases sk
        · go_wp2_with (first | (go_at_call 77; go_must (refine (NU.out _).mono ?_; rintro e w2 ⟨v2, rfl, ⟨a2, c2, rfl, ho2, hi2⟩, hb2⟩; dsimp only)) | ((with_reducible refine (C.out _ (hB.trans (hb2.mono hB.size))).mono ?_); rintro e w3 ⟨rfl, hb3⟩; dsimp only))
          (go_roundw; case rel => exact ⟨k + 1, best, _, by omega, by go_num, rfl, IntsV.mono ⟨ab, cb, rfl, hsb, hib⟩ (hb2.trans (hb3.mono hb2.size)), Lib.hid (HK2.out rfl), hB.trans ((hb2.trans (hb3.mono hb2.size)).mono hB.size)⟩)
          (case measure => simp [intOf]; omega)
        · replace HK3 := Lib.hid (HK3.out rfl)
          go_wp2_with (first | (go_at_call 77; go_must (refine (NU.out _).mono ?_; rintro e w2 ⟨v2, rfl, ⟨a2, c2, rfl, ho2, hi2⟩, hb2⟩; dsimp only)) | ((with_reducible refine (C.out _ (hB.trans (hb2.mono hB.size))).mono ?_); rintro e w3 ⟨rfl, hb3⟩; dsimp only))
          (go_roundw; case rel => exact ⟨k + 1, l, true, by omega, by go_num, rfl, IntsV.mono ⟨a2, c2, rfl, ho2, hi2⟩ hb3, Lib.hid HK3.out, hB.trans ((hb2.trans (hb3.mono hb2.size)).mono hB.size)⟩)
          (case measure => simp [intOf]; omega)
      · by_cases h1 : best.length < l.length
        · have hK := Lib.hid (HK1.out rfl (by unfold fewer; rw [if_neg (by omega)]; simpa using h1))
          go_wp2_with (go_at_call 77; go_must (refine (NU.out _).mono ?_; rintro e w2 ⟨v2, rfl, ⟨a2, c2, rfl, ho2, hi2⟩, hb2⟩; dsimp only))
          go_roundw
          case rel => exact ⟨k + 1, best, true, by omega, by go_num, rfl, IntsV.mono ⟨ab, cb, rfl, hsb, hib⟩ hb2, hK, hB.trans (hb2.mono hB.size)⟩
          (case measure => simp [intOf]; omega)
        · by_cases h2 : l.length = best.length
          · have g2 := eqn_t h2
            have hle := Lib.hid h2
            replace HK1 := Lib.hid (fun h => HK1.out rfl h)
            replace HK3 := Lib.hid (fun h e => HK3.out h (fun _ => e))
            have hfw : fewer best l = less best l := by unfold fewer; rw [if_pos h2.symm]
            rw [hfw] at HK1 HK3
            clear hfw h2
            obtain ⟨lb, hlb0⟩ : ∃ lb, less best l = lb := ⟨_, rfl⟩
            rw [hlb0] at HK1 HK3
            have hlb := Lib.hid hlb0
            clear hlb0
            cases lb
            · replace HK3 := Lib.hid (fun h => HK3.out h rfl)
              cases sk
              · go_wp2_with (first | (go_at_call 77; go_must (refine (NU.out _).mono ?_; rintro e w2 ⟨v2, rfl, ⟨a2, c2, rfl, ho2, hi2⟩, hb2⟩; dsimp only)) | (go_at_call 75; go_must (refine (Cmp2_any a2 ab l best c2 cb w2 hle.out hbl hi2 (hib.mono hb2)).mono ?_; rintro e w4 ⟨q, rfl, hq, hw4⟩; obtain rfl := hw4.symm; have hq := hq.out.trans hlb.out; simp only [decide_eq_true_eq, decide_eq_false_iff_not] at hq; dsimp only)) | ((with_reducible refine (C.out _ (hB.trans (hb2.mono hB.size))).mono ?_); rintro e w3 ⟨rfl, hb3⟩; dsimp only))
                (go_roundw; case rel => exact ⟨k + 1, best, _, by omega, by go_num, rfl, IntsV.mono ⟨ab, cb, rfl, hsb, hib⟩ (hb2.trans (hb3.mono hb2.size)), Lib.hid (HK2.out rfl), hB.trans ((hb2.trans (hb3.mono hb2.size)).mono hB.size)⟩)
                (case measure => simp [intOf]; omega)
              · replace HK3 := Lib.hid (HK3.out rfl)
                go_wp2_with (first | (go_at_call 77; go_must (refine (NU.out _).mono ?_; rintro e w2 ⟨v2, rfl, ⟨a2, c2, rfl, ho2, hi2⟩, hb2⟩; dsimp only)) | (go_at_call 75; go_must (refine (Cmp2_any a2 ab l best c2 cb w2 hle.out hbl hi2 (hib.mono hb2)).mono ?_; rintro e w4 ⟨q, rfl, hq, hw4⟩; obtain rfl := hw4.symm; have hq := hq.out.trans hlb.out; simp only [decide_eq_true_eq, decide_eq_false_iff_not] at hq; dsimp only)) | ((with_reducible refine (C.out _ (hB.trans (hb2.mono hB.size))).mono ?_); rintro e w3 ⟨rfl, hb3⟩; dsimp only))
                (go_roundw; case rel => exact ⟨k + 1, l, true, by omega, by go_num, rfl, IntsV.mono ⟨a2, c2, rfl, ho2, hi2⟩ hb3, Lib.hid HK3.out, hB.trans ((hb2.trans (hb3.mono hb2.size)).mono hB.size)⟩)
                (case measure => simp [intOf]; omega)
            · have hK := Lib.hid (HK1.out rfl)
              go_wp2_with (first | (go_at_call 77; go_must (refine (NU.out _).mono ?_; rintro e w2 ⟨v2, rfl, ⟨a2, c2, rfl, ho2, hi2⟩, hb2⟩; dsimp only)) | (go_at_call 75; go_must (refine (Cmp2_any a2 ab l best c2 cb w2 hle.out hbl hi2 (hib.mono hb2)).mono ?_; rintro e w4 ⟨q, rfl, hq, hw4⟩; obtain rfl := hw4.symm; have hq := hq.out.trans hlb.out; simp only [decide_eq_true_eq, decide_eq_false_iff_not] at hq; dsimp only)))
              go_roundw
              case rel => exact ⟨k + 1, best, true, by omega, by go_num, rfl, IntsV.mono ⟨ab, cb, rfl, hsb, hib⟩ hb2, hK, hB.trans (hb2.mono hB.size)⟩
              (case measure => simp [intOf]; omega)
          · have g2 := eqn_f h2
            replace HK3 := Lib.hid (fun h => HK3.out h (fun _ => by unfold fewer; rw [if_neg (by omega)]; simpa using h1))
            cases sk
            · go_wp2_with (first | (go_at_call 77; go_must (refine (NU.out _).mono ?_; rintro e w2 ⟨v2, rfl, ⟨a2, c2, rfl, ho2, hi2⟩, hb2⟩; dsimp only)) | ((with_reducible refine (C.out _ (hB.trans (hb2.mono hB.size))).mono ?_); rintro e w3 ⟨rfl, hb3⟩; dsimp only))
              (go_roundw; case rel => exact ⟨k + 1, best, _, by omega, by go_num, rfl, IntsV.mono ⟨ab, cb, rfl, hsb, hib⟩ (hb2.trans (hb3.mono hb2.size)), Lib.hid (HK2.out rfl), hB.trans ((hb2.trans (hb3.mono hb2.size)).mono hB.size)⟩)
              (case measure => simp [intOf]; omega)
            · replace HK3 := Lib.hid (HK3.out rfl)
              go_wp2_with (first | (go_at_call 77; go_must (refine (NU.out _).mono ?_; rintro e w2 ⟨v2, rfl, ⟨a2, c2, rfl, ho2, hi2⟩, hb2⟩; dsimp only)) | ((with_reducible refine (C.out _ (hB.trans (hb2.mono hB.size))).mono ?_); rintro e w3 ⟨rfl, hb3⟩; dsimp only))
              (go_roundw; case rel => exact ⟨k + 1, l, true, by omega, by go_num, rfl, IntsV.mono ⟨a2, c2, rfl, ho2, hi2⟩ hb3, Lib.hid HK3.out, hB.trans ((hb2.trans (hb3.mono hb2.size)).mono hB.size)⟩)
              (case measure => simp [intOf]; omega)
    · obtain rfl : k = N := by omega
      go_wp2
      go_ret2
      exact ⟨_, best, found, rfl, ⟨ab, cb, rfl, hsb, hib⟩, HFO, hB⟩
end Go.Proofs.Ytnlolliankhfmaa
