/- What is proved here: the contract of Need's closure and of the search for a payment. Conditions: the list lies in memory. -/
import Derived.Test.YtnlolliankhfmaaLook20
set_option linter.unusedVariables false
set_option linter.unusedSimpArgs false
namespace Go.Proofs.Ytnlolliankhfmaa
open Go Go.RowKit

set_option maxHeartbeats 1000000 in
theorem MNeed1_any (x : MoPaid) (s : Int) (p : Nat) (w : World) (h : w.cell? ⟨p, 0, none⟩ = some (.int .i64 s)) :
    Calls Try.prog 90 #[.agg #[.int .i64 x.sum, .int .i64 x.claimant], .pointer (some ⟨p, 0, none⟩)] w fun e w' => e = .returned (.bool (decide (x.sum = s))) ∧ Below w.heap.size w w' := by
  obtain ⟨su, cl⟩ := x
  simp only
  have hp := lt_of_cell h
  by_cases he : su = s
  · have e2 := eqi_t he
    go_enter Try.func90, Try.ntmps90
    go_wp2
    go_ret
    exact ⟨ret_bool (by simp [he]), by go_grown⟩
  · have e2 := eqi_f he
    go_enter Try.func90, Try.ntmps90
    go_wp2
    go_ret
    exact ⟨ret_bool (by simp [he]), by go_grown⟩
set_option maxHeartbeats 1000000 in
theorem MPaidIndex_any (a : Option Addr) (l : List MoPaid) (c : Nat) (s : Int) (p : Nat) (w : World) (hl : l.length ≤ 9223372036854775807) (hi' : PaidC w a l) (h : w.cell? ⟨p, 0, none⟩ = some (.int .i64 s)) :
    Calls Try.prog 105 #[.slice a l.length c, .func (.func 90) #[] #[.pointer (some ⟨p, 0, none⟩)]] w fun e w' => ∃ k : Int, e = .returned (.int .i64 k) ∧ Hid (decide (0 ≤ k) = l.any fun x => decide (x.sum = s)) ∧ Below w.heap.size w w' := by
  go_enter Try.func105, Try.ntmps105
  go_wp2
  go_loopw [8] (fun i wr => ∃ k : Nat, k ≤ l.length ∧ i = .int .i64 k ∧ Hid (∀ j (_ : j < k) (h : j < l.length), decide (l[j].sum = s) = false) ∧ Below w.heap.size w wr) (fun i _ => l.length - (intOf i).toNat)
  case atStart => exact ⟨0, Nat.zero_le _, rfl, Lib.hid (fun j h => absurd h (Nat.not_lt_zero j)), Below.refl _ _⟩
  case round =>
    obtain ⟨k, hk, rfl, HR, hbw⟩ := hrel
    by_cases hlt : k < l.length
    · obtain ⟨b, off, rfl, hb, hx1, hx2⟩ := hi'.mono hbw k hlt
      have B := MNeed1_any l[k] s p wr (cell_below hbw h)
      have HT := Lib.hid (fun (h : decide (l[k].sum = s) = true) => (any_lt (f := fun x : MoPaid => decide (x.sum = s)) hlt h : l.any (fun x => decide (x.sum = s)) = true))
      have HN := Lib.hid (fun (h : decide (l[k].sum = s) = false) => show ∀ j (_ : j < k + 1) (h : j < l.length), decide (l[j].sum = s) = false from fun j hj hjl => if hjk : j < k then HR.out j hjk hjl else (by have e : j = k := (by omega); subst e; exact h))
      generalize decide (l[k].sum = s) = br at B HT HN
      have B := Lib.hid B
      cases br
      · go_wp2_with (go_at_call 90; go_must (refine B.out.mono ?_; rintro e w2 ⟨rfl, hb2⟩; dsimp only))
        go_roundw
        case rel => exact ⟨k + 1, by omega, by go_num, Lib.hid (HN.out (by trivial)), hbw.trans (hb2.mono hbw.size)⟩
        case measure => simp [intOf]; omega
      · go_wp2_with (go_at_call 90; go_must (refine B.out.mono ?_; rintro e w2 ⟨rfl, hb2⟩; dsimp only))
        go_ret
        exact ⟨_, rfl, Lib.hid (by rw [HT.out (by trivial)]; simp), hbw.trans (hb2.mono hbw.size)⟩
    · obtain rfl : k = l.length := by omega
      go_wp2
      go_ret
      exact ⟨_, rfl, Lib.hid (by rw [any_not (f := fun x : MoPaid => decide (x.sum = s)) (fun j h => HR.out j h h)]; simp), hbw⟩
set_option maxHeartbeats 1000000 in
theorem MPaidContains_any (a : Option Addr) (l : List MoPaid) (c : Nat) (s : Int) (p : Nat) (w : World) (hl : l.length ≤ 9223372036854775807) (hi' : PaidC w a l) (h : w.cell? ⟨p, 0, none⟩ = some (.int .i64 s)) :
    Calls Try.prog 89 #[.slice a l.length c, .func (.func 90) #[] #[.pointer (some ⟨p, 0, none⟩)]] w fun e w' => e = .returned (.bool (l.any fun x => decide (x.sum = s))) ∧ Below w.heap.size w w' := by
  have I := Lib.hid (MPaidIndex_any a l c s p w hl hi' h)
  obtain ⟨r, hr⟩ : ∃ r, r = l.any fun x => decide (x.sum = s) := ⟨_, rfl⟩
  rw [← hr] at I ⊢
  clear hr
  go_enter Try.func89, Try.ntmps89
  cases r
  · go_wp2_with (go_at_call 105; go_must (refine I.out.mono ?_; rintro e w2 ⟨k, rfl, hk, hb2⟩; have hk2 : ¬ 0 ≤ k := of_decide_eq_false hk.out; dsimp only))
    go_ret
    exact ⟨rfl, hb2⟩
  · go_wp2_with (go_at_call 105; go_must (refine I.out.mono ?_; rintro e w2 ⟨k, rfl, hk, hb2⟩; have hk2 : 0 ≤ k := of_decide_eq_true hk.out; dsimp only))
    go_ret
    exact ⟨rfl, hb2⟩

theorem held_has (m : MoList) (hc : m.claimants.length ≤ 4) (j : Nat) (hj : j < m.sums.length) : hasB (unsure m (truths m)) j = !oneB (evBit (truths m) j) := by
  rw [truth_unsure m hc, Bool.eq_iff_iff, hasB_iff, List.mem_map]
  constructor
  · rintro ⟨i, hi, e⟩
    have := (List.mem_filter.1 hi).2
    have e : i = j := by omega
    subst e
    exact this
  · intro h
    exact ⟨j, List.mem_filter.2 ⟨by simpa using hj, h⟩, rfl⟩
theorem needTo_paid (m : MoList) (l : List Int) (j : Nat) (h : paidB m j = true) : needTo m l (j + 1) = needTo m l j := by rw [needTo, if_pos h]
theorem needTo_yes (m : MoList) (l : List Int) (j : Nat) (h : paidB m j = false) (h2 : hasB l j = false) : needTo m l (j + 1) = ((needTo m l j).1 + penceAt m j, (needTo m l j).2 + penceAt m j) := by rw [needTo, if_neg (by simp [h]), if_neg (by simp [h2])]
theorem needTo_no (m : MoList) (l : List Int) (j : Nat) (h : paidB m j = false) (h2 : hasB l j = true) : needTo m l (j + 1) = ((needTo m l j).1, (needTo m l j).2 + penceAt m j) := by rw [needTo, if_neg (by simp [h]), if_pos h2]; simp
theorem need_hid (m : MoList) : needOf m = if wholeErr m = 0 then ((needTo m (unsure m (truths m)) m.sums.length).1, (needTo m (unsure m (truths m)) m.sums.length).2, 0) else (0, 0, wholeErr m) := by
  unfold needOf heldOf
  by_cases h : wholeErr m = 0
  · simp [h]
  · simp [h]
end Go.Proofs.Ytnlolliankhfmaa
