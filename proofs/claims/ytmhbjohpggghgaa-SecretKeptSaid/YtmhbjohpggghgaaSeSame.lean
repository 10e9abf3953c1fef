/- What is proved here: contracts of the searches for an equal leak, for another letter of a writer on a day. Conditions: slices lie in memory. -/
import Derived.Test.YtmhbjohpggghgaaSeFail
set_option linter.unusedVariables false
set_option linter.unusedSimpArgs false
namespace Go.Proofs.Ytmhbjohpggghgaa
open Go Go.RowKit

set_option maxHeartbeats 1000000 in
theorem SSameL_any (y : SeLeak) (a b : Int) (p : Nat) (w : World) (h0 : w.cell? ⟨p, 0, none⟩ = some (.int .i64 a)) (h1 : w.cell? ⟨p, 1, none⟩ = some (.int .i64 b)) :
    Calls Try.prog 64 #[.agg #[.int .i64 y.src, .int .i64 y.dst, .bool y.sure], .pointer (some ⟨p, 0, none⟩)] w fun e w' => e = .returned (.bool (decide (y.src = a) && decide (y.dst = b))) ∧ Below w.heap.size w w' := by
  obtain ⟨ys, yd, yb⟩ := y
  simp only
  have hp := lt_of_cell h0
  by_cases he : ys = a
  · have e2 := eqi_t he
    by_cases he3 : yd = b
    all_goals
      first | have e3 := eqi_t he3 | have e3 := eqi_f he3
      go_enter Try.func64, Try.ntmps64
      go_wp2
      go_ret
      exact ⟨ret_bool (by simp [he, he3]), by go_grown⟩
  · have e2 := eqi_f he
    go_enter Try.func64, Try.ntmps64
    go_wp2
    go_ret
    exact ⟨ret_bool (by simp [he]), by go_grown⟩
theorem LeaksC.take {w : World} {a : Option Addr} {l : List SeLeak} (h : LeaksC w a l) (k : Nat) : LeaksC w a (l.take k) := fun i hi => by
  have hi' : i < l.length := by simp at hi; omega
  obtain ⟨b, off, e, hlt, h1, h2, h3⟩ := h i hi'
  exact ⟨b, off, e, hlt, by rw [h1]; simp, by rw [h2]; simp, by rw [h3]; simp⟩
set_option maxHeartbeats 1000000 in
theorem SIndexL_any (ad : Option Addr) (l : List SeLeak) (c : Nat) (a b : Int) (p : Nat) (w : World) (hl : l.length ≤ 9223372036854775807) (hi' : LeaksC w ad l) (h0 : w.cell? ⟨p, 0, none⟩ = some (.int .i64 a)) (h1 : w.cell? ⟨p, 1, none⟩ = some (.int .i64 b)) :
    Calls Try.prog 109 #[.slice ad l.length c, .func (.func 64) #[] #[.pointer (some ⟨p, 0, none⟩)]] w fun e w' => ∃ k : Int, e = .returned (.int .i64 k) ∧ Hid (decide (0 ≤ k) = l.any fun y => decide (y.src = a) && decide (y.dst = b)) ∧ Below w.heap.size w w' := by
  obtain ⟨so, hso⟩ : ∃ so : SeLeak → Bool, so = fun y => decide (y.src = a) && decide (y.dst = b) := ⟨_, rfl⟩
  have HS : ∀ (y : SeLeak) (W : World), Below w.heap.size w W → Calls Try.prog 64 #[.agg #[.int .i64 y.src, .int .i64 y.dst, .bool y.sure], .pointer (some ⟨p, 0, none⟩)] W fun e w' => e = .returned (.bool (so y)) ∧ Below W.heap.size W w' := fun y W h => by
    rw [hso]; exact SSameL_any y a b p W (cell_below h h0) (cell_below h h1)
  rw [← hso]
  clear hso h0 h1
  have HS := Lib.hid HS
  go_enter Try.func109, Try.ntmps109
  go_wp2
  go_loopw [8] (fun i wr => ∃ k : Nat, k ≤ l.length ∧ i = .int .i64 k ∧ Hid (∀ j (_ : j < k) (h : j < l.length), so l[j] = false) ∧ Below w.heap.size w wr) (fun i _ => l.length - (intOf i).toNat)
  case atStart => exact ⟨0, Nat.zero_le _, rfl, Lib.hid (fun j h => absurd h (Nat.not_lt_zero j)), Below.refl _ _⟩
  case round =>
    obtain ⟨k, hk, rfl, HR, hbw⟩ := hrel
    by_cases hlt : k < l.length
    · obtain ⟨bb, off, rfl, hb, hx1, hx2, hx3⟩ := hi'.mono hbw k hlt
      have B := HS.out l[k] wr hbw
      have HT := Lib.hid (fun (h : so l[k] = true) => (any_lt hlt h : l.any so = true))
      have HN := Lib.hid (fun (h : so l[k] = false) => show ∀ j (_ : j < k + 1) (h : j < l.length), so l[j] = false from fun j hj hjl => if hjk : j < k then HR.out j hjk hjl else (by have e : j = k := (by omega); subst e; exact h))
      generalize so l[k] = br at B HT HN
      generalize l[k] = y at B hx1 hx2 hx3
      obtain ⟨ys, yd, yb⟩ := y
      simp only at B hx1 hx2 hx3
      have B := Lib.hid B
      cases br
      · go_wp2_with (go_at_call 64; go_must (refine B.out.mono ?_; rintro e w2 ⟨rfl, hb2⟩; dsimp only))
        go_roundw
        case rel => exact ⟨k + 1, by omega, by go_num, Lib.hid (HN.out (by trivial)), hbw.trans (hb2.mono hbw.size)⟩
        case measure => simp [intOf]; omega
      · go_wp2_with (go_at_call 64; go_must (refine B.out.mono ?_; rintro e w2 ⟨rfl, hb2⟩; dsimp only))
        go_ret
        exact ⟨_, rfl, Lib.hid (by rw [HT.out (by trivial)]; simp), hbw.trans (hb2.mono hbw.size)⟩
    · obtain rfl : k = l.length := by omega
      go_wp2
      go_ret
      exact ⟨_, rfl, Lib.hid (by rw [any_not (f := so) (fun j h => HR.out j h h)]; simp), hbw⟩
set_option maxHeartbeats 1000000 in
theorem SContainsL_any (ad : Option Addr) (l : List SeLeak) (c : Nat) (a b : Int) (p : Nat) (w : World) (hl : l.length ≤ 9223372036854775807) (hi' : LeaksC w ad l) (h0 : w.cell? ⟨p, 0, none⟩ = some (.int .i64 a)) (h1 : w.cell? ⟨p, 1, none⟩ = some (.int .i64 b)) :
    Calls Try.prog 63 #[.slice ad l.length c, .func (.func 64) #[] #[.pointer (some ⟨p, 0, none⟩)]] w fun e w' => e = .returned (.bool (l.any fun y => decide (y.src = a) && decide (y.dst = b))) ∧ Below w.heap.size w w' := by
  have I := Lib.hid (SIndexL_any ad l c a b p w hl hi' h0 h1)
  obtain ⟨r, hr⟩ : ∃ r, r = l.any fun y => decide (y.src = a) && decide (y.dst = b) := ⟨_, rfl⟩
  rw [← hr] at I ⊢
  clear hr
  go_enter Try.func63, Try.ntmps63
  cases r
  · go_wp2_with (go_at_call 109; go_must (refine I.out.mono ?_; rintro e w2 ⟨k, rfl, hk, hb2⟩; have hk2 : ¬ 0 ≤ k := of_decide_eq_false hk.out; dsimp only))
    go_ret
    exact ⟨rfl, hb2⟩
  · go_wp2_with (go_at_call 109; go_must (refine I.out.mono ?_; rintro e w2 ⟨k, rfl, hk, hb2⟩; have hk2 : 0 ≤ k := of_decide_eq_true hk.out; dsimp only))
    go_ret
    exact ⟨rfl, hb2⟩

set_option maxHeartbeats 1000000 in
theorem SSameT_any (y : SeLetter) (a b : Int) (p : Nat) (w : World) (h0 : w.cell? ⟨p, 2, none⟩ = some (.int .i64 a)) (h1 : w.cell? ⟨p, 0, none⟩ = some (.int .i64 b)) :
    Calls Try.prog 68 #[.agg #[.int .i64 y.day, .int .i64 y.secrets, .int .i64 y.writer], .pointer (some ⟨p, 0, none⟩)] w fun e w' => e = .returned (.bool (decide (y.writer = a) && decide (y.day = b))) ∧ Below w.heap.size w w' := by
  obtain ⟨yd, yc, ys⟩ := y
  simp only
  have hp := lt_of_cell h0
  by_cases he : ys = a
  · have e2 := eqi_t he
    by_cases he3 : yd = b
    all_goals
      first | have e3 := eqi_t he3 | have e3 := eqi_f he3
      go_enter Try.func68, Try.ntmps68
      go_wp2
      go_ret
      exact ⟨ret_bool (by simp [he, he3]), by go_grown⟩
  · have e2 := eqi_f he
    go_enter Try.func68, Try.ntmps68
    go_wp2
    go_ret
    exact ⟨ret_bool (by simp [he]), by go_grown⟩
theorem LettersC.take {w : World} {a : Option Addr} {l : List SeLetter} (h : LettersC w a l) (k : Nat) : LettersC w a (l.take k) := fun i hi => by
  have hi' : i < l.length := by simp at hi; omega
  obtain ⟨b, off, e, hlt, h1, h2, h3⟩ := h i hi'
  exact ⟨b, off, e, hlt, by rw [h1]; simp, by rw [h2]; simp, by rw [h3]; simp⟩
set_option maxHeartbeats 1000000 in
theorem SIndexT_any (ad : Option Addr) (l : List SeLetter) (c : Nat) (a b : Int) (p : Nat) (w : World) (hl : l.length ≤ 9223372036854775807) (hi' : LettersC w ad l) (h0 : w.cell? ⟨p, 2, none⟩ = some (.int .i64 a)) (h1 : w.cell? ⟨p, 0, none⟩ = some (.int .i64 b)) :
    Calls Try.prog 110 #[.slice ad l.length c, .func (.func 68) #[] #[.pointer (some ⟨p, 0, none⟩)]] w fun e w' => ∃ k : Int, e = .returned (.int .i64 k) ∧ Hid (decide (0 ≤ k) = l.any fun y => decide (y.writer = a) && decide (y.day = b)) ∧ Below w.heap.size w w' := by
  obtain ⟨so, hso⟩ : ∃ so : SeLetter → Bool, so = fun y => decide (y.writer = a) && decide (y.day = b) := ⟨_, rfl⟩
  have HS : ∀ (y : SeLetter) (W : World), Below w.heap.size w W → Calls Try.prog 68 #[.agg #[.int .i64 y.day, .int .i64 y.secrets, .int .i64 y.writer], .pointer (some ⟨p, 0, none⟩)] W fun e w' => e = .returned (.bool (so y)) ∧ Below W.heap.size W w' := fun y W h => by
    rw [hso]; exact SSameT_any y a b p W (cell_below h h0) (cell_below h h1)
  rw [← hso]
  clear hso h0 h1
  have HS := Lib.hid HS
  go_enter Try.func110, Try.ntmps110
  go_wp2
  go_loopw [8] (fun i wr => ∃ k : Nat, k ≤ l.length ∧ i = .int .i64 k ∧ Hid (∀ j (_ : j < k) (h : j < l.length), so l[j] = false) ∧ Below w.heap.size w wr) (fun i _ => l.length - (intOf i).toNat)
  case atStart => exact ⟨0, Nat.zero_le _, rfl, Lib.hid (fun j h => absurd h (Nat.not_lt_zero j)), Below.refl _ _⟩
  case round =>
    obtain ⟨k, hk, rfl, HR, hbw⟩ := hrel
    by_cases hlt : k < l.length
    · obtain ⟨bb, off, rfl, hb, hx1, hx2, hx3⟩ := hi'.mono hbw k hlt
      have B := HS.out l[k] wr hbw
      have HT := Lib.hid (fun (h : so l[k] = true) => (any_lt hlt h : l.any so = true))
      have HN := Lib.hid (fun (h : so l[k] = false) => show ∀ j (_ : j < k + 1) (h : j < l.length), so l[j] = false from fun j hj hjl => if hjk : j < k then HR.out j hjk hjl else (by have e : j = k := (by omega); subst e; exact h))
      generalize so l[k] = br at B HT HN
      generalize l[k] = y at B hx1 hx2 hx3
      obtain ⟨yd, yc, ys⟩ := y
      simp only at B hx1 hx2 hx3
      have B := Lib.hid B
      cases br
      · go_wp2_with (go_at_call 68; go_must (refine B.out.mono ?_; rintro e w2 ⟨rfl, hb2⟩; dsimp only))
        go_roundw
        case rel => exact ⟨k + 1, by omega, by go_num, Lib.hid (HN.out (by trivial)), hbw.trans (hb2.mono hbw.size)⟩
        case measure => simp [intOf]; omega
      · go_wp2_with (go_at_call 68; go_must (refine B.out.mono ?_; rintro e w2 ⟨rfl, hb2⟩; dsimp only))
        go_ret
        exact ⟨_, rfl, Lib.hid (by rw [HT.out (by trivial)]; simp), hbw.trans (hb2.mono hbw.size)⟩
    · obtain rfl : k = l.length := by omega
      go_wp2
      go_ret
      exact ⟨_, rfl, Lib.hid (by rw [any_not (f := so) (fun j h => HR.out j h h)]; simp), hbw⟩
set_option maxHeartbeats 1000000 in
theorem SContainsT_any (ad : Option Addr) (l : List SeLetter) (c : Nat) (a b : Int) (p : Nat) (w : World) (hl : l.length ≤ 9223372036854775807) (hi' : LettersC w ad l) (h0 : w.cell? ⟨p, 2, none⟩ = some (.int .i64 a)) (h1 : w.cell? ⟨p, 0, none⟩ = some (.int .i64 b)) :
    Calls Try.prog 67 #[.slice ad l.length c, .func (.func 68) #[] #[.pointer (some ⟨p, 0, none⟩)]] w fun e w' => e = .returned (.bool (l.any fun y => decide (y.writer = a) && decide (y.day = b))) ∧ Below w.heap.size w w' := by
  have I := Lib.hid (SIndexT_any ad l c a b p w hl hi' h0 h1)
  obtain ⟨r, hr⟩ : ∃ r, r = l.any fun y => decide (y.writer = a) && decide (y.day = b) := ⟨_, rfl⟩
  rw [← hr] at I ⊢
  clear hr
  go_enter Try.func67, Try.ntmps67
  cases r
  · go_wp2_with (go_at_call 110; go_must (refine I.out.mono ?_; rintro e w2 ⟨k, rfl, hk, hb2⟩; have hk2 : ¬ 0 ≤ k := of_decide_eq_false hk.out; dsimp only))
    go_ret
    exact ⟨rfl, hb2⟩
  · go_wp2_with (go_at_call 110; go_must (refine I.out.mono ?_; rintro e w2 ⟨k, rfl, hk, hb2⟩; have hk2 : 0 ≤ k := of_decide_eq_true hk.out; dsimp only))
    go_ret
    exact ⟨rfl, hb2⟩
end Go.Proofs.Ytmhbjohpggghgaa
