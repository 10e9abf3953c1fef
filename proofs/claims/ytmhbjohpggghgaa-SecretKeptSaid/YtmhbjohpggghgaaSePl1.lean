/- What is proved here: contracts of the search for a writer's other letter of a day. Conditions: the cells lie in memory. -/
import Derived.Test.YtmhbjohpggghgaaSeMayF
set_option linter.unusedVariables false
set_option linter.unusedSimpArgs false
namespace Go.Proofs.Ytmhbjohpggghgaa
open Go Go.RowKit Go.Shelf

set_option maxRecDepth 100000 in
set_option maxHeartbeats 1000000 in
theorem SPlan11_any (i n k4 pb c4 c12 b6 c11 : Nat) (a4 : Option Addr) (l : List SeLetter) (pi u day : Int) (w : World) (hln : l.length = n) (hi : i < n) (hok : SlOk a4 n k4) (hle : LettersC w a4 l) (hn : n ≤ 4)
    (e4 : w.cell? ⟨c4, 0, none⟩ = some (.slice (some ⟨pb, 0, none⟩) n n)) (ep : w.cell? ⟨pb, i, none⟩ = some (.int .i64 pi)) (e12 : w.cell? ⟨c12, 0, none⟩ = some (.int .i64 u)) (e6 : w.cell? ⟨b6, 3, none⟩ = some (.slice a4 n k4)) (e11 : w.cell? ⟨c11, 0, none⟩ = some (.int .i64 day)) :
    Calls Try.prog 98 #[.int .i64 (i : Int), .pointer (some ⟨c4, 0, none⟩), .pointer (some ⟨c12, 0, none⟩), .pointer (some ⟨b6, 0, none⟩), .pointer (some ⟨c11, 0, none⟩)] w fun e w' => e = .returned (.bool (decide (pi = u) && decide ((l[i]'(by omega)).day = day))) ∧ Below w.heap.size w w' := by
  have hkc := hok.1
  have z4 := lt_of_cell e4
  have z12 := lt_of_cell e12
  have z6 := lt_of_cell e6
  have z11 := lt_of_cell e11
  have zp := lt_of_cell ep
  obtain ⟨b, off, rfl, hbb, h1, h2, h3⟩ := hle i (by omega)
  generalize (l[i]'(by omega)).day = dy at h1 ⊢
  have hi0 : (0 : Int) ≤ i := by omega
  have hin : (i : Int) < n := by omega
  have hik : (i : Int) < k4 := by omega
  clear hln hok hle h2 h3
  by_cases he : pi = u
  · have g1 := eqi_t he
    by_cases hd : dy = day
    all_goals
      first | have g2 := eqi_t hd | have g2 := eqi_f hd
      go_enter Try.func98, Try.ntmps98
      go_upto_region 1 with (fail)
      go_quiet (fail)
      go_wp2
      go_ret
      exact ⟨ret_bool (by simp [he, hd]), below_draws _ _ _⟩
  · have g1 := eqi_f he
    go_enter Try.func98, Try.ntmps98
    go_upto_region 1 with (fail)
    go_quiet (fail)
    go_wp2
    go_ret
    exact ⟨ret_bool (by simp [he]), below_draws _ _ _⟩

theorem rangeI_get (m k : Nat) (h : k < ((List.range m).map fun (i : Nat) => (i : Int)).length) : ((List.range m).map fun (i : Nat) => (i : Int))[k] = (k : Int) := by simp
set_option maxHeartbeats 1000000 in
theorem SIndexP_any (ad : Option Addr) (m c : Nat) (caps : Array Value) (so : Nat → Bool) (w : World) (hm : m ≤ 64) (hi' : IntsC w ad ((List.range m).map fun (i : Nat) => (i : Int)))
    (HS : ∀ (i : Nat) (W : World), i < m → Below w.heap.size w W → Calls Try.prog 98 (#[.int .i64 (i : Int)] ++ caps) W fun e w' => e = .returned (.bool (so i)) ∧ Below W.heap.size W w') :
    Calls Try.prog 117 #[.slice ad m c, .func (.func 98) #[] caps] w fun e w' => ∃ k : Int, e = .returned (.int .i64 k) ∧ Hid (decide (0 ≤ k) = (List.range m).any so) ∧ Below w.heap.size w w' := by
  have HS := Lib.hid HS
  have hCF := enters_of (P := Try.prog) (f := 98) Try.func98 (by kernel_rfl) rfl
  have hCF2 : ∀ (xs : Array Value) (W : World), (callFunc 98 xs).run Try.prog W = .ok (.enter 98 xs) W := hCF
  clear hCF
  go_enter Try.func117, Try.ntmps117
  go_wp2
  go_loopw [8] (fun i wr => ∃ k : Nat, k ≤ m ∧ i = .int .i64 k ∧ Hid (∀ j, j < k → so j = false) ∧ Below w.heap.size w wr) (fun i _ => m - (intOf i).toNat)
  case atStart => exact ⟨0, Nat.zero_le _, rfl, Lib.hid (fun j h => absurd h (Nat.not_lt_zero j)), Below.refl _ _⟩
  case round =>
    obtain ⟨k, hk, rfl, HR, hbw⟩ := hrel
    by_cases hlt : k < m
    · obtain ⟨bb, off, rfl, hb, hx1⟩ := hi'.mono hbw k (by simpa using hlt)
      rw [rangeI_get] at hx1
      have B := HS.out k wr hlt hbw
      have HT := Lib.hid (fun (h : so k = true) => show (List.range m).any so = true from by rw [List.any_eq_true]; exact ⟨k, List.mem_range.2 hlt, h⟩)
      have HN := Lib.hid (fun (h : so k = false) => show ∀ j, j < k + 1 → so j = false from fun j hj => if hjk : j < k then HR.out j hjk else (by have e : j = k := (by omega); subst e; exact h))
      generalize so k = br at B HT HN
      have B := Lib.hid B
      have hk64 : (k : Int) < 64 := by omega
      cases br
      · go_wp2_with ((with_reducible refine B.out.mono ?_); rintro e w2 ⟨rfl, hb2⟩; dsimp only)
        go_roundw
        case rel => exact ⟨k + 1, by omega, by go_num, Lib.hid (HN.out rfl), hbw.trans (hb2.mono hbw.size)⟩
        case measure => simp [intOf]; omega
      · go_wp2_with ((with_reducible refine B.out.mono ?_); rintro e w2 ⟨rfl, hb2⟩; dsimp only)
        go_ret
        exact ⟨_, rfl, Lib.hid (by rw [HT.out (by trivial)]; simp), hbw.trans (hb2.mono hbw.size)⟩
    · obtain rfl : k = m := by omega
      go_wp2
      go_ret
      exact ⟨_, rfl, Lib.hid (by rw [show (List.range k).any so = false from by rw [List.any_eq_false]; intro j hj; simp [HR.out j (List.mem_range.1 hj)]]; simp), hbw⟩
set_option maxHeartbeats 1000000 in
theorem SContainsP_any (ad : Option Addr) (m c : Nat) (caps : Array Value) (so : Nat → Bool) (w : World) (hm : m ≤ 64) (hi' : IntsC w ad ((List.range m).map fun (i : Nat) => (i : Int)))
    (HS : ∀ (i : Nat) (W : World), i < m → Below w.heap.size w W → Calls Try.prog 98 (#[.int .i64 (i : Int)] ++ caps) W fun e w' => e = .returned (.bool (so i)) ∧ Below W.heap.size W w') :
    Calls Try.prog 96 #[.slice ad m c, .func (.func 98) #[] caps] w fun e w' => e = .returned (.bool ((List.range m).any so)) ∧ Below w.heap.size w w' := by
  have I := Lib.hid (SIndexP_any ad m c caps so w hm hi' HS)
  obtain ⟨r, hr⟩ : ∃ r, r = (List.range m).any so := ⟨_, rfl⟩
  rw [← hr] at I ⊢
  clear hr HS
  go_enter Try.func96, Try.ntmps96
  cases r
  · go_wp2_with (go_at_call 117; go_must (refine I.out.mono ?_; rintro e w2 ⟨k, rfl, hk, hb2⟩; have hk2 : ¬ 0 ≤ k := of_decide_eq_false hk.out; dsimp only))
    go_ret
    exact ⟨rfl, hb2⟩
  · go_wp2_with (go_at_call 117; go_must (refine I.out.mono ?_; rintro e w2 ⟨k, rfl, hk, hb2⟩; have hk2 : 0 ≤ k := of_decide_eq_true hk.out; dsimp only))
    go_ret
    exact ⟨rfl, hb2⟩
end Go.Proofs.Ytmhbjohpggghgaa
