/- What is proved here: the contract of nobody, and of a round of leaks. No condition but that the room is valid. -/
import Derived.Test.YtmhbjohpggghgaaSeRoom
set_option linter.unusedVariables false
set_option linter.unusedSimpArgs false
namespace Go.Proofs.Ytmhbjohpggghgaa
open Go Go.RowKit

theorem nob_step (k : Nat) (hk : k < 4) : (dl fun j => if j < k then 10 else 0).set k 10 = dl fun j => if j < k + 1 then 10 else 0 := by
  obtain rfl | rfl | rfl | rfl : k = 0 ∨ k = 1 ∨ k = 2 ∨ k = 3 := by omega
  all_goals rfl
set_option maxHeartbeats 1000000 in
theorem SNobody_any (w : World) : Calls Try.prog 114 #[] w fun e w' => e = .returned (arr4 noDay) ∧ Below w.heap.size w w' := by
  go_enter Try.func114, Try.ntmps114
  go_wp2
  go_loopw [2] (fun i wr => ∃ k : Nat, k ≤ 4 ∧ i = .int .i64 k ∧ BlkI wr w.heap.size 110 (dl fun j => if j < k then 10 else 0) ∧ Below w.heap.size w wr) (fun i _ => 4 - (intOf i).toNat)
  case atStart => exact ⟨0, Nat.zero_le _, rfl, alloc_at _ _ rfl, (Below.refl _ _).alloc (Nat.le_refl _) _⟩
  case round =>
    obtain ⟨k, hk, rfl, hL, hbr⟩ := hrel
    by_cases hlt : k < 4
    · have hk4 : (k : Int) < 4 := by omega
      have z0 := hL.lt
      have c0 := dl_cell hL k hlt
      have f0 := hL.free k
      have hS := Lib.hid (hL.set k 10)
      rw [nob_step k hlt] at hS
      go_wp2
      go_roundw
      case rel => exact ⟨k + 1, by omega, by go_num, hS.out, hbr.setCell (Nat.le_refl _) _⟩
      case measure => simp [intOf]; omega
    · obtain rfl : k = 4 := by omega
      obtain ⟨e0, e1, e2, e3, z⟩ := dl_four hL
      obtain ⟨f0, f1, f2, f3⟩ := dl_free hL
      simp only [Nat.lt_add_one, Nat.reduceLT, if_true] at e0 e1 e2 e3
      go_wp2
      (try simp only [Exit.inBlock, Exit.then])
      refine bodyPost_ret (v := .agg #[.int .i64 10, .int .i64 10, .int .i64 10, .int .i64 10]) ?_ rfl ⟨rfl, ?_⟩
      · rw [results_one rfl]
        go_simp
      · exact (((hbr.setCell (Nat.le_refl _) _).setCell (Nat.le_refl _) _).setCell (Nat.le_refl _) _).setCell (Nat.le_refl _) _
end Go.Proofs.Ytmhbjohpggghgaa
