/- What is proved here: minutes of writers are compared as their numbers are; what over lays at first. No condition but the numbers' size. -/
import Derived.Test.YtchnpekgmkhacaaDeIter
import Derived.DeepKeys
set_option linter.unusedVariables false
set_option linter.unusedSimpArgs false
namespace Go.Proofs.Ytchnpekgmkhacaa
open Go Go.RowKit Go.Shelf

set_option maxRecDepth 100000 in
set_option maxHeartbeats 1000000 in
theorem min_lits (a b c : Int) (ha : 0 ≤ a ∧ a < 64000) (hb : 0 ≤ b ∧ b < 64000) (hc : 0 ≤ c ∧ c < 64000) : Try.prog.keyLits 2 103 (Value.agg #[.int .i64 a, .int .i64 b, .int .i64 c]).cells.toList = some [.int .i64 a, .int .i64 b, .int .i64 c] := by
  have h4 : Try.prog.underlying 3 = some (.int .i64) := by kernel_rfl
  have h5 : Try.prog.cellsOf 3 = 1 := by kernel_rfl
  have h8 : Try.prog.cellsOf 103 = 3 := by kernel_rfl
  have h9 : Try.prog.underlying 103 = some (.array 3 3) := by kernel_rfl
  have e1 : ∀ (m : Nat) (x : Int), 0 ≤ x ∧ x < 64000 → Try.prog.keyLits (m + 1) 3 [.int .i64 x] = some [.int .i64 x] := fun m x hx => by
    unfold Program.keyLits
    simp only [h4, okI_small x hx.1 hx.2, and_self, if_true]
  show Try.prog.keyLits (0 + 1 + 1) 103 [.int .i64 a, .int .i64 b, .int .i64 c] = _
  unfold Program.keyLits
  rw [h9]
  simp only [h8, h5, List.length_cons, List.length_nil, Nat.zero_add, Nat.reduceAdd, if_true]
  rw [show List.range 3 = [0, 1, 2] from rfl]
  simp only [List.mapM_cons, List.mapM_nil, Nat.zero_mul, Nat.one_mul, Nat.reduceMul, List.drop_zero, List.drop_succ_cons, List.take_succ_cons, List.take_zero, e1 0 a ha, e1 0 b hb, e1 0 c hc]
  rfl
theorem min_eq (a b c a' b' c' : Int) (ha : 0 ≤ a ∧ a < 64000) (hb : 0 ≤ b ∧ b < 64000) (hc : 0 ≤ c ∧ c < 64000) (ha' : 0 ≤ a' ∧ a' < 64000) (hb' : 0 ≤ b' ∧ b' < 64000) (hc' : 0 ≤ c' ∧ c' < 64000) (w : World) :
    (Op.equalIn 10000 103 (.agg #[.int .i64 a, .int .i64 b, .int .i64 c]) (.agg #[.int .i64 a', .int .i64 b', .int .i64 c'])).run Try.prog w = .ok (decide (a = a' ∧ b = b' ∧ c = c')) w := by
  obtain ⟨r, hr, hi⟩ := run_equalIn_deep (P := Try.prog) 9998 2 103 (by kernel_rfl) w 2 2 (.agg #[.int .i64 a, .int .i64 b, .int .i64 c]) (.agg #[.int .i64 a', .int .i64 b', .int .i64 c']) _ _ (by kernel_rfl) (by kernel_rfl) (min_lits a b c ha hb hc) (min_lits a' b' c' ha' hb' hc')
  have e : r = decide (a = a' ∧ b = b' ∧ c = c') := by
    rw [Bool.eq_iff_iff, hi]
    simp only [List.cons.injEq, Lit.int.injEq, true_and, and_true, decide_eq_true_eq]
  rw [e] at hr
  exact hr
theorem min_index (a b c : Int) (d : Nat → Int) (hd : d 0 = a ∧ d 1 = b ∧ d 2 = c) (u : Nat) (hu : u < 3) (w : World) : (Instr.index 103 (.agg #[.int .i64 a, .int .i64 b, .int .i64 c]) (.int .i64 (u : Int))).run Try.prog w = .ok (.int .i64 (d u)) w := by
  obtain ⟨rfl, rfl, rfl⟩ := hd
  obtain rfl | rfl | rfl : u = 0 ∨ u = 1 ∨ u = 2 := by omega
  all_goals kernel_rfl
/-- When a plan is over, of the first writers. -/
def fvTo (h : DeH) (x : DeSt) (k : Nat) : Int := (List.range k).foldl (fun b w => if minuteAt (beginD h) w < minuteAt x w then max b (minuteAt x w) else b) 0
theorem fvTo_succ (h : DeH) (x : DeSt) (k : Nat) : fvTo h x (k + 1) = if minuteAt (beginD h) k < minuteAt x k then max (fvTo h x k) (minuteAt x k) else fvTo h x k := by
  unfold fvTo; rw [List.range_succ, List.foldl_append]; rfl
theorem fvTo_all (h : DeH) (x : DeSt) : fvTo h x 3 = fvD h x := rfl
theorem fvTo_bd {h : DeH} {x : DeSt} (hx : StOk h x) : ∀ k, 0 ≤ fvTo h x k ∧ fvTo h x k ≤ 240
  | 0 => by unfold fvTo; simp
  | k + 1 => by
    have h1 := fvTo_bd hx k
    have h2 := hx.m k
    rw [fvTo_succ]
    split <;> omega
end Go.Proofs.Ytchnpekgmkhacaa
