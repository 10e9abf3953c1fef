/- What is proved here: the contract of the function that lists the numbers of a set. Conditions: sets below 64. -/
import Derived.Test.YtklconegomgjaaaGreatEaCanG
set_option linter.unusedVariables false
set_option linter.unusedSimpArgs false
namespace Go.Proofs.YtklconegomgjaaaGreat
open Go Go.RowKit

set_option maxHeartbeats 2000000 in
theorem MNumbersN_any (s n : Nat) (hs : s < 64) (hn : n ≤ 6) (w : World) :
    Calls Tryz.prog 62 #[.int .i64 (s : Int), .int .i64 (n : Int)] w fun e w' => ∃ v, e = .returned v ∧ IntsN w.heap.size w' v (bitsList s n) ∧ Below w.heap.size w w' := by
  obtain ⟨p, hp⟩ : ∃ p : Nat → Bool, p = fun i => s.testBit i := ⟨_, rfl⟩
  have hW : Hid (bitsList s n = ((List.range n).filter p).map (fun (c : Nat) => (c : Int))) := by rw [hp]; exact (rfl : bitsList s n = _)
  generalize bitsList s n = r at hW ⊢
  have HP := Lib.hid hp
  clear hp
  go_enter Tryz.func62, Tryz.ntmps62
  go_wp2
  go_loopw [4, 7] (fun o i wr => ∃ (c : Nat), c ≤ n ∧ i = .int .i64 c ∧ wr.ownsRow w.heap.size 3 1 o (((List.range c).filter p).map (fun (c : Nat) => (c : Int))).length ((((List.range c).filter p).map (fun (c : Nat) => (c : Int))).map (Value.int .i64)) ∧ Below w.heap.size w wr) (fun _ i _ => n - (intOf i).toNat)
  case atStart => exact ⟨0, Nat.zero_le _, rfl, World.ownsRow_nil _ _ _ _, Below.refl _ _⟩
  case round =>
    obtain ⟨c, hc, rfl, hown, hB⟩ := hrel
    have hB1 := hB.size
    by_cases hlt : c < n
    · have hst := Lib.hid (keep_succ p c)
      have hkl := keep_len p c
      generalize hL : ((List.range c).filter p).map (fun (c : Nat) => (c : Int)) = L at hown hst hkl
      clear hL
      have hb := bit_and s hs c (by omega)
      have hpc : p c = s.testBit c := by rw [HP.out]
      rw [← hpc] at hb
      clear hpc
      generalize p c = bp at hst hb
      have hc64 : (c : Int) < 64 := by omega
      cases bp
      · go_wp2
        go_roundw
        case rel => exact ⟨c + 1, by omega, by go_num, by rw [hst.out]; simpa using hown, hB⟩
        case measure => simp [intOf]; omega
      · go_wp2_with (at_builtin; go_must (refine wpList_app (.tmp 15) (.tmp 17) E_int rfl rfl rfl rfl w.heap.size L.length 1 (L.map (Value.int .i64)) [.int .i64 (c : Int)] (hown.alloc _) (SrcAt.one _ _ _ rfl) (by omega) (by decide) (by simp; omega) ?_; intro v2 w2 ho2 hg2 _; (have hb2 := app_next hB (Nat.le_refl _) (Nat.le_refl _) hown hg2); clear hg2; simp only [Act.put, List.setIfInBounds_toArray, List.set_cons_succ, List.set_cons_zero]))
        go_roundw
        case rel => exact ⟨c + 1, by omega, by go_num, by rw [hst.out]; simpa using ho2, hb2⟩
        case measure => simp [intOf]; omega
    · obtain rfl : c = n := by omega
      go_wp2
      go_ret
      rw [hW.out]
      exact ⟨_, rfl, ints_ownN hown, hB⟩
theorem MNumbers_any (s n : Nat) (hs : s < 64) (hn : n ≤ 6) (w : World) :
    Calls Tryz.prog 62 #[.int .i64 (s : Int), .int .i64 (n : Int)] w fun e w' => ∃ v, e = .returned v ∧ IntsV w' v (bitsList s n) ∧ Below w.heap.size w w' :=
  (MNumbersN_any s n hs hn w).mono fun e w' ⟨v, h1, h2, h3⟩ => ⟨v, h1, h2.val, h3⟩
end Go.Proofs.YtklconegomgjaaaGreat
