/- What is proved here: the contracts of look and some. Conditions: the room lies in memory and is valid. -/
import Derived.Test.YtmhbjohpggghgaaSeSeq
import Derived.Test.YtmhbjohpggghgaaSeFew
set_option linter.unusedVariables false
set_option linter.unusedSimpArgs false
namespace Go.Proofs.Ytmhbjohpggghgaa
open Go Go.RowKit Go.Shelf
attribute [local go_sem] Oper.semAt_some

theorem or_bit16 : ∀ c : Nat, c < 16 → ∀ k : Nat, k < 4 → bits BinOp.or .i64 (c : Int) (wrap64 (2 ^ k)) = ((c ||| (1 <<< k) : Nat) : Int) := by decide +kernel
theorem sureTo_succ (r : SeRoom) (k : Nat) : sureTo r (k + 1) = if sureAt r k then sureTo r k ||| (1 <<< k) else sureTo r k := sureBits_or r k
theorem RBlk.set5 {W : World} {bm bo : Nat} {a1 a2 a3 a4 a5 : Option Addr} {k1 k2 k3 k4 k5 : Nat} {r : SeRoom} {sure but : Nat} (h : RBlk W bm bo a1 a2 a3 a4 a5 k1 k2 k3 k4 k5 r sure but) (d : Nat) : RBlk (W.setCell ⟨bm, 5, none⟩ (.int .i64 (d : Int))) bm bo a1 a2 a3 a4 a5 k1 k2 k3 k4 k5 r d but := by
  have := blk_set 5 (.int .i64 (d : Int)) h
  unfold RBlk
  rw [this]
  rfl
set_option maxRecDepth 100000 in
set_option maxHeartbeats 2000000 in
theorem SLook_any (a1 a2 a3 a4 a5 : Option Addr) (k1 k2 k3 k4 k5 : Nat) (r : SeRoom) (but : Nat) (w : World) (hm : RoomC w a1 a2 a3 a4 a5 k1 k2 k3 k4 k5 r) (hv : SeValid r) :
    Calls Try.prog 89 #[(.agg #[.slice a1 r.writers.length k1, .slice a2 r.kept.length k2, .slice a3 r.leaks.length k3, .slice a4 r.letters.length k4, .slice a5 r.heard.length k5]), .int .i64 (but : Int)] w fun e w' => ∃ bm bo : Nat, e = .returned (.pointer (some ⟨bm, 0, none⟩)) ∧ RoomW w' bm bo a1 a2 a3 a4 a5 k1 k2 k3 k4 k5 r but ∧ Below w.heap.size w w' ∧ w.heap.size ≤ bo := by
  have l3 := hm.ok3.len
  have v3 := hv.nl
  have hmm := @run_makeMap Try.prog
  have hQ0 := Below.refl (w.heap.size + 1 + 1) ((w.alloc (.cells #[.slice a1 r.writers.length k1, .slice a2 r.kept.length k2, .slice a3 r.leaks.length k3, .slice a4 r.letters.length k4, .slice a5 r.heard.length k5] 28)).alloc (.map #[] 0))
  go_enter Try.func89, Try.ntmps89
  go_wp2
  go_loopw [16] (fun i wr => ∃ k : Nat, k ≤ r.leaks.length ∧ i = .int .i64 k ∧ RBlk wr (w.heap.size + 1 + 1) (w.heap.size + 1) a1 a2 a3 a4 a5 k1 k2 k3 k4 k5 r (sureTo r k) but ∧ Below (w.heap.size + 1 + 1) ((w.alloc (.cells #[.slice a1 r.writers.length k1, .slice a2 r.kept.length k2, .slice a3 r.leaks.length k3, .slice a4 r.letters.length k4, .slice a5 r.heard.length k5] 28)).alloc (.map #[] 0)) wr) (fun i _ => r.leaks.length - (intOf i).toNat)
  case atStart => exact ⟨0, Nat.zero_le _, rfl, alloc_at _ _ (by simp), hQ0.alloc (by simp) _⟩
  case round =>
    obtain ⟨k, hk, rfl, hL, hbr⟩ := hrel
    have hbw : Below w.heap.size w wr := (((Below.refl _ w).alloc (Nat.le_refl _) _).alloc (by simp) _).trans (hbr.mono (by omega))
    have hbz := hbr.size
    simp at hbz
    by_cases hlt : k < r.leaks.length
    · have HS := Lib.hid (sureTo_succ r k)
      have hat : sureAt r k = r.leaks[k].sure := by unfold sureAt; rw [List.getElem?_eq_getElem hlt]
      rw [hat] at HS
      clear hat
      have hc := sureTo_lt r k (by omega)
      have HO := Lib.hid (or_bit16 (sureTo r k) hc k (by omega))
      have HSET := Lib.hid (hL.set5 (sureTo r k ||| (1 <<< k)))
      obtain ⟨y0, y1, y2, y3, y4, y5, y6, y7, y8⟩ := hL.cells
      have f5 := hL.free 5
      obtain ⟨b, off, ha3, hbb, h1, h2, h3⟩ := (hm.mono hbw).leaks k hlt
      generalize r.leaks[k] = x at HS h1 h2 h3
      obtain ⟨src, dst, sure⟩ := x
      simp only at h1 h2 h3 HS
      subst ha3
      have hc64 : ((sureTo r k : Nat) : Int) < 64 := by omega
      have hk64 : (k : Int) < 64 := by omega
      cases sure
      · replace HS := Lib.hid (HS.out.trans (if_neg (by simp)))
        go_wp2
        go_roundw
        case rel => exact ⟨k + 1, by omega, by go_num, by rw [HS.out]; exact hL.same (heap_alloc_old _ _ y8), hbr.alloc (by first | omega | (simp <;> omega)) _⟩
        case measure => simp [intOf]; omega
      · replace HS := Lib.hid (HS.out.trans (if_pos rfl))
        go_wp2
        apply wp_mid _ (fun V => RBlk V (w.heap.size + 1 + 1) (w.heap.size + 1) a1 a2 (some ⟨b, off, none⟩) a4 a5 k1 k2 k3 k4 k5 r (sureTo r (k + 1)) but ∧ Below (w.heap.size + 1 + 1) ((w.alloc (.cells #[.slice a1 r.writers.length k1, .slice a2 r.kept.length k2, .slice (some ⟨b, off, none⟩) r.leaks.length k3, .slice a4 r.letters.length k4, .slice a5 r.heard.length k5] 28)).alloc (.map #[] 0)) V)
        · (focus go_region)
          all_goals
            refine ⟨rfl, ?_⟩
            rw [HO.out, HS.out]
            exact ⟨HSET.out.same (heap_alloc_old _ _ (by simpa using y8)), below_drew' ((hbr.setCell (Nat.le_refl _) _).alloc (by first | omega | (simp <;> omega)) _)⟩
        rintro V ⟨hL', hbr'⟩
        go_wp2
        go_roundw
        case rel => exact ⟨k + 1, by omega, by go_num, hL', hbr'⟩
        case measure => simp [intOf]; omega
    · obtain rfl : k = r.leaks.length := by omega
      have hM0 : MapV ((w.alloc (.cells #[.slice a1 r.writers.length k1, .slice a2 r.kept.length k2, .slice a3 r.leaks.length k3, .slice a4 r.letters.length k4, .slice a5 r.heard.length k5] 28)).alloc (.map #[] 0)) Try.prog 113 (w.heap.size + 1) [] := by have := MapV.made (w.alloc (.cells #[.slice a1 r.writers.length k1, .slice a2 r.kept.length k2, .slice a3 r.leaks.length k3, .slice a4 r.letters.length k4, .slice a5 r.heard.length k5] 28)) Try.prog 113; simpa using this
      have hMr := hM0.same (hbr.block (w.heap.size + 1) (by omega))
      go_wp2
      go_ret
      exact ⟨_, _, rfl, ⟨hm.mono hbw, hL, _, hMr, memo_nil r⟩, hbw, by omega⟩
end Go.Proofs.Ytmhbjohpggghgaa
