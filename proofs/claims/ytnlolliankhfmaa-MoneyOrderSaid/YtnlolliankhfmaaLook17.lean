/- What is proved here: the contract of right. Conditions: the list is valid; the truth has an entry for each sum. -/
import Derived.Test.YtnlolliankhfmaaLook8
import Derived.Test.YtnlolliankhfmaaPlain
set_option linter.unusedVariables false
set_option linter.unusedSimpArgs false
namespace Go.Proofs.Ytnlolliankhfmaa
open Go Go.RowKit

theorem five_at {w W : World} {t0 t1 t2 t3 t4 : Int} {t : TypeId} (h : Below (w.heap.size + 1) (w.alloc (.cells #[.int .i64 t0, .int .i64 t1, .int .i64 t2, .int .i64 t3, .int .i64 t4] t)) W) {T : List Int} (hT : T = [t0, t1, t2, t3, t4]) (j : Nat) (hj : j < 5) :
    W.cell? ⟨w.heap.size, j, none⟩ = some (.int .i64 (T[j]?.getD 0)) := five_cell h hT j hj

set_option maxRecDepth 100000 in
set_option maxHeartbeats 4000000 in
theorem MRight_any (ac az aw ap : Option Addr) (cc cz cw cp : Nat) (m : MoList) (c bm but : Nat) (t : List Int) (t0 t1 t2 t3 t4 : Int) (hT : pad 5 t = [t0, t1, t2, t3, t4]) (ht : t.length = m.sums.length) (w : World) (hm : LookC w bm ac az aw ap cc cz cw cp m c) (hv : Valid m) (hbut : but < 64) :
    Calls Try.prog 88 #[.pointer (some ⟨bm, 0, none⟩), .agg #[.int .i64 t0, .int .i64 t1, .int .i64 t2, .int .i64 t3, .int .i64 t4], .int .i64 (but : Int)] w fun e w' => e = .returned (.bool (rightB m t but)) ∧ Below w.heap.size w w' := by
  have HT := Lib.hid hT
  clear hT
  have HL := Lib.hid ht
  clear ht
  have l4 := hm.lst.okp.len
  have v4 := hv.np
  have vz := hv.nz
  have c3 := hm.c3
  have hB := lt_of_cell c3
  have hW0 := Below.refl (w.heap.size + 1) (w.alloc (.cells #[.int .i64 t0, .int .i64 t1, .int .i64 t2, .int .i64 t3, .int .i64 t4] 96))
  go_enter Try.func88, Try.ntmps88
  go_wp2
  go_loopw [7, 16] (fun s i wr => ∃ k : Nat, k ≤ m.paid.length ∧ i = .int .i64 k ∧ s = .int .i64 ((paidBits m but k : Nat) : Int) ∧ Hid (∀ j, j < k → rightAtB m t but j = true) ∧ Below (w.heap.size + 1) (w.alloc (.cells #[.int .i64 t0, .int .i64 t1, .int .i64 t2, .int .i64 t3, .int .i64 t4] 96)) wr) (fun _ i _ => m.paid.length - (intOf i).toNat)
  case atStart => exact ⟨0, Nat.zero_le _, rfl, rfl, Lib.hid (fun j h => absurd h (Nat.not_lt_zero j)), hW0⟩
  case round =>
    clear hW0
    obtain ⟨k, hk, rfl, rfl, HR, hbr⟩ := hrel
    have hbw := box_old hbr
    have hbz := box_size hbr
    have d3 := cell_below hbw c3
    have hBd := lt_of_cell d3
    clear c3 hB
    by_cases hlt : k < m.paid.length
    · obtain ⟨b, off, rfl, hb0, z1, z2⟩ := (hm.lst.mono hbw).paid k hlt
      have hpv := hv.paid k hlt
      have HS := Lib.hid (paidBits_lt m hv but k (by omega))
      have A0 := Lib.hid (paidBits_out m but k)
      have A1 := Lib.hid (paidBits_in m but k hlt)
      have A2 := Lib.hid (rightB_no hv (t := t) (but := but) hlt)
      have A3 := Lib.hid (rightB_at hv (t := t) (but := but) hlt)
      have HB := bit_and but hbut k (by omega)
      generalize hps : m.paid[k].sum = ps at z1 hpv A1 A2 A3
      generalize hpc : m.paid[k].claimant = pc at z2 hpv A2 A3
      clear hps hpc
      obtain ⟨⟨hp0, hp1⟩, hp2, hp3⟩ := hpv
      obtain ⟨p, rfl⟩ := Int.eq_ofNat_of_zero_le hp0
      have hp5 : p < 5 := by omega
      have hp5i : (p : Int) < 5 := by omega
      simp only [Int.toNat_natCast] at A1 A2 A3
      have y1 := five_cell hbr HT.out p hp5
      have hg := pad_get 5 t p (by rw [HL.out]; omega)
      rw [hg] at y1
      clear hg
      generalize t[p]?.getD 0 = y at y1 A2 A3
      generalize hpb : paidBits m but k = pb at HS A0 A1 A2 A3
      clear hpb
      generalize hbk : but.testBit k = bk at HB A0 A1 A2 A3
      clear hbk
      cases bk
      · have HP := bit_and pb (Nat.lt_trans HS.out (by decide)) p (by omega)
        have HO := Lib.hid (or_bit pb (Nat.lt_trans HS.out (by decide)) p (by omega))
        generalize pb.testBit p = bp at HP A2 A3
        cases bp
        · by_cases hy : y = pc
          · have g := nei_f hy
            have A4 := Lib.hid (A3.out (.inr ⟨rfl, hy⟩))
            clear A2 A3 hy
            go_wp2
            go_quiet (fail)
            go_wp2
            go_roundw
            case rel => exact ⟨k + 1, by omega, by go_num, val_int (HO.out.trans (by rw [A1.out trivial])), Lib.hid (fun j hj => by by_cases e : j < k; exact HR.out j e; obtain rfl : j = k := (by omega); exact A4.out), below_drewN' (hbr.alloc hbz _) _⟩
            case measure => simp [intOf]; omega
          · have g := nei_t hy
            have A4 := Lib.hid (A2.out rfl (.inr hy))
            clear A2 A3 hy
            go_wp2
            go_quiet (fail)
            go_wp2
            go_ret
            exact ⟨ret_bool A4.out.symm, below_drewN' (hbw.alloc hbw.size _) _⟩
        · have A4 := Lib.hid (A2.out rfl (.inl rfl))
          clear A2 A3
          go_wp2
          go_quiet (fail)
          go_wp2
          go_ret
          exact ⟨ret_bool A4.out.symm, below_drewN' (hbw.alloc hbw.size _) _⟩
      · have A4 := Lib.hid (A3.out (.inl rfl))
        go_wp2
        go_roundw
        case rel => exact ⟨k + 1, by omega, by go_num, by rw [A0.out rfl], Lib.hid (fun j hj => by by_cases e : j < k; exact HR.out j e; obtain rfl : j = k := (by omega); exact A4.out), hbr.alloc hbz _⟩
        case measure => simp [intOf]; omega
    · obtain rfl : k = m.paid.length := by omega
      go_wp2
      go_ret
      exact ⟨ret_bool (rightB_yes hv HR.out).symm, hbw⟩
end Go.Proofs.Ytnlolliankhfmaa
