/- What is proved here: the contract of due. Conditions: the list is valid. -/
import Derived.Test.YtnlolliankhfmaaLookB
import Derived.Test.YtnlolliankhfmaaPlain
import Derived.BigRegion
set_option linter.unusedVariables false
set_option linter.unusedSimpArgs false
namespace Go.Proofs.Ytnlolliankhfmaa
open Go Go.RowKit Go.Shelf

set_option maxRecDepth 100000 in
set_option maxHeartbeats 2000000 in
theorem MDue_any (ac az aw ap : Option Addr) (cc cz cw cp : Nat) (m : MoList) (c bm : Nat) (T : List Int) (t0 t1 t2 t3 t4 : Int) (hT : T = [t0, t1, t2, t3, t4]) (hTb : ∀ j, j < m.sums.length → 0 ≤ T[j]?.getD 0 ∧ T[j]?.getD 0 < 4) (w : World) (hm : LookC w bm ac az aw ap cc cz cw cp m c) (hv : Valid m) :
    Calls Try.prog 104 #[.pointer (some ⟨bm, 0, none⟩), .agg #[.int .i64 t0, .int .i64 t1, .int .i64 t2, .int .i64 t3, .int .i64 t4]] w fun e w' => e = .returned (.agg #[.int .i64 (dueTo m T 0 m.sums.length), .int .i64 (dueTo m T 1 m.sums.length), .int .i64 (dueTo m T 2 m.sums.length), .int .i64 (dueTo m T 3 m.sums.length)]) ∧ Below w.heap.size w w' := by
  have HT := Lib.hid hT
  clear hT
  have HB := Lib.hid hTb
  clear hTb
  have l2 := hm.lst.okz.len
  have v2 := hv.nz
  have c1 := hm.c1
  have hB := lt_of_cell c1
  have hW0 := Below.refl (w.heap.size + 1) (w.alloc (.cells #[.int .i64 t0, .int .i64 t1, .int .i64 t2, .int .i64 t3, .int .i64 t4] 96))
  go_enter Try.func104, Try.ntmps104
  go_wp2
  go_loopw [13] (fun i wr => ∃ k : Nat, k ≤ m.sums.length ∧ i = .int .i64 k ∧ BlkI wr (w.heap.size + 1) 115 (duesTo m T k) ∧ Below (w.heap.size + 1) (w.alloc (.cells #[.int .i64 t0, .int .i64 t1, .int .i64 t2, .int .i64 t3, .int .i64 t4] 96)) wr) (fun i _ => m.sums.length - (intOf i).toNat)
  case atStart => exact ⟨0, Nat.zero_le _, rfl, alloc_at _ _ (by simp), hW0.alloc (by simp) _⟩
  case round =>
    obtain ⟨k, hk, rfl, hL, hbr⟩ := hrel
    have hm2 := hm.mono (box_old hbr)
    have d1 := hm2.c1
    have hBd := lt_of_cell d1
    clear c1 hB
    by_cases hlt : k < m.sums.length
    · have hTk := HB.out k hlt
      have tcell := five_cell hbr HT.out k (by omega)
      have HX := Lib.hid (duesTo_succ m T k (T[k]?.getD 0).toNat (by omega) (by omega))
      obtain ⟨x, hx⟩ : ∃ x : Nat, T[k]?.getD 0 = (x : Int) := Int.eq_ofNat_of_zero_le hTk.1
      rw [hx] at tcell HX hTk
      simp only [Int.toNat_natCast] at HX
      have hx4 : x < 4 := by omega
      have ecell := blk_cell x hL (v := .int .i64 (dueTo m T x k)) (by simp [duesTo_at m T k x hx4])
      have efree := blk_free x hL
      have ez := box_size hbr
      have ez2 := hL.lt
      have eset : ∀ o : Obj, BlkI ((wr.setCell ⟨w.heap.size + 1, x, none⟩ (.int .i64 (dueTo m T x k + penceAt m k))).alloc o) (w.heap.size + 1) 115 (duesTo m T (k+1)) := fun o => by
        rw [HX.out]
        exact (hL.set x _).same (heap_alloc_old _ o (by simpa using ez2))
      have eset := Lib.hid eset
      have hdb := dueTo_bd m hv T (x : Int) k
      have hpb := pence_bd m hv k
      obtain ⟨b, off, rfl, hb, h1, h2, h3⟩ := hm2.lst.sums k hlt
      have hpe := penceAt_eq m k hlt
      rw [← hpe] at h2
      clear hpe hx
      generalize dueTo m T x k = d at *
      generalize penceAt m k = p at *
      go_wp2
      apply wp_mid _ (fun W' => BlkI W' (w.heap.size + 1) 115 (duesTo m T (k+1)) ∧ Below (w.heap.size + 1) (w.alloc (.cells #[.int .i64 t0, .int .i64 t1, .int .i64 t2, .int .i64 t3, .int .i64 t4] 96)) W')
      · (focus go_region)
        all_goals exact ⟨rfl, eset.out _, below_drew' ((hbr.setCell (by simp) _).alloc (by simp; omega) _)⟩
      clear eset ecell efree hL hbr
      rintro W' ⟨hL, hbr⟩
      go_wp2
      go_roundw
      case rel => exact ⟨k + 1, by omega, by go_num, hL, hbr⟩
      case measure => simp [intOf]; omega
    · obtain rfl : k = m.sums.length := by omega
      have e0 := blk_cell 0 hL (v := .int .i64 (dueTo m T 0 m.sums.length)) (by simp [duesTo])
      have e1 := blk_cell 1 hL (v := .int .i64 (dueTo m T 1 m.sums.length)) (by simp [duesTo])
      have e2 := blk_cell 2 hL (v := .int .i64 (dueTo m T 2 m.sums.length)) (by simp [duesTo])
      have e3 := blk_cell 3 hL (v := .int .i64 (dueTo m T 3 m.sums.length)) (by simp [duesTo])
      have f0 := blk_free 0 hL
      have f1 := blk_free 1 hL
      have f2 := blk_free 2 hL
      have f3 := blk_free 3 hL
      go_wp2
      (try simp only [Exit.inBlock, Exit.then])
      refine bodyPost_ret (v := .agg #[.int .i64 (dueTo m T 0 m.sums.length), .int .i64 (dueTo m T 1 m.sums.length), .int .i64 (dueTo m T 2 m.sums.length), .int .i64 (dueTo m T 3 m.sums.length)]) ?_ rfl ⟨rfl, ?_⟩
      · rw [results_one rfl]
        go_simp
      · exact ((((box_old hbr).setCell (by simp) _).setCell (by simp) _).setCell (by simp) _).setCell (by simp) _
end Go.Proofs.Ytnlolliankhfmaa
