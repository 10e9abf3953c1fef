/- What is proved here: the contract of spread. Conditions: the room is looked at and valid. -/
import Derived.Test.YtmhbjohpggghgaaSeNob
import Derived.Test.YtmhbjohpggghgaaSeFew
import Derived.DeepKeys
set_option linter.unusedVariables false
set_option linter.unusedSimpArgs false
namespace Go.Proofs.Ytmhbjohpggghgaa
open Go Go.RowKit

def daySum (W : World) (b : Nat) : Nat := (intOf ((W.cell? ⟨b, 0, none⟩).getD undef)).toNat + (intOf ((W.cell? ⟨b, 1, none⟩).getD undef)).toNat + (intOf ((W.cell? ⟨b, 2, none⟩).getD undef)).toNat + (intOf ((W.cell? ⟨b, 3, none⟩).getD undef)).toNat
def boolOf (v : Value) : Bool := match v with | .bool b => b | _ => false
def sprMeas (v : Value) (W : World) (b : Nat) : Nat := if boolOf v then daySum W b + 1 else 0
theorem daySum_eq {W : World} {b : Nat} {t : TypeId} {d : Nat → Int} (h : BlkI W b t (dl d)) : daySum W b = sum4 d := by
  obtain ⟨e0, e1, e2, e3, _⟩ := dl_four h
  unfold daySum
  rw [e0, e1, e2, e3]
  rfl
/-- Two arrays of days. -/
theorem day_lits (d : Nat → Int) (hd : Days d) : ∃ n, Try.prog.types.size = n + 1 ∧ Try.prog.keyLits (n + 2) 110 (arr4 d).cells.toList = some [.int .i64 (d 0), .int .i64 (d 1), .int .i64 (d 2), .int .i64 (d 3)] := by
  obtain ⟨n, h7⟩ : ∃ n, Try.prog.types.size = n + 1 := ⟨Try.prog.types.size - 1, by kernel_rfl⟩
  refine ⟨n, h7, ?_⟩
  have h1 : Try.prog.underlying 110 = some (.array 4 3) := by kernel_rfl
  have h4 : Try.prog.underlying 3 = some (.int .i64) := by kernel_rfl
  have h5 : Try.prog.cellsOf 3 = 1 := by kernel_rfl
  have h6 : Try.prog.cellsOf 110 = 4 := by kernel_rfl
  have wf : ∀ i, (Lit.int .i64 (d i)).wf = true := fun i => by
    have := hd i
    unfold Lit.wf
    have e1 : IntKind.min .i64 = -9223372036854775808 := by decide
    have e2 : IntKind.max .i64 = 9223372036854775807 := by decide
    simp only [e1, e2, Bool.and_eq_true, decide_eq_true_eq]
    omega
  have e1 : ∀ i, Try.prog.keyLits (n + 1) 3 [.int .i64 (d i)] = some [.int .i64 (d i)] := fun i => by
    unfold Program.keyLits
    simp only [h4, wf i, and_self, if_true]
  show Try.prog.keyLits ((n + 1) + 1) _ [.int .i64 (d 0), .int .i64 (d 1), .int .i64 (d 2), .int .i64 (d 3)] = _
  unfold Program.keyLits
  simp only [h1, h5, h6, List.length_cons, List.length_nil, if_true]
  rw [show List.range 4 = [0, 1, 2, 3] from rfl]
  simp only [List.mapM_cons, List.mapM_nil, Nat.zero_mul, Nat.one_mul, Nat.mul_one, List.drop_zero, List.drop_succ_cons, List.take_succ_cons, List.take_zero, e1 0, e1 1, e1 2, e1 3]
  rfl
def sameB (d e : Nat → Int) : Bool := decide (d 0 = e 0) && decide (d 1 = e 1) && decide (d 2 = e 2) && decide (d 3 = e 3)
theorem sameB_iff {d e : Nat → Int} : sameB d e = true ↔ ∀ i, i < 4 → d i = e i := by
  unfold sameB
  simp only [Bool.and_eq_true, decide_eq_true_eq]
  constructor
  · rintro ⟨⟨⟨h0, h1⟩, h2⟩, h3⟩ i hi
    obtain rfl | rfl | rfl | rfl : i = 0 ∨ i = 1 ∨ i = 2 ∨ i = 3 := by omega
    all_goals assumption
  · intro h
    exact ⟨⟨⟨h 0 (by omega), h 1 (by omega)⟩, h 2 (by omega)⟩, h 3 (by omega)⟩
theorem days_eq (d e : Nat → Int) (hd : Days d) (he : Days e) (w : World) :
    (Op.equalIn 10000 110 (arr4 d) (arr4 e)).run Try.prog w = .ok (sameB d e) w := by
  obtain ⟨n, h7, hl⟩ := day_lits d hd
  obtain ⟨n', h7', hl'⟩ := day_lits e he
  have en : n' = n := by omega
  subst en
  obtain ⟨r, hr, hi⟩ := run_equalIn_deep (P := Try.prog) 9998 2 110 (by kernel_rfl) w (n' + 2) (n' + 2) (arr4 d) (arr4 e) _ _ (by kernel_rfl) (by kernel_rfl) hl hl'
  have hrr : r = sameB d e := by
    rw [Bool.eq_iff_iff]
    rw [sameB_iff]
    refine hi.trans ?_
    simp only [List.cons.injEq, Lit.int.injEq, true_and, and_true]
    constructor
    · rintro ⟨h0, h1, h2, h3⟩ i hi
      obtain rfl | rfl | rfl | rfl : i = 0 ∨ i = 1 ∨ i = 2 ∨ i = 3 := by omega
      all_goals assumption
    · intro h
      exact ⟨h 0 (by omega), h 1 (by omega), h 2 (by omega), h 3 (by omega)⟩
  rw [← hrr]
  exact hr

set_option maxRecDepth 100000 in
set_option maxHeartbeats 2000000 in
theorem SSpread_any (a1 a2 a3 a4 a5 : Option Addr) (k1 k2 k3 k4 k5 : Nat) (r : SeRoom) (bm bo but set : Nat) (d : Nat → Int) (w : World) (hm : RoomW w bm bo a1 a2 a3 a4 a5 k1 k2 k3 k4 k5 r but) (hv : SeValid r) (hs : set < 16) (hd : Days d) :
    Calls Try.prog 115 #[.pointer (some ⟨bm, 0, none⟩), .int .i64 (set : Int), arr4 d] w fun e w' => e = .returned (arr4 (rounds (leaksOf r (bitsList set r.leaks.length)) d r.writers.length)) ∧ Below w.heap.size w w' := by
  obtain ⟨res, hres⟩ : ∃ res, res = rounds (leaksOf r (bitsList set r.leaks.length)) d r.writers.length := ⟨_, rfl⟩
  rw [← hres]
  have HR := Lib.hid hres
  clear hres
  have l3 := hm.room.ok3.len
  have v3 := hv.nl
  have vw := hv.nw
  have HD := Lib.hid hd
  have H0 : Hid (rounds (leaksOf r (bitsList set r.leaks.length)) d 0 = d) := Lib.hid rfl
  obtain ⟨d0, hd0⟩ : ∃ x, x = d 0 := ⟨_, rfl⟩
  obtain ⟨d1, hd1⟩ : ∃ x, x = d 1 := ⟨_, rfl⟩
  obtain ⟨d2, hd2⟩ : ∃ x, x = d 2 := ⟨_, rfl⟩
  obtain ⟨d3, hd3⟩ : ∃ x, x = d 3 := ⟨_, rfl⟩
  have hdl : dl d = [d0, d1, d2, d3] := by rw [hd0, hd1, hd2, hd3]; rfl
  simp only [arr4, ← hd0, ← hd1, ← hd2, ← hd3]
  have HDL := Lib.hid hdl
  clear hdl hd0 hd1 hd2 hd3 hd
  have hW0 := Below.refl (w.heap.size + 1) (w.alloc (.cells #[.int .i64 d0, .int .i64 d1, .int .i64 d2, .int .i64 d3] 110))
  go_enter Try.func115, Try.ntmps115
  go_wp2
  go_loopw [7] (fun m wr => ∃ (k : Nat) (mb : Bool), m = .bool mb ∧ BlkI wr w.heap.size 110 (dl (rounds (leaksOf r (bitsList set r.leaks.length)) d k)) ∧ BlkI wr (w.heap.size + 1) 110 [0, 0, 0, 0] ∧ Hid (mb = false → rounds (leaksOf r (bitsList set r.leaks.length)) d k = res) ∧ Below w.heap.size w wr) (fun m wr => sprMeas m wr w.heap.size)
  case atStart => exact ⟨0, true, rfl, by rw [H0.out, HDL.out]; exact (heap_alloc_old _ _ (by simp)).trans (alloc_at _ _ rfl), alloc_at _ _ (by simp), Lib.hid (fun h => by cases h), (box_old hW0).alloc (by simp) _⟩
  case round =>
    obtain ⟨k, mb, rfl, hL, hZ, HF, hbr⟩ := hrel
    have hm2 := hm.below hbr
    have hbz := hbr.size
    cases mb
    · have e := HF.out rfl
      rw [e] at hL
      obtain ⟨e0, e1, e2, e3, z⟩ := dl_four hL
      have f0 := hZ.free 0
      have f1 := hZ.free 1
      have f2 := hZ.free 2
      have f3 := hZ.free 3
      have g0 := hZ.cell 0 (by simp)
      have g1 := hZ.cell 1 (by simp)
      have g2 := hZ.cell 2 (by simp)
      have g3 := hZ.cell 3 (by simp)
      simp only [List.getElem_cons_zero, List.getElem_cons_succ] at g0 g1 g2 g3
      have zz := hZ.lt
      clear e
      go_wp2
      (try simp only [Exit.inBlock, Exit.then])
      refine bodyPost_ret (v := .agg #[.int .i64 (res 0), .int .i64 (res 1), .int .i64 (res 2), .int .i64 (res 3)]) ?_ rfl ⟨rfl, ?_⟩
      · rw [results_one rfl]
        go_simp
      · exact (((hbr.setCell (by simp) _).setCell (by simp) _).setCell (by simp) _).setCell (by simp) _
    · clear HF
      have HDk := Lib.hid (Days.rounds (L := leaksOf r (bitsList set r.leaks.length)) HD.out k)
      have HS1 := Lib.hid (show relaxTo r set r.leaks.length (rounds (leaksOf r (bitsList set r.leaks.length)) d k) = rounds (leaksOf r (bitsList set r.leaks.length)) d (k + 1) from rfl)
      have HDN := Lib.hid (spread_done hv set d k)
      obtain ⟨D, hDD⟩ : ∃ D, D = rounds (leaksOf r (bitsList set r.leaks.length)) d k := ⟨_, rfl⟩
      rw [← hDD] at hL HDk HS1 HDN
      have HMO := Lib.hid (daySum_eq hL)
      obtain ⟨c0, c1, c2, c3, z⟩ := dl_four hL
      have HDD := Lib.hid hDD
      clear hDD
      obtain ⟨y0, y1, y2, y3, y4, y5, y6, y7, y8⟩ := hm2.blk.cells
      obtain ⟨wo, hwo⟩ : ∃ wo : World, wo = wr := ⟨_, rfl⟩
      subst hwo
      go_wp2
      go_loopw [19] (fun i vr => ∃ j : Nat, j ≤ r.leaks.length ∧ i = .int .i64 j ∧ BlkI vr w.heap.size 110 (dl (relaxTo r set j D)) ∧ BlkI vr wo.heap.size 110 (dl D) ∧ BlkI vr (w.heap.size + 1) 110 [0, 0, 0, 0] ∧ Below w.heap.size w vr) (fun i _ => r.leaks.length - (intOf i).toNat)
      case atStart => exact ⟨0, Nat.zero_le _, rfl, hL.same (heap_alloc_old _ _ hL.lt), alloc_at _ _ rfl, hZ.same (heap_alloc_old _ _ hZ.lt), hbr.alloc hbz _⟩
      case round =>
        clear hL hZ hbr
        obtain ⟨j, hj, rfl, hL, hB, hZ, hbr⟩ := hrel
        have hm3 := hm.below hbr
        have hbz := hbr.size
        by_cases hlt : j < r.leaks.length
        · have HX := Lib.hid (relaxTo_succ r set j D hlt)
          have hDj := relaxTo_days r set j HDk.out
          have hv3 := hv.leaks j hlt
          have hb := bit_and set (by omega) j (by omega)
          obtain ⟨b, off, rfl, hbb, h1, h2, h3⟩ := hm3.room.leaks j hlt
          generalize r.leaks[j] = x at HX hv3 h1 h2 h3
          obtain ⟨src, dst, sure⟩ := x
          simp only at hv3 h1 h2 h3
          obtain ⟨u, rfl⟩ : ∃ u : Nat, src = u := ⟨src.toNat, by omega⟩
          obtain ⟨v, rfl⟩ : ∃ v : Nat, dst = v := ⟨dst.toNat, by omega⟩
          have hu4 : u < 4 := by omega
          have hv4 : v < 4 := by omega
          have hu4i : (u : Int) < 4 := by omega
          have hv4i : (v : Int) < 4 := by omega
          have lz := hL.lt
          have hs64 : (set : Int) < 64 := by omega
          have hj4 : (j : Int) < 64 := by omega
          cases hbt : set.testBit j
          · rw [hbt] at hb HX
            replace HX := Lib.hid (HX.out.trans (if_neg (by simp)))
            clear hbt
            go_wp2
            go_roundw
            case rel => exact ⟨j + 1, by omega, by go_num, by rw [HX.out]; exact hL.same (heap_alloc_old _ _ hL.lt), hB.same (heap_alloc_old _ _ hB.lt), hZ.same (heap_alloc_old _ _ hZ.lt), hbr.alloc hbz _⟩
            case measure => simp [intOf]; omega
          · rw [hbt] at hb HX
            replace HX := Lib.hid (HX.out.trans (if_pos rfl))
            clear hbt
            have eu := dl_cell hL u hu4
            have ev := dl_cell hL v hv4
            have fv := hL.free v
            have hdu := hDj u
            have hdv := hDj v
            have HSET : Hid (∀ y, y = min (relaxTo r set j D v) (relaxTo r set j D u + 1) → BlkI (wr.setCell ⟨w.heap.size, v, none⟩ (.int .i64 y)) w.heap.size 110 (dl (relaxTo r set (j + 1) D))) := Lib.hid (fun y hy => by
              have := hL.set v y
              rw [dl_set _ _ _ hv4] at this
              rw [HX.out]
              have e : (fun w => if w = v then y else relaxTo r set j D w) = relax (relaxTo r set j D) ⟨u, v, sure⟩ := by
                funext w
                unfold relax
                simp only [Int.toNat_natCast]
                by_cases h : w = v
                · rw [if_pos h, if_pos h, hy, h]
                · rw [if_neg h, if_neg h]
              rw [← e]; exact this)
            generalize relaxTo r set j D u = du at eu hdu HSET
            generalize relaxTo r set j D v = dv at ev hdv HSET
            clear hDj HX
            go_wp2
            apply wp_mid _ (fun W' => BlkI W' w.heap.size 110 (dl (relaxTo r set (j + 1) D)) ∧ BlkI W' wo.heap.size 110 (dl D) ∧ BlkI W' (w.heap.size + 1) 110 [0, 0, 0, 0] ∧ Below w.heap.size w W')
            · (focus go_region)
              all_goals exact ⟨rfl, (HSET.out _ (by split <;> omega)).same (heap_alloc_old _ _ (by simpa using lz)), hB.same ((heap_alloc_old _ _ (by simpa using hB.lt)).trans (Below.heap_setCell _ _ _ _ (fun e => by simp only at e; omega))), hZ.same ((heap_alloc_old _ _ (by simpa using hZ.lt)).trans (Below.heap_setCell _ _ _ _ (fun e => by simp only at e; omega))), below_drew' ((hbr.setCell (Nat.le_refl _) _).alloc (by simpa using hbz) _)⟩

            rintro W' ⟨hL', hB', hZ', hbr'⟩
            go_wp2
            go_roundw
            case rel => exact ⟨j + 1, by omega, by go_num, hL', hB', hZ', hbr'⟩
            case measure => simp [intOf]; omega
        · obtain rfl : j = r.leaks.length := by omega
          rw [HS1.out] at hL
          obtain ⟨e0, e1, e2, e3, ze⟩ := dl_four hL
          obtain ⟨c0, c1, c2, c3, zc⟩ := dl_four hB
          have hD' : Days (rounds (leaksOf r (bitsList set r.leaks.length)) d (k + 1)) := Days.rounds HD.out _
          have hrun := fun W : World => days_eq _ _ hD' HDk.out W
          have HBB : Hid (sameB (rounds (leaksOf r (bitsList set r.leaks.length)) d (k + 1)) D = true ↔ ∀ i, i < 4 → rounds (leaksOf r (bitsList set r.leaks.length)) d (k + 1) i = D i) := Lib.hid sameB_iff
          have hmeas := Lib.hid (show sum4 (rounds (leaksOf r (bitsList set r.leaks.length)) d (k + 1)) < sum4 D ∨ ∀ w, w < 4 → rounds (leaksOf r (bitsList set r.leaks.length)) d (k + 1) w = D w from by
            by_cases h : ∀ w, w < 4 → relaxTo r set r.leaks.length D w = D w
            · right; rw [← HS1.out]; exact h
            · left; rw [← HS1.out]; exact sum4_less set HDk.out h)
          have HME : Hid (∀ (b : Bool) (W : World), (b = true → sum4 (rounds (leaksOf r (bitsList set r.leaks.length)) d (k + 1)) < sum4 D) → BlkI W w.heap.size 110 (dl (rounds (leaksOf r (bitsList set r.leaks.length)) d (k + 1))) → sprMeas (.bool b) W w.heap.size < sprMeas (.bool true) wo w.heap.size) := Lib.hid (fun b W h hW => by
            unfold sprMeas boolOf
            simp only [if_true]
            rw [HMO.out]
            cases b
            · simp
            · rw [daySum_eq hW]
              have := h rfl
              simp
              omega)
          have HNO : Hid (sameB (rounds (leaksOf r (bitsList set r.leaks.length)) d (k + 1)) D = true → rounds (leaksOf r (bitsList set r.leaks.length)) d (k + 1) = res) := Lib.hid (fun h => by
            have h2 := sameB_iff.1 h
            have h3 : D = rounds (leaksOf r (bitsList set r.leaks.length)) d r.writers.length := HDN.out (fun w hw => by rw [HS1.out]; exact h2 w hw)
            rw [HR.out, ← h3]
            rw [← HS1.out]
            have h4 := leaksOf_src hv (bitsList set r.leaks.length)
            have h5 : relaxL (leaksOf r (bitsList set r.leaks.length)) D = D := funext fun w => by
              by_cases hw : w < 4
              · have := h2 w hw; rw [← HS1.out] at this; exact this
              · exact relax_out hv _ _ w (by omega)
            exact h5)
          clear hD' HBB
          generalize hE : rounds (leaksOf r (bitsList set r.leaks.length)) d (k + 1) = E at *
          have HEE := Lib.hid hE
          clear hE
          unfold arr4 at hrun
          cases hbb : sameB E D
          · have HNE := Lib.hid (show ¬ ∀ w, w < 4 → E w = D w from fun h => by have h2 := sameB_iff.2 h; rw [hbb] at h2; cases h2)
            rw [hbb] at hrun
            clear hbb HNO
            go_wp2
            go_roundw
            case rel => exact ⟨k + 1, true, rfl, by rw [HEE.out]; exact hL, hZ, Lib.hid (fun h => by cases h), hbr⟩
            case measure => exact HME.out true _ (fun _ => hmeas.out.resolve_right (fun h => (HNE.out h).elim)) hL
          · have HNO := Lib.hid (HNO.out hbb)
            rw [hbb] at hrun
            clear hbb hmeas
            go_wp2
            go_roundw
            case rel => exact ⟨k + 1, false, rfl, by rw [HEE.out]; exact hL, hZ, Lib.hid (fun _ => HEE.out.trans HNO.out), hbr⟩
            case measure => exact HME.out false _ (fun h => by cases h) hL
end Go.Proofs.Ytmhbjohpggghgaa
