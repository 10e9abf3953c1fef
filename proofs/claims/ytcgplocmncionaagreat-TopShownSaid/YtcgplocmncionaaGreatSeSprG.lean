/- What is proved here: the contract of spread. Conditions: the room is looked at and valid. -/
/- What is proved here: the contract of since, which remembers. Conditions: the room is looked at and valid. -/
/- What is proved here: truths, as an iterator. Conditions: the room is looked at and valid. -/
/- What is proved here: the contracts of look and some. Conditions: the room lies in memory and is valid. -/
/- What is proved here: the contract of some; what of a room stays while other memory turns. Conditions: the room is looked at and valid. -/
import Derived.Test.YtcgplocmncionaaGreatSeMemG
import Derived.Test.YtcgplocmncionaaGreatSeFew
import Derived.DeepKeys
import Derived.Deep.DeepCutAuto
set_option linter.unusedVariables false
set_option linter.unusedSimpArgs false
namespace Go.Proofs.YtcgplocmncionaaGreat
open Go Go.RowKit

def daySum (W : World) (b : Nat) : Nat := (intOf ((W.cell? ⟨b, 0, none⟩).getD undef)).toNat + (intOf ((W.cell? ⟨b, 1, none⟩).getD undef)).toNat + (intOf ((W.cell? ⟨b, 2, none⟩).getD undef)).toNat + (intOf ((W.cell? ⟨b, 3, none⟩).getD undef)).toNat
def boolOf (v : Value) : Bool := match v with | .bool b => b | _ => false
def sprMeas (v : Value) (W : World) (b : Nat) : Nat := if boolOf v then daySum W b + 1 else 0
theorem daySum_eq {W : World} {b : Nat} {t : TypeId} {d : Nat → Int} (h : BlkI W b t (dl d)) : daySum W b = sum4 d := by
  obtain ⟨e0, e1, e2, e3, _⟩ := dl_four h
  unfold daySum
  rw [e0, e1, e2, e3]
  rfl
/-- Two arrays of days. -/
theorem day_lits (d : Nat → Int) (hd : Days d) : ∃ n, Tryz.prog.types.size = n + 1 ∧ Tryz.prog.keyLits (n + 2) 67 (arr4 d).cells.toList = some [.int .i64 (d 0), .int .i64 (d 1), .int .i64 (d 2), .int .i64 (d 3)] := by
  obtain ⟨n, h7⟩ : ∃ n, Tryz.prog.types.size = n + 1 := ⟨Tryz.prog.types.size - 1, by kernel_rfl⟩
  refine ⟨n, h7, ?_⟩
  have h1 : Tryz.prog.underlying 67 = some (.array 4 3) := by kernel_rfl
  have h4 : Tryz.prog.underlying 3 = some (.int .i64) := by kernel_rfl
  have h5 : Tryz.prog.cellsOf 3 = 1 := by kernel_rfl
  have h6 : Tryz.prog.cellsOf 67 = 4 := by kernel_rfl
  have wf : ∀ i, (Lit.int .i64 (d i)).wf = true := fun i => by
    have := hd i
    unfold Lit.wf
    have e1 : IntKind.min .i64 = -9223372036854775808 := by decide
    have e2 : IntKind.max .i64 = 9223372036854775807 := by decide
    simp only [e1, e2, Bool.and_eq_true, decide_eq_true_eq]
    omega
  have e1 : ∀ i, Tryz.prog.keyLits (n + 1) 3 [.int .i64 (d i)] = some [.int .i64 (d i)] := fun i => by
    unfold Program.keyLits
    simp only [h4, wf i, and_self, if_true]
  show Tryz.prog.keyLits ((n + 1) + 1) _ [.int .i64 (d 0), .int .i64 (d 1), .int .i64 (d 2), .int .i64 (d 3)] = _
  unfold Program.keyLits
  simp only [h1, h5, h6, List.length_cons, List.length_nil, if_true]
  rw [show List.range 4 = [0, 1, 2, 3] from rfl]
  simp only [List.mapM_cons, List.mapM_nil, Nat.zero_mul, Nat.one_mul, Nat.mul_one, List.drop_zero, List.drop_succ_cons, List.take_succ_cons, List.take_zero, e1 0, e1 1, e1 2, e1 3]
  rfl
def sameB (d e : Nat → Int) : Bool := decide (d 0 = e 0) && decide (d 1 = e 1) && decide (d 2 = e 2) && decide (d 3 = e 3)
theorem sameB_iff {d e : Nat → Int} : sameB d e = true ↔ ∀ i, i < 4 → d i = e i := by
  unfold sameB
  simp only [Bool.and_eq_true, decide_eq_true_eq]
  constructor
  · rintro ⟨⟨⟨h0, h1⟩, h2⟩, h3⟩ i hi
    obtain rfl | rfl | rfl | rfl : i = 0 ∨ i = 1 ∨ i = 2 ∨ i = 3 := by omega
    all_goals assumption
  · intro h
    exact ⟨⟨⟨h 0 (by omega), h 1 (by omega)⟩, h 2 (by omega)⟩, h 3 (by omega)⟩
theorem days_eq (d e : Nat → Int) (hd : Days d) (he : Days e) (w : World) :
    (Op.equalIn 10000 67 (arr4 d) (arr4 e)).run Tryz.prog w = .ok (sameB d e) w := by
  obtain ⟨n, h7, hl⟩ := day_lits d hd
  obtain ⟨n', h7', hl'⟩ := day_lits e he
  have en : n' = n := by omega
  subst en
  obtain ⟨r, hr, hi⟩ := run_equalIn_deep (P := Tryz.prog) 9998 2 67 (by kernel_rfl) w (n' + 2) (n' + 2) (arr4 d) (arr4 e) _ _ (by kernel_rfl) (by kernel_rfl) hl hl'
  have hrr : r = sameB d e := by
    rw [Bool.eq_iff_iff]
    rw [sameB_iff]
    refine hi.trans ?_
    simp only [List.cons.injEq, Lit.int.injEq, true_and, and_true]
    constructor
    · rintro ⟨h0, h1, h2, h3⟩ i hi
      obtain rfl | rfl | rfl | rfl : i = 0 ∨ i = 1 ∨ i = 2 ∨ i = 3 := by omega
      all_goals assumption
    · intro h
      exact ⟨h 0 (by omega), h 1 (by omega), h 2 (by omega), h 3 (by omega)⟩
  rw [← hrr]
  exact hr

set_option maxRecDepth 100000 in
set_option maxHeartbeats 2000000 in
theorem SSpread_any (a1 a2 a3 a4 a5 : Option Addr) (k1 k2 k3 k4 k5 : Nat) (r : SeRoom) (bm bo but set : Nat) (d : Nat → Int) (w : World) (hm : RoomW w bm bo a1 a2 a3 a4 a5 k1 k2 k3 k4 k5 r but) (hv : SeValid r) (hs : set < 16) (hd : Days d) :
    Calls Tryz.prog 57 #[.pointer (some ⟨bm, 0, none⟩), .int .i64 (set : Int), arr4 d] w fun e w' => e = .returned (arr4 (rounds (leaksOf r (bitsList set r.leaks.length)) d r.writers.length)) ∧ Below w.heap.size w w' := by
  obtain ⟨res, hres⟩ : ∃ res, res = rounds (leaksOf r (bitsList set r.leaks.length)) d r.writers.length := ⟨_, rfl⟩
  rw [← hres]
  have HR := Lib.hid hres
  clear hres
  have l3 := hm.room.ok3.len
  have v3 := hv.nl
  have vw := hv.nw
  have HD := Lib.hid hd
  have H0 : Hid (rounds (leaksOf r (bitsList set r.leaks.length)) d 0 = d) := Lib.hid rfl
  obtain ⟨d0, hd0⟩ : ∃ x, x = d 0 := ⟨_, rfl⟩
  obtain ⟨d1, hd1⟩ : ∃ x, x = d 1 := ⟨_, rfl⟩
  obtain ⟨d2, hd2⟩ : ∃ x, x = d 2 := ⟨_, rfl⟩
  obtain ⟨d3, hd3⟩ : ∃ x, x = d 3 := ⟨_, rfl⟩
  have hdl : dl d = [d0, d1, d2, d3] := by rw [hd0, hd1, hd2, hd3]; rfl
  simp only [arr4, ← hd0, ← hd1, ← hd2, ← hd3]
  have HDL := Lib.hid hdl
  clear hdl hd0 hd1 hd2 hd3 hd
  have hW0 := Below.refl (w.heap.size + 1) (w.alloc (.cells #[.int .i64 d0, .int .i64 d1, .int .i64 d2, .int .i64 d3] 67))
  go_enter Tryz.func57, Tryz.ntmps57
  go_wp2
  go_loopw [7] (fun m wr => ∃ (k : Nat) (mb : Bool), m = .bool mb ∧ BlkI wr w.heap.size 67 (dl (rounds (leaksOf r (bitsList set r.leaks.length)) d k)) ∧ BlkI wr (w.heap.size + 1) 67 [0, 0, 0, 0] ∧ Hid (mb = false → rounds (leaksOf r (bitsList set r.leaks.length)) d k = res) ∧ Below w.heap.size w wr) (fun m wr => sprMeas m wr w.heap.size)
  case atStart => exact ⟨0, true, rfl, by rw [H0.out, HDL.out]; exact (heap_alloc_old _ _ (by simp)).trans (alloc_at _ _ rfl), alloc_at _ _ (by simp), Lib.hid (fun h => by cases h), (box_old hW0).alloc (by simp) _⟩
  case round =>
    obtain ⟨k, mb, rfl, hL, hZ, HF, hbr⟩ := hrel
    have hm2 := hm.below hbr
    have hbz := hbr.size
    cases mb
    · have e := HF.out rfl
      rw [e] at hL
      obtain ⟨e0, e1, e2, e3, z⟩ := dl_four hL
      have f0 := hZ.free 0
      have f1 := hZ.free 1
      have f2 := hZ.free 2
      have f3 := hZ.free 3
      have g0 := hZ.cell 0 (by simp)
      have g1 := hZ.cell 1 (by simp)
      have g2 := hZ.cell 2 (by simp)
      have g3 := hZ.cell 3 (by simp)
      simp only [List.getElem_cons_zero, List.getElem_cons_succ] at g0 g1 g2 g3
      have zz := hZ.lt
      clear e
      go_wp2
      (try simp only [Exit.inBlock, Exit.then])
      refine bodyPost_ret (v := .agg #[.int .i64 (res 0), .int .i64 (res 1), .int .i64 (res 2), .int .i64 (res 3)]) ?_ rfl ⟨rfl, ?_⟩
      · rw [results_one rfl]
        go_simp
      · exact (((hbr.setCell (by simp) _).setCell (by simp) _).setCell (by simp) _).setCell (by simp) _
    · clear HF
      have HDk := Lib.hid (Days.rounds (L := leaksOf r (bitsList set r.leaks.length)) HD.out k)
      have HS1 := Lib.hid (show relaxTo r set r.leaks.length (rounds (leaksOf r (bitsList set r.leaks.length)) d k) = rounds (leaksOf r (bitsList set r.leaks.length)) d (k + 1) from rfl)
      have HDN := Lib.hid (spread_done hv set d k)
      obtain ⟨D, hDD⟩ : ∃ D, D = rounds (leaksOf r (bitsList set r.leaks.length)) d k := ⟨_, rfl⟩
      rw [← hDD] at hL HDk HS1 HDN
      have HMO := Lib.hid (daySum_eq hL)
      obtain ⟨c0, c1, c2, c3, z⟩ := dl_four hL
      have HDD := Lib.hid hDD
      clear hDD
      obtain ⟨y0, y1, y2, y3, y4, y5, y6, y7, y8⟩ := hm2.blk.cells
      obtain ⟨wo, hwo⟩ : ∃ wo : World, wo = wr := ⟨_, rfl⟩
      subst hwo
      go_wp2
      go_loopw [19] (fun i vr => ∃ j : Nat, j ≤ r.leaks.length ∧ i = .int .i64 j ∧ BlkI vr w.heap.size 67 (dl (relaxTo r set j D)) ∧ BlkI vr wo.heap.size 67 (dl D) ∧ BlkI vr (w.heap.size + 1) 67 [0, 0, 0, 0] ∧ Below w.heap.size w vr) (fun i _ => r.leaks.length - (intOf i).toNat)
      case atStart => exact ⟨0, Nat.zero_le _, rfl, hL.same (heap_alloc_old _ _ hL.lt), alloc_at _ _ rfl, hZ.same (heap_alloc_old _ _ hZ.lt), hbr.alloc hbz _⟩
      case round =>
        clear hL hZ hbr
        obtain ⟨j, hj, rfl, hL, hB, hZ, hbr⟩ := hrel
        have hm3 := hm.below hbr
        have hbz := hbr.size
        by_cases hlt : j < r.leaks.length
        · have HX := Lib.hid (relaxTo_succ r set j D hlt)
          have hDj := relaxTo_days r set j HDk.out
          have hv3 := hv.leaks j hlt
          have hb := bit_and set (by omega) j (by omega)
          obtain ⟨b, off, rfl, hbb, h1, h2, h3⟩ := hm3.room.leaks j hlt
          generalize r.leaks[j] = x at HX hv3 h1 h2 h3
          obtain ⟨src, dst, sure⟩ := x
          simp only at hv3 h1 h2 h3
          obtain ⟨u, rfl⟩ : ∃ u : Nat, src = u := ⟨src.toNat, by omega⟩
          obtain ⟨v, rfl⟩ : ∃ v : Nat, dst = v := ⟨dst.toNat, by omega⟩
          have hu4 : u < 4 := by omega
          have hv4 : v < 4 := by omega
          have hu4i : (u : Int) < 4 := by omega
          have hv4i : (v : Int) < 4 := by omega
          have lz := hL.lt
          have hs64 : (set : Int) < 64 := by omega
          have hj4 : (j : Int) < 64 := by omega
          cases hbt : set.testBit j
          · rw [hbt] at hb HX
            replace HX := Lib.hid (HX.out.trans (if_neg (by simp)))
            clear hbt
            go_wp2
            go_roundw
            case rel => exact ⟨j + 1, by omega, by go_num, by rw [HX.out]; exact hL.same (heap_alloc_old _ _ hL.lt), hB.same (heap_alloc_old _ _ hB.lt), hZ.same (heap_alloc_old _ _ hZ.lt), hbr.alloc hbz _⟩
            case measure => simp [intOf]; omega
          · rw [hbt] at hb HX
            replace HX := Lib.hid (HX.out.trans (if_pos rfl))
            clear hbt
            have eu := dl_cell hL u hu4
            have ev := dl_cell hL v hv4
            have fv := hL.free v
            have hdu := hDj u
            have hdv := hDj v
            have HSET : Hid (∀ y, y = min (relaxTo r set j D v) (relaxTo r set j D u + 1) → BlkI (wr.setCell ⟨w.heap.size, v, none⟩ (.int .i64 y)) w.heap.size 67 (dl (relaxTo r set (j + 1) D))) := Lib.hid (fun y hy => by
              have := hL.set v y
              rw [dl_set _ _ _ hv4] at this
              rw [HX.out]
              have e : (fun w => if w = v then y else relaxTo r set j D w) = relax (relaxTo r set j D) ⟨u, v, sure⟩ := by
                funext w
                unfold relax
                simp only [Int.toNat_natCast]
                by_cases h : w = v
                · rw [if_pos h, if_pos h, hy, h]
                · rw [if_neg h, if_neg h]
              rw [← e]; exact this)
            generalize relaxTo r set j D u = du at eu hdu HSET
            generalize relaxTo r set j D v = dv at ev hdv HSET
            clear hDj HX
            go_wp2
            apply wp_mid _ (fun W' => BlkI W' w.heap.size 67 (dl (relaxTo r set (j + 1) D)) ∧ BlkI W' wo.heap.size 67 (dl D) ∧ BlkI W' (w.heap.size + 1) 67 [0, 0, 0, 0] ∧ Below w.heap.size w W')
            · (focus go_region)
              all_goals exact ⟨rfl, (HSET.out _ (by split <;> omega)).same (heap_alloc_old _ _ (by simpa using lz)), hB.same ((heap_alloc_old _ _ (by simpa using hB.lt)).trans (Below.heap_setCell _ _ _ _ (fun e => by simp only at e; omega))), hZ.same ((heap_alloc_old _ _ (by simpa using hZ.lt)).trans (Below.heap_setCell _ _ _ _ (fun e => by simp only at e; omega))), below_drew' ((hbr.setCell (Nat.le_refl _) _).alloc (by simpa using hbz) _)⟩

            rintro W' ⟨hL', hB', hZ', hbr'⟩
            go_wp2
            go_roundw
            case rel => exact ⟨j + 1, by omega, by go_num, hL', hB', hZ', hbr'⟩
            case measure => simp [intOf]; omega
        · obtain rfl : j = r.leaks.length := by omega
          rw [HS1.out] at hL
          obtain ⟨e0, e1, e2, e3, ze⟩ := dl_four hL
          obtain ⟨c0, c1, c2, c3, zc⟩ := dl_four hB
          have hD' : Days (rounds (leaksOf r (bitsList set r.leaks.length)) d (k + 1)) := Days.rounds HD.out _
          have hrun := fun W : World => days_eq _ _ hD' HDk.out W
          have HBB : Hid (sameB (rounds (leaksOf r (bitsList set r.leaks.length)) d (k + 1)) D = true ↔ ∀ i, i < 4 → rounds (leaksOf r (bitsList set r.leaks.length)) d (k + 1) i = D i) := Lib.hid sameB_iff
          have hmeas := Lib.hid (show sum4 (rounds (leaksOf r (bitsList set r.leaks.length)) d (k + 1)) < sum4 D ∨ ∀ w, w < 4 → rounds (leaksOf r (bitsList set r.leaks.length)) d (k + 1) w = D w from by
            by_cases h : ∀ w, w < 4 → relaxTo r set r.leaks.length D w = D w
            · right; rw [← HS1.out]; exact h
            · left; rw [← HS1.out]; exact sum4_less set HDk.out h)
          have HME : Hid (∀ (b : Bool) (W : World), (b = true → sum4 (rounds (leaksOf r (bitsList set r.leaks.length)) d (k + 1)) < sum4 D) → BlkI W w.heap.size 67 (dl (rounds (leaksOf r (bitsList set r.leaks.length)) d (k + 1))) → sprMeas (.bool b) W w.heap.size < sprMeas (.bool true) wo w.heap.size) := Lib.hid (fun b W h hW => by
            unfold sprMeas boolOf
            simp only [if_true]
            rw [HMO.out]
            cases b
            · simp
            · rw [daySum_eq hW]
              have := h rfl
              simp
              omega)
          have HNO : Hid (sameB (rounds (leaksOf r (bitsList set r.leaks.length)) d (k + 1)) D = true → rounds (leaksOf r (bitsList set r.leaks.length)) d (k + 1) = res) := Lib.hid (fun h => by
            have h2 := sameB_iff.1 h
            have h3 : D = rounds (leaksOf r (bitsList set r.leaks.length)) d r.writers.length := HDN.out (fun w hw => by rw [HS1.out]; exact h2 w hw)
            rw [HR.out, ← h3]
            rw [← HS1.out]
            have h4 := leaksOf_src hv (bitsList set r.leaks.length)
            have h5 : relaxL (leaksOf r (bitsList set r.leaks.length)) D = D := funext fun w => by
              by_cases hw : w < 4
              · have := h2 w hw; rw [← HS1.out] at this; exact this
              · exact relax_out hv _ _ w (by omega)
            exact h5)
          clear hD' HBB
          generalize hE : rounds (leaksOf r (bitsList set r.leaks.length)) d (k + 1) = E at *
          have HEE := Lib.hid hE
          clear hE
          unfold arr4 at hrun
          cases hbb : sameB E D
          · have HNE := Lib.hid (show ¬ ∀ w, w < 4 → E w = D w from fun h => by have h2 := sameB_iff.2 h; rw [hbb] at h2; cases h2)
            rw [hbb] at hrun
            clear hbb HNO
            go_wp2
            go_roundw
            case rel => exact ⟨k + 1, true, rfl, by rw [HEE.out]; exact hL, hZ, Lib.hid (fun h => by cases h), hbr⟩
            case measure => exact HME.out true _ (fun _ => hmeas.out.resolve_right (fun h => (HNE.out h).elim)) hL
          · have HNO := Lib.hid (HNO.out hbb)
            rw [hbb] at hrun
            clear hbb hmeas
            go_wp2
            go_roundw
            case rel => exact ⟨k + 1, false, rfl, by rw [HEE.out]; exact hL, hZ, Lib.hid (fun _ => HEE.out.trans HNO.out), hbr⟩
            case measure => exact HME.out false _ (fun h => by cases h) hL
end Go.Proofs.YtcgplocmncionaaGreat
namespace Go.Proofs.YtcgplocmncionaaGreat
open Go Go.RowKit

set_option maxRecDepth 100000 in
set_option maxHeartbeats 2000000 in
theorem SSince_any (a1 a2 a3 a4 a5 : Option Addr) (k1 k2 k3 k4 k5 : Nat) (r : SeRoom) (bm bo but set s : Nat) (w : World) (hm : RoomW w bm bo a1 a2 a3 a4 a5 k1 k2 k3 k4 k5 r but) (hv : SeValid r) (hs : set < 16) (hs4 : s < r.kept.length) :
    Calls Tryz.prog 26 #[.pointer (some ⟨bm, 0, none⟩), askV set s] w fun e w' => e = .returned (arr4 (sinceP r set s)) ∧ w.grownBy w' (some bo) ∧ RoomW w' bm bo a1 a2 a3 a4 a5 k1 k2 k3 k4 k5 r but := by
  have vk := hv.nk
  have vt := hv.nt
  have l4 := hm.room.ok4.len
  obtain ⟨T, hT, hM⟩ := hm.map
  obtain ⟨kl, hkey⟩ := key_ask set s (by omega) (by omega)
  have hlo := hm.bo_lt
  have hQ1 := ((Below.refl _ w).alloc (Nat.le_refl _) (.cells #[.int .i64 (set : Int), .int .i64 (s : Int)] 70)).alloc (by simp) (.cells #[.int .i64 0, .int .i64 0, .int .i64 0, .int .i64 0] 67)
  have hA1 : ((w.alloc (.cells #[.int .i64 (set : Int), .int .i64 (s : Int)] 70)).alloc (.cells #[.int .i64 0, .int .i64 0, .int .i64 0, .int .i64 0] 67)).heap[w.heap.size]? = some (.cells #[.int .i64 (set : Int), .int .i64 (s : Int)] 70 (0, 0)) := (heap_alloc_old _ _ (by simp)).trans (alloc_at _ _ rfl)
  have hR1 : BlkI ((w.alloc (.cells #[.int .i64 (set : Int), .int .i64 (s : Int)] 70)).alloc (.cells #[.int .i64 0, .int .i64 0, .int .i64 0, .int .i64 0] 67)) (w.heap.size + 1) 67 [0, 0, 0, 0] := alloc_at _ _ (by simp)
  have hYS : ((w.alloc (.cells #[.int .i64 (set : Int), .int .i64 (s : Int)] 70)).alloc (.cells #[.int .i64 0, .int .i64 0, .int .i64 0, .int .i64 0] 67)).heap.size = w.heap.size + 1 + 1 := by simp
  by_cases hn : ∃ p ∈ T, p.1 = askV set s
  · obtain ⟨d, hd⟩ : ∃ d, d = sinceP r set s := ⟨_, rfl⟩
    rw [← hd]
    have HD := Lib.hid hd
    clear hd
    go_enter Tryz.func26, Tryz.ntmps26
    go_upto_region 1 with (fail)
    generalize hY : (w.alloc (.cells #[.int .i64 (set : Int), .int .i64 (s : Int)] 70)).alloc (.cells #[.int .i64 0, .int .i64 0, .int .i64 0, .int .i64 0] 67) = Y at *
    clear hY
    replace hYS := Lib.hid hYS
    obtain ⟨y0, y1, y2, y3, y4, y5, y6, y7, y8⟩ := (hm.below hQ1).blk.cells
    have hl1 := ((hT.below hQ1 hlo).below (below_drew' (Below.refl Y.heap.size Y)) (Nat.lt_of_lt_of_le hlo hQ1.size)).lookup_yes key_asked key_known hkey (zero_since _) hn (v := arr4 d) (fun v' h => by rw [HD.out]; exact hM.get h)
    have hl2 := ((hT.below hQ1 hlo).below (below_drew' ((Below.refl Y.heap.size Y).alloc (Nat.le_refl _) (.cells #[.int .i64 0, .int .i64 0, .int .i64 0, .int .i64 0] 67))) (Nat.lt_of_lt_of_le hlo hQ1.size)).lookup_yes key_asked key_known hkey (zero_since _) hn (v := arr4 d) (fun v' h => by rw [HD.out]; exact hM.get h)
    clear hn hT hM hkey
    unfold askV arr4 at hl1 hl2
    have x0 := blk_cell 0 hA1 rfl
    have x1 := blk_cell 1 hA1 rfl
    simp only [List.getElem_toArray, List.getElem_cons_zero, List.getElem_cons_succ] at x0 x1
    have xz := lt_of_block hA1
    have r0 := hR1.cell 0 (by simp)
    have r1 := hR1.cell 1 (by simp)
    have r2 := hR1.cell 2 (by simp)
    have r3 := hR1.cell 3 (by simp)
    have f0 := hR1.free 0
    have f1 := hR1.free 1
    have f2 := hR1.free 2
    have f3 := hR1.free 3
    simp only [List.getElem_cons_zero, List.getElem_cons_succ] at r0 r1 r2 r3
    have rz := hR1.lt
    (focus go_region)
    all_goals
      go_wp2
      (try simp only [Exit.inBlock, Exit.then])
      refine bodyPost_ret (v := arr4 d) ?_ rfl ?_
      · rw [results_one rfl]
        go_simp
      · have hzy := hQ1.size
        exact (fun hb => ⟨rfl, grown_below hb, hm.below hb⟩ : Below w.heap.size w _ → _) (by (repeat' (first | assumption | exact Below.refl _ _ | refine below_drew' ?_ | refine Below.setCell ?_ (by first | omega | (simp <;> omega)) _ | refine Below.alloc ?_ (by first | omega | (simp <;> omega)) _)))
  · have hn' : ∀ p ∈ T, p.1 ≠ askV set s := fun p hp e => hn ⟨p, hp, e⟩
    obtain ⟨d, hd⟩ : ∃ d, d = sinceP r set s := ⟨_, rfl⟩
    rw [← hd]
    have HD := Lib.hid hd
    clear hd hn
    go_enter Tryz.func26, Tryz.ntmps26
    go_upto_region 1 with (fail)
    generalize hY : (w.alloc (.cells #[.int .i64 (set : Int), .int .i64 (s : Int)] 70)).alloc (.cells #[.int .i64 0, .int .i64 0, .int .i64 0, .int .i64 0] 67) = Y at *
    clear hY
    replace hYS := Lib.hid hYS
    go_cut [5, 6] (fun u v W => ∃ q, u = .pointer (some ⟨q, 0, none⟩) ∧ v = .bool false ∧ Below Y.heap.size Y W)
    case first =>
      obtain ⟨y0, y1, y2, y3, y4, y5, y6, y7, y8⟩ := (hm.below hQ1).blk.cells
      have hl1 := ((hT.below hQ1 hlo).below (below_drew' (Below.refl Y.heap.size Y)) (Nat.lt_of_lt_of_le hlo hQ1.size)).lookup_no key_asked key_known hkey (zero_since _) hn'
      have hl2 := ((hT.below hQ1 hlo).below (below_drew' ((Below.refl Y.heap.size Y).alloc (Nat.le_refl _) (.cells #[.int .i64 0, .int .i64 0, .int .i64 0, .int .i64 0] 67))) (Nat.lt_of_lt_of_le hlo hQ1.size)).lookup_no key_asked key_known hkey (zero_since _) hn'
      unfold askV at hl1 hl2
      clear hT hM hkey hn'
      have x0 := blk_cell 0 hA1 rfl
      have x1 := blk_cell 1 hA1 rfl
      simp only [List.getElem_toArray, List.getElem_cons_zero, List.getElem_cons_succ] at x0 x1
      have xz := lt_of_block hA1
      have r0 := hR1.cell 0 (by simp)
      have r1 := hR1.cell 1 (by simp)
      have r2 := hR1.cell 2 (by simp)
      have r3 := hR1.cell 3 (by simp)
      have f0 := hR1.free 0
      have f1 := hR1.free 1
      have f2 := hR1.free 2
      have f3 := hR1.free 3
      simp only [List.getElem_cons_zero, List.getElem_cons_succ] at r0 r1 r2 r3
      have rz := hR1.lt
      (focus go_region)
      all_goals
        go_wp2
        go_meet
        case rel => exact ⟨_, rfl, rfl, (by (repeat' (first | assumption | exact Below.refl _ _ | refine below_drew' ?_ | refine Below.setCell ?_ (by first | omega | (simp <;> omega)) _ | refine Below.alloc ?_ (by first | omega | (simp <;> omega)) _)))⟩
    case rest =>
      obtain ⟨q, rfl, rfl, hb1⟩ := hcut
      rename World => V
      have hQ2 := hQ1.trans (hb1.mono hQ1.size)
      replace hA1 := (hb1.block _ (lt_of_block hA1)).trans hA1
      replace hR1 : BlkI V (w.heap.size + 1) 67 [0, 0, 0, 0] := hR1.same (hb1.block _ hR1.lt)
      have hzV : w.heap.size + 1 + 1 ≤ V.heap.size := by have := hb1.size; have := hYS.out; omega
      have hmV := hm.below hQ2
      have hTV := hT.below hQ2 hlo
      clear hb1 hQ1 hT hYS
      have HST := Lib.hid (fun k hk => startDay_succ r.letters s k hk)
      have HS0 : Hid (startDay (r.letters.take 0) s = noDay) := Lib.hid rfl
      have HDL : Hid (Days (startDay r.letters s)) := Lib.hid (startDay_days s (fun x hx => by obtain ⟨i, hi, rfl⟩ := List.getElem_of_mem hx; exact (hv.letters i hi).1))
      go_wp2_with (go_at_call 56; go_must (refine (SNobody_any _).mono ?_; rintro e w2 ⟨rfl, hb2⟩; have hm2 := hmV.below hb2; obtain ⟨y0, y1, y2, y3, y4, y5, y6, y7, y8⟩ := hm2.blk.cells; dsimp only))
      have hz2 := hb2.size
      go_loopw [28] (fun i wr => ∃ k : Nat, k ≤ r.letters.length ∧ i = .int .i64 k ∧ BlkI wr w2.heap.size 67 (dl (startDay (r.letters.take k) s)) ∧ Below V.heap.size V wr) (fun i _ => r.letters.length - (intOf i).toNat)
      case atStart => exact ⟨0, Nat.zero_le _, rfl, by rw [HS0.out]; exact alloc_at _ _ rfl, hb2.alloc hz2 _⟩
      case round =>
        obtain ⟨k, hk, rfl, hL, hbr⟩ := hrel
        have hm3 := hmV.below hbr
        have hbz := hbr.size
        have a1' := (hbr.block _ (lt_of_block hA1)).trans hA1
        have x0 := blk_cell 0 a1' rfl
        have x1 := blk_cell 1 a1' rfl
        simp only [List.getElem_toArray, List.getElem_cons_zero, List.getElem_cons_succ] at x0 x1
        have xz := lt_of_block a1'
        by_cases hlt : k < r.letters.length
        · have HX := Lib.hid (HST.out k hlt)
          have hdk : Days (startDay (r.letters.take k) s) := startDay_days s (fun x hx => by
            obtain ⟨i, hi, rfl⟩ := List.getElem_of_mem (List.mem_of_mem_take hx); exact (hv.letters i hi).1)
          have hv4 := hv.letters k hlt
          have hp8 : (2 : Int) ^ r.kept.length ≤ 8 := by
            have : r.kept.length = 0 ∨ r.kept.length = 1 ∨ r.kept.length = 2 ∨ r.kept.length = 3 := by omega
            rcases this with e | e | e | e <;> rw [e] <;> decide
          obtain ⟨b, off, rfl, hbb, h1, h2, h3⟩ := hm3.room.letters k hlt
          generalize r.letters[k] = x at HX hv4 h1 h2 h3
          obtain ⟨day, secrets, wr8⟩ := x
          simp only at hv4 h1 h2 h3
          obtain ⟨c, rfl⟩ : ∃ c : Nat, secrets = c := ⟨secrets.toNat, by omega⟩
          have hc64 : (c : Int) < 64 := by omega
          have hs64 : (s : Int) < 64 := by omega
          have hb := bit_and c (by omega) s (by omega)
          have vw := hv.nw
          have lz := hL.lt
          clear hp8
          by_cases hw : wr8 = -1
          · subst hw
            replace HX := Lib.hid (show startDay (r.letters.take (k + 1)) s = startDay (r.letters.take k) s from HX.out.trans (funext fun w => if_neg (by simp only; omega)))
            have hg : ((-1 : Int) != -1) = false := rfl
            go_wp2
            go_roundw
            case rel => exact ⟨k + 1, by omega, by go_num, by rw [HX.out]; exact hL.same (heap_alloc_old _ _ hL.lt), hbr.alloc hbz _⟩
            case measure => simp [intOf]; omega
          · obtain ⟨u, rfl⟩ : ∃ u : Nat, wr8 = u := ⟨wr8.toNat, by omega⟩
            have hg := nei_t hw
            have hu4 : u < 4 := by omega
            have hu4i : (u : Int) < 4 := by omega
            clear hw
            cases hbt : c.testBit s
            · rw [hbt] at hb
              replace HX := Lib.hid (show startDay (r.letters.take (k + 1)) s = startDay (r.letters.take k) s from HX.out.trans (funext fun w => if_neg (by unfold bitB; simp [hbt])))
              clear hbt
              go_wp2
              go_roundw
              case rel => exact ⟨k + 1, by omega, by go_num, by rw [HX.out]; exact hL.same (heap_alloc_old _ _ hL.lt), hbr.alloc hbz _⟩
              case measure => simp [intOf]; omega
            · rw [hbt] at hb
              have eu := dl_cell hL u hu4
              have fu := hL.free u
              have hdu := hdk u
              have HSET : Hid (∀ y, y = min (startDay (r.letters.take k) s u) day → BlkI (wr.setCell ⟨w2.heap.size, u, none⟩ (.int .i64 y)) w2.heap.size 67 (dl (startDay (r.letters.take (k + 1)) s))) := Lib.hid (fun y hy => by
                have := hL.set u y
                rw [dl_set _ _ _ hu4] at this
                rw [HX.out]
                have e : (fun w => if w = u then y else startDay (r.letters.take k) s w) = startOne s (startDay (r.letters.take k) s) ⟨day, c, u⟩ := by
                  funext w
                  unfold startOne
                  by_cases h : w = u
                  · rw [if_pos h, if_pos ⟨by simp [h], by unfold bitB; simpa using hbt⟩, hy, h]
                  · rw [if_neg h, if_neg (by simp only; omega)]
                rw [← e]; exact this)
              generalize startDay (r.letters.take k) s u = du at eu hdu HSET
              clear hdk HX hbt
              go_wp2
              apply wp_mid _ (fun W' => BlkI W' w2.heap.size 67 (dl (startDay (r.letters.take (k + 1)) s)) ∧ Below V.heap.size V W')
              · (focus go_region)
                all_goals exact ⟨rfl, (HSET.out _ (by first | rfl | (split <;> omega) | omega)).same (heap_alloc_old _ _ (by simpa using lz)), below_drew' ((hbr.setCell hz2 _).alloc (by simpa using hbz) _)⟩
              rintro W' ⟨hL', hbr'⟩
              go_wp2
              go_roundw
              case rel => exact ⟨k + 1, by omega, by go_num, hL', hbr'⟩
              case measure => simp [intOf]; omega
        · obtain rfl : k = r.letters.length := by omega
          rw [List.take_length] at hL
          obtain ⟨e0, e1, e2, e3, ze⟩ := dl_four hL
          have f0 := hL.free 0
          have f1 := hL.free 1
          have f2 := hL.free 2
          have f3 := hL.free 3
          have SP := SSpread_any a1 a2 a3 a4 a5 k1 k2 k3 k4 k5 r bm bo but set (startDay r.letters s) wr hm3 hv hs HDL.out
          rw [show rounds (leaksOf r (bitsList set r.leaks.length)) (startDay r.letters s) r.writers.length = d from HD.out.symm] at SP
          generalize startDay r.letters s = D at hL e0 e1 e2 e3 SP
          have SP := Lib.hid SP
          go_upto_region 12 with (go_at_call 57; go_must (refine SP.out.mono ?_; rintro e w3 ⟨rfl, hb3⟩; have g0 := cell_below hb3 e0; have g1 := cell_below hb3 e1; have g2 := cell_below hb3 e2; have g3 := cell_below hb3 e3; have gz := lt_of_cell g0; have k0 := hb3.frozen (p := ⟨w2.heap.size, 0, none⟩) ze; have k1 := hb3.frozen (p := ⟨w2.heap.size, 1, none⟩) ze; have k2 := hb3.frozen (p := ⟨w2.heap.size, 2, none⟩) ze; have k3 := hb3.frozen (p := ⟨w2.heap.size, 3, none⟩) ze; dsimp only))
          obtain ⟨Z, hZ⟩ : ∃ Z : World, Z = ((((w3.setCell ⟨w2.heap.size, 0, none⟩ (.int .i64 (d 0))).setCell ⟨w2.heap.size, 1, none⟩ (.int .i64 (d 1))).setCell ⟨w2.heap.size, 2, none⟩ (.int .i64 (d 2))).setCell ⟨w2.heap.size, 3, none⟩ (.int .i64 (d 3))) := ⟨_, rfl⟩
          rw [← hZ]
          have HbZ : Below V.heap.size V Z := by rw [hZ]; exact ((((hbr.trans (hb3.mono hbz)).setCell hz2 _).setCell hz2 _).setCell hz2 _).setCell hz2 _
          have hLZ : BlkI Z w2.heap.size 67 (dl d) := by
            rw [hZ]
            exact ((((hL.same (hb3.block _ hL.lt)).set 0 (d 0)).set 1 (d 1)).set 2 (d 2)).set 3 (d 3)
          clear hZ
          replace hA1 := (HbZ.block _ (lt_of_block hA1)).trans hA1
          replace hR1 : BlkI Z (w.heap.size + 1) 67 [0, 0, 0, 0] := hR1.same (HbZ.block _ hR1.lt)
          have hmZ := hmV.below HbZ
          have hne1 : w2.heap.size ≠ bo := hmZ.other hLZ
          have hne2 : w.heap.size + 1 ≠ bo := hmZ.other hR1
          have hTZ := hTV.below HbZ hmV.bo_lt
          clear e0 e1 e2 e3 ze f0 f1 f2 f3 g0 g1 g2 g3 gz k0 k1 k2 k3 hbz hb3 hm3 SP hL hbr x0 x1 xz a1'
          obtain ⟨y0, y1, y2, y3, y4, y5, y6, y7, y8⟩ := hmZ.blk.cells
          have x0 := blk_cell 0 hA1 rfl
          have x1 := blk_cell 1 hA1 rfl
          simp only [List.getElem_toArray, List.getElem_cons_zero, List.getElem_cons_succ] at x0 x1
          have xz := lt_of_block hA1
          obtain ⟨e0, e1, e2, e3, ze⟩ := dl_four hLZ
          have hlen := hM.len
          obtain ⟨V2, hrun, hMV2, hg2, hs2⟩ := (hTZ.same (w' := Z.drew) rfl).update key_asked key_known (by have hmx : maxLen = 9223372036854775807 := rfl; omega) hkey hn' (val := arr4 d)
          have HMM := Lib.hid (show MemoOk r (T ++ [(askV set s, arr4 d)]) by rw [HD.out]; exact hM.more set s (by omega) (by omega) hn')
          have hgz : w.grownBy V2 (some bo) := (show w.grownBy Z (some bo) from ⟨(HbZ.os).trans hQ2.os, HbZ.tape.trans hQ2.tape, HbZ.output.trans hQ2.output, Nat.le_trans hQ2.size HbZ.size, fun i hi _ => (HbZ.block i (by omega)).trans (hQ2.block i hi)⟩).andThen ⟨hg2.os, hg2.tape, hg2.output, hg2.size, hg2.block⟩ (fun j e => .inr (by simpa using e))
          have HFIN : Hid (w.grownBy ((((V2.setCell ⟨w.heap.size + 1, 0, none⟩ (.int .i64 (d 0))).setCell ⟨w.heap.size + 1, 1, none⟩ (.int .i64 (d 1))).setCell ⟨w.heap.size + 1, 2, none⟩ (.int .i64 (d 2))).setCell ⟨w.heap.size + 1, 3, none⟩ (.int .i64 (d 3))) (some bo) ∧ RoomW (((((V2.setCell ⟨w.heap.size + 1, 0, none⟩ (.int .i64 (d 0))).setCell ⟨w.heap.size + 1, 1, none⟩ (.int .i64 (d 1))).setCell ⟨w.heap.size + 1, 2, none⟩ (.int .i64 (d 2))).setCell ⟨w.heap.size + 1, 3, none⟩ (.int .i64 (d 3)))) bm bo a1 a2 a3 a4 a5 k1 k2 k3 k4 k5 r but) := Lib.hid (by
            have g := grown_set (grown_set (grown_set (grown_set hgz (w.heap.size + 1) 0 (.int .i64 (d 0)) (by omega)) (w.heap.size + 1) 1 (.int .i64 (d 1)) (by omega)) (w.heap.size + 1) 2 (.int .i64 (d 2)) (by omega)) (w.heap.size + 1) 3 (.int .i64 (d 3)) (by omega)
            exact ⟨g, hm.learn g (map_set (map_set (map_set (map_set hMV2 _ _ _ (Ne.symm hne2)) _ _ _ (Ne.symm hne2)) _ _ _ (Ne.symm hne2)) _ _ _ (Ne.symm hne2)) HMM.out⟩)
          have hL2 : BlkI V2 w2.heap.size 67 (dl d) := hLZ.same (hg2.block _ hLZ.lt (fun e => hne1 (Option.some.inj e)))
          have hR2 : BlkI V2 (w.heap.size + 1) 67 [0, 0, 0, 0] := hR1.same (hg2.block _ hR1.lt (fun e => hne2 (Option.some.inj e)))
          clear hMV2 hg2 hs2 hTZ hTV hmZ hmV hm2 hn' hkey HMM hM hgz
          unfold askV arr4 at hrun
          (focus go_region)
          all_goals
            obtain ⟨e0, e1, e2, e3, ze⟩ := dl_four hL2
            have r0 := hR2.cell 0 (by simp)
            have r1 := hR2.cell 1 (by simp)
            have r2 := hR2.cell 2 (by simp)
            have r3 := hR2.cell 3 (by simp)
            have f0 := hR2.free 0
            have f1 := hR2.free 1
            have f2 := hR2.free 2
            have f3 := hR2.free 3
            simp only [List.getElem_cons_zero, List.getElem_cons_succ] at r0 r1 r2 r3
            have rz := hR2.lt
            clear hrun
            go_wp2
            (try simp only [Exit.inBlock, Exit.then])
            refine bodyPost_ret (v := arr4 d) ?_ rfl ?_
            · rw [results_one rfl]
              go_simp
            · exact ⟨rfl, HFIN.out⟩
end Go.Proofs.YtcgplocmncionaaGreat
namespace Go.Proofs.YtcgplocmncionaaGreat
open Go Go.RowKit

theorem sure_not : ∀ a : Nat, a < 16 → ∀ b : Nat, b < 16 → (bits BinOp.andNot IntKind.i64 (a : Int) (b : Int) != 0) = !decide (a &&& (15 ^^^ b) = 0) := by decide +kernel
theorem two_pow_wrap4 : ∀ n : Nat, n ≤ 4 → wrap64 (2 ^ n) = ((2 ^ n : Nat) : Int) := by decide +kernel
theorem two_pow_le4 : ∀ n : Nat, n ≤ 4 → 2 ^ n ≤ 16 := by decide +kernel
theorem day_index (d : Nat → Int) (u : Nat) (hu : u < 4) (w : World) : (Instr.index 67 (arr4 d) (.int .i64 (u : Int))).run Tryz.prog w = .ok (.int .i64 (d u)) w := by
  obtain rfl | rfl | rfl | rfl : u = 0 ∨ u = 1 ∨ u = 2 ∨ u = 3 := by omega
  all_goals kernel_rfl
def leI (a b : Int) : Bool := decide (a ≤ b)
/-- What the iterator needs: the room, and the cell that points to it. -/
def ZIt (W : World) (bm bo rc : Nat) (a1 a2 a3 a4 a5 : Option Addr) (k1 k2 k3 k4 k5 : Nat) (r : SeRoom) (but : Nat) : Prop := RoomW W bm bo a1 a2 a3 a4 a5 k1 k2 k3 k4 k5 r but ∧ W.heap[rc]? = some (.cells #[.pointer (some ⟨bm, 0, none⟩)] 62 (0, 0))
/-- One step of it. -/
def RIt (A A' : World) (bm bo : Nat) (a1 a2 a3 a4 a5 : Option Addr) (k1 k2 k3 k4 k5 : Nat) (r : SeRoom) (but : Nat) : Prop := A.grownBy A' (some bo) ∧ RoomW A' bm bo a1 a2 a3 a4 a5 k1 k2 k3 k4 k5 r but
theorem okHeard_succ (r : SeRoom) (but set k : Nat) : okHeard r but set (k + 1) = (okHeard r but set k && (but.testBit k || heardSo r set k)) := by
  unfold okHeard; rw [List.range_succ, List.all_append]; simp
theorem okHeard_no {r : SeRoom} {but set k n : Nat} (hk : k < n) (h : but.testBit k = false) (h2 : heardSo r set k = false) : okHeard r but set n = false := by
  unfold okHeard
  rw [List.all_eq_false]
  exact ⟨k, List.mem_range.2 hk, by simp [h, h2]⟩
theorem filter_yes {p : Nat → Bool} {k : Nat} (h : p k = true) : (List.range (k + 1)).filter p = (List.range k).filter p ++ [k] := by
  rw [List.range_succ, List.filter_append]; simp [h]
theorem filter_no {p : Nat → Bool} {k : Nat} (h : p k = false) : (List.range (k + 1)).filter p = (List.range k).filter p := by
  rw [List.range_succ, List.filter_append]; simp [h]
theorem filter_pre {p : Nat → Bool} {k n : Nat} (hk : k < n) (h : p k = true) : (List.range k).filter p ++ [k] <+: (List.range n).filter p := by
  rw [← filter_yes h]
  obtain ⟨m, rfl⟩ : ∃ m, n = (k + 1) + m := ⟨n - (k + 1), by omega⟩
  rw [show List.range (k + 1 + m) = List.range (k + 1) ++ (List.range m).map (k + 1 + ·) from List.range_add, List.filter_append]
  exact List.prefix_append _ _

set_option maxRecDepth 100000 in
set_option maxHeartbeats 2000000 in
theorem STruths1_any (a1 a2 a3 a4 a5 : Option Addr) (k1 k2 k3 k4 k5 : Nat) (r : SeRoom) (bm bo rc but l : Nat) (hv : SeValid r) (hbut : but < 64) (W : World) (J Jx : List Nat → World → Prop) (hJ : ∀ s A A', J s A → RIt A A' bm bo a1 a2 a3 a4 a5 k1 k2 k3 k4 k5 r but → J s A') (hJx : ∀ s A A', Jx s A → RIt A A' bm bo a1 a2 a3 a4 a5 k1 k2 k3 k4 k5 r but → Jx s A')
    (hJZ : ∀ s A, J s A → ZIt A bm bo rc a1 a2 a3 a4 a5 k1 k2 k3 k4 k5 r but)
    (hY : ∀ (pre : List Nat) (x : Nat) (W1 : World), J pre W1 → pre ++ [x] <+: truthsP r but → YieldAt Fence.wide 0 Tryz.prog l #[.int .i64 (x : Int)] W1 fun e W' => (e = .returned (.bool true) ∧ J (pre ++ [x]) W') ∨ (e = .returned (.bool false) ∧ Jx (pre ++ [x]) W')) (hj : J [] W) :
    Calls Tryz.prog 97 #[.func (.yield l) #[] #[], .pointer (some ⟨rc, 0, none⟩)] W fun e W' => (∃ v, e = .returned v) ∧ (J (truthsP r but) W' ∨ ∃ pre, Jx pre W') := by
  have v3 := hv.nl
  have v5 := hv.nh
  have hp := two_pow_wrap4 r.leaks.length v3
  have hp16 := two_pow_le4 r.leaks.length v3
  obtain ⟨p, hpp⟩ : ∃ p, p = okSet r but := ⟨_, rfl⟩
  have HT : Hid (truthsP r but = (List.range (2 ^ r.leaks.length)).filter p) := Lib.hid (by rw [hpp]; rfl)
  have HP := Lib.hid hpp
  clear hpp
  rw [HT.out] at hY ⊢
  generalize hNN : 2 ^ r.leaks.length = N at hp hp16 hY ⊢
  have HNN := Lib.hid hNN
  clear hNN
  have hz := hJZ _ _ hj
  have l3 := hz.1.room.ok3.len
  have l5 := hz.1.room.ok5.len
  obtain ⟨y0, y1, y2, y3, y4, y5, y6, y7, y8⟩ := hz.1.blk.cells
  have x0 := blk_cell 0 hz.2 rfl
  simp only [List.getElem_toArray, List.getElem_cons_zero] at x0
  have xz := lt_of_block hz.2
  clear hz
  replace hY := Lib.hid hY
  replace hJ := Lib.hid hJ
  replace hJZ := Lib.hid hJZ
  go_enter Tryz.func97, Tryz.ntmps97
  go_wp2
  go_step3
  go_wp2
  go_step3
  go_wp2
  rw [hp]
  clear hp
  go_loopw [13] (fun i wr => ∃ k : Nat, k ≤ N ∧ i = .int .i64 k ∧ J ((List.range k).filter p) wr) (fun i _ => N - (intOf i).toNat)
  case atStart => exact ⟨0, Nat.zero_le _, rfl, hj⟩
  case round =>
    clear y0 y1 y2 y3 y4 y5 y6 y7 y8 x0 xz hj
    obtain ⟨k, hk, rfl, hj⟩ := hrel
    have hz := hJZ.out _ _ hj
    obtain ⟨y0, y1, y2, y3, y4, y5, y6, y7, y8⟩ := hz.1.blk.cells
    have x0 := blk_cell 0 hz.2 rfl
    simp only [List.getElem_toArray, List.getElem_cons_zero] at x0
    have xz := lt_of_block hz.2
    by_cases hlt : k < N
    · have hs := sure_not _ (sureTo_lt r _ v3) k (by omega)
      have HPK : Hid (p k = (sureIn r r.leaks.length k && okHeard r but k r.heard.length)) := Lib.hid (by rw [HP.out]; rfl)
      have hsi := sureIn_bits r v3 k (by omega)
      rw [← hsi] at hs
      clear hsi
      have HNO := Lib.hid (fun h : p k = false => filter_no (p := p) h)
      have HYES := Lib.hid (fun h : p k = true => filter_yes (p := p) h)
      have HPRE := Lib.hid (fun h : p k = true => filter_pre (p := p) hlt h)
      have hk16 : (k : Int) < 16 := by omega
      generalize sureIn r r.leaks.length k = si at hs HPK
      cases si
      · simp only [Bool.not_false] at hs
        replace HNO := Lib.hid (HNO.out (by rw [HPK.out]; rfl))
        go_wp2
        go_roundw
        case rel => exact ⟨k + 1, by omega, by go_num, by rw [HNO.out]; exact hj⟩
        case measure => simp [intOf]; omega
      · simp only [Bool.not_true] at hs
        obtain ⟨wo, hwo⟩ : ∃ wo : World, wo = wr := ⟨_, rfl⟩
        subst hwo
        go_wp2
        go_loopw [29] (fun i vr => ∃ j : Nat, j ≤ r.heard.length ∧ i = .int .i64 j ∧ J ((List.range k).filter p) vr ∧ Hid (okHeard r but k j = true)) (fun i _ => r.heard.length - (intOf i).toNat)
        case atStart => exact ⟨0, Nat.zero_le _, rfl, hj, Lib.hid rfl⟩
        case round =>
          clear y0 y1 y2 y3 y4 y5 y6 y7 y8 x0 xz hj hz
          obtain ⟨j, hjl, rfl, hj, HH⟩ := hrel
          have hz := hJZ.out _ _ hj
          obtain ⟨y0, y1, y2, y3, y4, y5, y6, y7, y8⟩ := hz.1.blk.cells
          have x0 := blk_cell 0 hz.2 rfl
          simp only [List.getElem_toArray, List.getElem_cons_zero] at x0
          have xz := lt_of_block hz.2
          by_cases hlj : j < r.heard.length
          · have hb := bit_and but hbut j (by omega)
            have HS := Lib.hid (okHeard_succ r but k j)
            have HNH := Lib.hid (fun h h2 => okHeard_no (r := r) (but := but) (set := k) hlj h h2)
            have hvh := hv.heard j hlj
            have HSO : Hid (heardSo r k j = (r.heard[j].knew == leI (sinceP r k r.heard[j].secret.toNat r.heard[j].writer.toNat) r.heard[j].day)) := Lib.hid (by
              unfold heardSo; rw [List.getElem?_eq_getElem hlj]; unfold soB leI; simp only; rw [dayOf_bits hv])
            obtain ⟨RM, hRM⟩ : ∃ RM : World → Prop, RM = fun V => RoomW V bm bo a1 a2 a3 a4 a5 k1 k2 k3 k4 k5 r but := ⟨_, rfl⟩
            have hRz : RM wr := by rw [hRM]; exact hz.1
            have hRb : ∀ A A', RM A → Below A.heap.size A A' → RM A' := fun A A' h hb => by rw [hRM] at h ⊢; exact h.below hb
            have hRk : ∀ A A', RM A → A.grownBy A' (some bo) → Keeps A A' := fun A A' h hg => by rw [hRM] at h; exact h.keeps hg
            have hRJ : ∀ A A', J ((List.range k).filter p) A → A.grownBy A' (some bo) → RM A' → J ((List.range k).filter p) A' := fun A A' h hg hR => hJ.out _ _ _ h ⟨hg, by rw [hRM] at hR; exact hR⟩
            have SIa := fun (s : Nat) (hs : s < r.kept.length) (V : World) (hV : RM V) => SSince_any a1 a2 a3 a4 a5 k1 k2 k3 k4 k5 r bm bo but k s V (by rw [hRM] at hV; exact hV) hv (by omega) hs
            have SI0 : ∀ (s : Nat), s < r.kept.length → ∀ V, RM V → Calls Tryz.prog 26 #[.pointer (some ⟨bm, 0, none⟩), askV k s] V fun e w' => e = .returned (arr4 (sinceP r k s)) ∧ V.grownBy w' (some bo) ∧ RM w' := fun s hs V hV => (SIa s hs V hV).mono fun e w' h => ⟨h.1, h.2.1, by rw [hRM]; exact h.2.2⟩
            replace hRb := Lib.hid hRb
            replace hRk := Lib.hid hRk
            replace hRJ := Lib.hid hRJ
            replace SI0 := Lib.hid SI0
            clear SIa hRM
            obtain ⟨b, off, rfl, hbb, h1, h2, h3, h4⟩ := hz.1.room.heard j hlj
            generalize r.heard[j] = x at HSO hvh h1 h2 h3 h4
            obtain ⟨who, sec, day, knew⟩ := x
            simp only at HSO hvh h1 h2 h3 h4
            obtain ⟨u, rfl⟩ : ∃ u : Nat, who = u := ⟨who.toNat, by omega⟩
            obtain ⟨sc, rfl⟩ : ∃ sc : Nat, sec = sc := ⟨sec.toNat, by omega⟩
            have vw := hv.nw
            have hu4 : u < 4 := by omega
            have hj64 : (j : Int) < 64 := by omega
            have hbut64 : (but : Int) < 64 := by omega
            simp only [Int.toNat_natCast] at HSO
            have HJ1 := Lib.hid (fun o => hJ.out _ _ (wr.alloc o) hj ⟨grown_below ((Below.refl _ _).alloc (Nat.le_refl _) _), hz.1.below ((Below.refl _ _).alloc (Nat.le_refl _) _)⟩)
            cases hbt : but.testBit j
            · rw [hbt] at hb HS
              replace HNH := Lib.hid (HNH.out hbt)
              clear hbt
              have hix := day_index (sinceP r k sc) u hu4
              have SI := SI0.out sc (by omega)
              clear SI0
              obtain ⟨d, hd⟩ : ∃ d, d = sinceP r k sc := ⟨_, rfl⟩
              rw [← hd] at hix SI HSO
              clear hd
              obtain ⟨du, hdu⟩ : ∃ x, x = d u := ⟨_, rfl⟩
              rw [← hdu] at hix HSO
              clear hdu
              unfold askV at SI
              have SI := Lib.hid SI
              go_upto_region 8 with (fail)
              obtain ⟨Y, hY8⟩ : ∃ Y : World, Y = wr.alloc (.cells #[.int .i64 (u : Int), .int .i64 (sc : Int), .int .i64 day, .bool knew] 58) := ⟨_, rfl⟩
              rw [← hY8]
              have HbY : Below wr.heap.size wr Y := by rw [hY8]; exact (Below.refl _ _).alloc (Nat.le_refl _) _
              have hYb : Y.heap[wr.heap.size]? = some (.cells #[.int .i64 (u : Int), .int .i64 (sc : Int), .int .i64 day, .bool knew] 58 (0, 0)) := by rw [hY8]; exact alloc_at _ _ rfl
              have HJY := Lib.hid (show J ((List.range k).filter p) Y by rw [hY8]; exact HJ1.out _)
              have hRY := hRb.out _ _ hRz HbY
              have hcY : Y.heap[rc]? = some (.cells #[.pointer (some ⟨bm, 0, none⟩)] 62 (0, 0)) := (HbY.block _ xz).trans hz.2
              clear hY8 y0 y1 y2 y3 y4 y5 y6 y7 y8 x0 HJ1 hj
              apply wp_mid _ (fun V => Y.grownBy V (some bo) ∧ RM V)
              · have KE : Hid (∀ V, Y.grownBy V (some bo) → RM V → (Y.grownBy V (some bo) ∧ RM V ∧ V.cell? ⟨rc, 0, none⟩ = some (.pointer (some ⟨bm, 0, none⟩)) ∧ V.cell? ⟨wr.heap.size, 0, none⟩ = some (.int .i64 (u : Int)) ∧ V.cell? ⟨wr.heap.size, 1, none⟩ = some (.int .i64 (sc : Int)) ∧ V.cell? ⟨wr.heap.size, 2, none⟩ = some (.int .i64 day) ∧ V.cell? ⟨wr.heap.size, 3, none⟩ = some (.bool knew) ∧ wr.heap.size < V.heap.size ∧ rc < V.heap.size)) := Lib.hid (fun V hg hR => by
                  have hk := hRk.out _ _ hRY hg
                  exact ⟨hg, hR, hk.2 _ _ (blk_cell 0 hcY rfl), hk.2 _ _ (blk_cell 0 hYb rfl), hk.2 _ _ (blk_cell 1 hYb rfl), hk.2 _ _ (blk_cell 2 hYb rfl), hk.2 _ _ (blk_cell 3 hYb rfl), Nat.lt_of_lt_of_le (lt_of_block hYb) hk.1, Nat.lt_of_lt_of_le (lt_of_block hcY) hk.1⟩)
                have hg0 : Y.grownBy Y.drew (some bo) := grown_below (below_drew' (Below.refl _ _))
                have hR0 := hRb.out _ _ hRY (below_drew' (Below.refl _ _))
                go_region_held3 (fun V => Y.grownBy V (some bo) ∧ RM V ∧ V.cell? ⟨rc, 0, none⟩ = some (.pointer (some ⟨bm, 0, none⟩)) ∧ V.cell? ⟨wr.heap.size, 0, none⟩ = some (.int .i64 (u : Int)) ∧ V.cell? ⟨wr.heap.size, 1, none⟩ = some (.int .i64 (sc : Int)) ∧ V.cell? ⟨wr.heap.size, 2, none⟩ = some (.int .i64 day) ∧ V.cell? ⟨wr.heap.size, 3, none⟩ = some (.bool knew) ∧ wr.heap.size < V.heap.size ∧ rc < V.heap.size) (first | exact KE.out _ hg0 hR0 | exact KE.out _ hg1 hR1) (first
                  | (go_at_call 26; refine (SI.out _ (by assumption)).mono ?_; rintro e w2 ⟨rfl, hgs, hR1⟩; have hg1 := grown_trans hg0 hgs; dsimp only))
                exact ⟨rfl, hg1, hR1⟩
              rintro V ⟨hgV, hRV⟩
              have hJV := hRJ.out _ _ HJY.out hgV hRV
              clear HJY hgV hRV hYb hcY HbY SI hix hz hRz
              have HSOt := Lib.hid (fun h : (knew == leI du day) = true => show okHeard r but k (j + 1) = true by rw [HS.out, HH.out, HSO.out, h]; rfl)
              have HSOf := Lib.hid (fun h : (knew == leI du day) = false => HNO.out (show p k = false by rw [HPK.out, HNH.out (by rw [HSO.out, h])]; rfl))
              clear HSO HNH
              go_wp2
              · have hne : (!knew == decide (du ≤ day)) = true := by assumption
                have HG := HSOf.out (by unfold leI; revert hne; cases knew <;> cases decide (du ≤ day) <;> simp)
                go_roundw
                case rel => exact ⟨k + 1, by omega, by go_num, by rw [HG]; exact hJV⟩
                case measure => simp [intOf]; omega
              · have hne : (!knew == decide (du ≤ day)) = false := by assumption
                have HG := HSOt.out (by unfold leI; revert hne; cases knew <;> cases decide (du ≤ day) <;> simp)
                go_roundw
                case rel => exact ⟨j + 1, by omega, by go_num, hJV, Lib.hid HG⟩
                case measure => simp [intOf]; omega
            · rw [hbt] at hb HS
              replace HS := Lib.hid (show okHeard r but k (j + 1) = true by rw [HS.out, HH.out]; rfl)
              clear hbt HNH
              go_wp2
              go_roundw
              case rel => exact ⟨j + 1, by omega, by go_num, HJ1.out _, HS⟩
              case measure => simp [intOf]; omega
          · obtain rfl : j = r.heard.length := by omega
            have hpk : p k = true := by rw [HPK.out, HH.out]; rfl
            have HY' := hY.out _ _ _ hj (HPRE.out hpk)
            rw [← HYES.out hpk] at HY'
            obtain ⟨fn, tmps, assign, body, hyr, hR⟩ := HY'
            have HR := Lib.hid hR
            clear hR
            go_upto_region 10 with (fail)
            refine (wpIn_wide (n := 0)).1 ?_
            gi_wp2
            refine ⟨rfl, HR.out.mono ?_⟩
            rintro e W2 (⟨rfl, hq⟩ | ⟨rfl, hq⟩)
            · gi_wp2
              go_wp2
              go_roundw
              case rel => exact ⟨k + 1, by omega, by go_num, hq⟩
              case measure => simp [intOf]; omega
            · gi_wp2
              go_wp2
              (try simp only [Exit.inBlock, Exit.then])
              rw [Exit.noGoto_ret]
              exact bodyPost_ret (results_none rfl _ _ _) rfl ⟨⟨_, rfl⟩, .inr ⟨_, hq⟩⟩
    · obtain rfl : k = N := by omega
      go_wp2
      (try simp only [Exit.noGoto])
      go_end0
      exact ⟨⟨_, rfl⟩, .inl hj⟩

theorem STruths_any (bm : Nat) (w : World) : Calls Tryz.prog 55 #[.pointer (some ⟨bm, 0, none⟩)] w fun e w' => e = .returned (.func (.func 97) #[] #[.pointer (some ⟨w.heap.size, 0, none⟩)]) ∧ w' = w.alloc (.cells #[.pointer (some ⟨bm, 0, none⟩)] 62) := by
  go_enter Tryz.func55, Tryz.ntmps55
  go_wp2
  go_ret
  exact ⟨rfl, rfl⟩
/-- truths, as an iterator. -/
theorem STruths_seq (a1 a2 a3 a4 a5 : Option Addr) (k1 k2 k3 k4 k5 : Nat) (r : SeRoom) (bm bo rc but : Nat) (hv : SeValid r) (hbut : but < 64) :
    SeqM Tryz.prog 97 #[.pointer (some ⟨rc, 0, none⟩)] (fun s : Nat => #[.int .i64 (s : Int)]) (fun A A' => RIt A A' bm bo a1 a2 a3 a4 a5 k1 k2 k3 k4 k5 r but) (fun A => ZIt A bm bo rc a1 a2 a3 a4 a5 k1 k2 k3 k4 k5 r but) (truthsP r but) :=
  fun l J Jx W hJ hJx hJZ _ hY hj => callsIn_wide.2 (STruths1_any a1 a2 a3 a4 a5 k1 k2 k3 k4 k5 r bm bo rc but l hv hbut W J Jx hJ hJx hJZ hY hj)
end Go.Proofs.YtcgplocmncionaaGreat
namespace Go.Proofs.YtcgplocmncionaaGreat
open Go Go.RowKit Go.Shelf
attribute [local go_sem] Oper.semAt_some

theorem or_bit16 : ∀ c : Nat, c < 16 → ∀ k : Nat, k < 4 → bits BinOp.or .i64 (c : Int) (wrap64 (2 ^ k)) = ((c ||| (1 <<< k) : Nat) : Int) := by decide +kernel
theorem sureTo_succ (r : SeRoom) (k : Nat) : sureTo r (k + 1) = if sureAt r k then sureTo r k ||| (1 <<< k) else sureTo r k := sureBits_or r k
theorem RBlk.set5 {W : World} {bm bo : Nat} {a1 a2 a3 a4 a5 : Option Addr} {k1 k2 k3 k4 k5 : Nat} {r : SeRoom} {sure but : Nat} (h : RBlk W bm bo a1 a2 a3 a4 a5 k1 k2 k3 k4 k5 r sure but) (d : Nat) : RBlk (W.setCell ⟨bm, 5, none⟩ (.int .i64 (d : Int))) bm bo a1 a2 a3 a4 a5 k1 k2 k3 k4 k5 r d but := by
  have := blk_set 5 (.int .i64 (d : Int)) h
  unfold RBlk
  rw [this]
  rfl
set_option maxRecDepth 100000 in
set_option maxHeartbeats 2000000 in
theorem SLook_any (a1 a2 a3 a4 a5 : Option Addr) (k1 k2 k3 k4 k5 : Nat) (r : SeRoom) (but : Nat) (w : World) (hm : RoomC w a1 a2 a3 a4 a5 k1 k2 k3 k4 k5 r) (hv : SeValid r) :
    Calls Tryz.prog 53 #[(.agg #[.slice a1 r.writers.length k1, .slice a2 r.kept.length k2, .slice a3 r.leaks.length k3, .slice a4 r.letters.length k4, .slice a5 r.heard.length k5]), .int .i64 (but : Int)] w fun e w' => ∃ bm bo : Nat, e = .returned (.pointer (some ⟨bm, 0, none⟩)) ∧ RoomW w' bm bo a1 a2 a3 a4 a5 k1 k2 k3 k4 k5 r but ∧ Below w.heap.size w w' ∧ w.heap.size ≤ bo := by
  have l3 := hm.ok3.len
  have v3 := hv.nl
  have hmm := @run_makeMap Tryz.prog
  have hQ0 := Below.refl (w.heap.size + 1 + 1) ((w.alloc (.cells #[.slice a1 r.writers.length k1, .slice a2 r.kept.length k2, .slice a3 r.leaks.length k3, .slice a4 r.letters.length k4, .slice a5 r.heard.length k5] 28)).alloc (.map #[] 0))
  go_enter Tryz.func53, Tryz.ntmps53
  go_wp2
  go_loopw [16] (fun i wr => ∃ k : Nat, k ≤ r.leaks.length ∧ i = .int .i64 k ∧ RBlk wr (w.heap.size + 1 + 1) (w.heap.size + 1) a1 a2 a3 a4 a5 k1 k2 k3 k4 k5 r (sureTo r k) but ∧ Below (w.heap.size + 1 + 1) ((w.alloc (.cells #[.slice a1 r.writers.length k1, .slice a2 r.kept.length k2, .slice a3 r.leaks.length k3, .slice a4 r.letters.length k4, .slice a5 r.heard.length k5] 28)).alloc (.map #[] 0)) wr) (fun i _ => r.leaks.length - (intOf i).toNat)
  case atStart => exact ⟨0, Nat.zero_le _, rfl, alloc_at _ _ (by simp), hQ0.alloc (by simp) _⟩
  case round =>
    obtain ⟨k, hk, rfl, hL, hbr⟩ := hrel
    have hbw : Below w.heap.size w wr := (((Below.refl _ w).alloc (Nat.le_refl _) _).alloc (by simp) _).trans (hbr.mono (by omega))
    have hbz := hbr.size
    simp at hbz
    by_cases hlt : k < r.leaks.length
    · have HS := Lib.hid (sureTo_succ r k)
      have hat : sureAt r k = r.leaks[k].sure := by unfold sureAt; rw [List.getElem?_eq_getElem hlt]
      rw [hat] at HS
      clear hat
      have hc := sureTo_lt r k (by omega)
      have HO := Lib.hid (or_bit16 (sureTo r k) hc k (by omega))
      have HSET := Lib.hid (hL.set5 (sureTo r k ||| (1 <<< k)))
      obtain ⟨y0, y1, y2, y3, y4, y5, y6, y7, y8⟩ := hL.cells
      have f5 := hL.free 5
      obtain ⟨b, off, ha3, hbb, h1, h2, h3⟩ := (hm.mono hbw).leaks k hlt
      generalize r.leaks[k] = x at HS h1 h2 h3
      obtain ⟨src, dst, sure⟩ := x
      simp only at h1 h2 h3 HS
      subst ha3
      have hc64 : ((sureTo r k : Nat) : Int) < 64 := by omega
      have hk64 : (k : Int) < 64 := by omega
      cases sure
      · replace HS := Lib.hid (HS.out.trans (if_neg (by simp)))
        go_wp2
        go_roundw
        case rel => exact ⟨k + 1, by omega, by go_num, by rw [HS.out]; exact hL.same (heap_alloc_old _ _ y8), hbr.alloc (by first | omega | (simp <;> omega)) _⟩
        case measure => simp [intOf]; omega
      · replace HS := Lib.hid (HS.out.trans (if_pos rfl))
        go_wp2
        apply wp_mid _ (fun V => RBlk V (w.heap.size + 1 + 1) (w.heap.size + 1) a1 a2 (some ⟨b, off, none⟩) a4 a5 k1 k2 k3 k4 k5 r (sureTo r (k + 1)) but ∧ Below (w.heap.size + 1 + 1) ((w.alloc (.cells #[.slice a1 r.writers.length k1, .slice a2 r.kept.length k2, .slice (some ⟨b, off, none⟩) r.leaks.length k3, .slice a4 r.letters.length k4, .slice a5 r.heard.length k5] 28)).alloc (.map #[] 0)) V)
        · (focus go_region)
          all_goals
            refine ⟨rfl, ?_⟩
            rw [HO.out, HS.out]
            exact ⟨HSET.out.same (heap_alloc_old _ _ (by simpa using y8)), below_drew' ((hbr.setCell (Nat.le_refl _) _).alloc (by first | omega | (simp <;> omega)) _)⟩
        rintro V ⟨hL', hbr'⟩
        go_wp2
        go_roundw
        case rel => exact ⟨k + 1, by omega, by go_num, hL', hbr'⟩
        case measure => simp [intOf]; omega
    · obtain rfl : k = r.leaks.length := by omega
      have hM0 : MapV ((w.alloc (.cells #[.slice a1 r.writers.length k1, .slice a2 r.kept.length k2, .slice a3 r.leaks.length k3, .slice a4 r.letters.length k4, .slice a5 r.heard.length k5] 28)).alloc (.map #[] 0)) Tryz.prog 70 (w.heap.size + 1) [] := by have := MapV.made (w.alloc (.cells #[.slice a1 r.writers.length k1, .slice a2 r.kept.length k2, .slice a3 r.leaks.length k3, .slice a4 r.letters.length k4, .slice a5 r.heard.length k5] 28)) Tryz.prog 70; simpa using this
      have hMr := hM0.same (hbr.block (w.heap.size + 1) (by omega))
      go_wp2
      go_ret
      exact ⟨_, _, rfl, ⟨hm.mono hbw, hL, _, hMr, memo_nil r⟩, hbw, by omega⟩
end Go.Proofs.YtcgplocmncionaaGreat
namespace Go.Proofs.YtcgplocmncionaaGreat
open Go Go.RowKit Go.Shelf
attribute [local go_sem] Oper.semAt_some

/-- From w on memory has grown, and the map has turned at most, which is in order. -/
def RoomG (w W : World) (bo : Nat) (r : SeRoom) : Prop := w.grownBy W (some bo) ∧ ∃ T, MapV W Tryz.prog 70 bo T ∧ MemoOk r T
theorem grown_belowB {w A A' : World} {row : Option Nat} {B : Nat} (h : w.grownBy A row) (hb : Below B A A') (hB : w.heap.size ≤ B) : w.grownBy A' row :=
  ⟨hb.os.trans h.os, hb.tape.trans h.tape, hb.output.trans h.output, Nat.le_trans h.size hb.size, fun i hi hr => (hb.block i (by omega)).trans (h.block i hi hr)⟩
theorem RoomG.below {w W W' : World} {bo B : Nat} {r : SeRoom} (h : RoomG w W bo r) (hb : Below B W W') (hB : w.heap.size ≤ B) (hbo : bo < B) : RoomG w W' bo r := by
  obtain ⟨hg, T, hT, hM⟩ := h
  exact ⟨grown_belowB hg hb hB, T, hT.below hb hbo, hM⟩
theorem RoomG.room {w W : World} {bm bo : Nat} {a1 a2 a3 a4 a5 : Option Addr} {k1 k2 k3 k4 k5 : Nat} {r : SeRoom} {but : Nat} (h : RoomG w W bo r) (hm : RoomW w bm bo a1 a2 a3 a4 a5 k1 k2 k3 k4 k5 r but) : RoomW W bm bo a1 a2 a3 a4 a5 k1 k2 k3 k4 k5 r but := by
  obtain ⟨hg, T, hT, hM⟩ := h
  exact hm.learn hg hT hM
theorem RoomG.step {w W W' : World} {bm bo : Nat} {a1 a2 a3 a4 a5 : Option Addr} {k1 k2 k3 k4 k5 : Nat} {r : SeRoom} {but : Nat} (h : RoomG w W bo r) (hg : W.grownBy W' (some bo)) (hR : RoomW W' bm bo a1 a2 a3 a4 a5 k1 k2 k3 k4 k5 r but) : RoomG w W' bo r := ⟨grown_trans h.1 hg, hR.map⟩
theorem RoomW.start {w : World} {bm bo : Nat} {a1 a2 a3 a4 a5 : Option Addr} {k1 k2 k3 k4 k5 : Nat} {r : SeRoom} {but : Nat} (hm : RoomW w bm bo a1 a2 a3 a4 a5 k1 k2 k3 k4 k5 r but) : RoomG w w bo r := ⟨World.grownBy.refl _ _, hm.map⟩
theorem RoomG.block {w W : World} {bo : Nat} {r : SeRoom} (h : RoomG w W bo r) {b : Nat} (hb : b < w.heap.size) (hne : b ≠ bo) : W.heap[b]? = w.heap[b]? := h.1.block b hb (fun e => hne (Option.some.inj e))
theorem RoomG.set {w W : World} {bo : Nat} {r : SeRoom} (h : RoomG w W bo r) (b j : Nat) (v : Value) (hb : w.heap.size ≤ b) (hne : bo ≠ b) : RoomG w (W.setCell ⟨b, j, none⟩ v) bo r := by
  obtain ⟨hg, T, hT, hM⟩ := h
  exact ⟨grown_set hg b j v hb, T, map_set hT b j v hne, hM⟩
theorem RoomG.put {w W : World} {bo : Nat} {r : SeRoom} (h : RoomG w W bo r) (b : Nat) (o : Obj) (hb : w.heap.size ≤ b) (hne : bo ≠ b) : RoomG w (W.putObj b o) bo r := by
  obtain ⟨hg, T, hT, hM⟩ := h
  exact ⟨⟨hg.os, hg.tape, hg.output, by simpa [World.putObj] using hg.size, fun i hi hr => (World.putObj_heap_other (by omega)).trans (hg.block i hi hr)⟩, T, hT.same (World.putObj_heap_other hne), hM⟩
theorem above_set (B : Nat) (W : World) (b j : Nat) (v : Value) (hb : b < B) : Above B W (W.setCell ⟨b, j, none⟩ v) := ⟨rfl, rfl, rfl, by simp, fun i hi _ => Below.heap_setCell _ _ _ _ (fun e => by simp only at e; omega)⟩
theorem grown_keep {A A' : World} {bo b : Nat} {o : Obj} (hg : A.grownBy A' (some bo)) (h : A.heap[b]? = some o) (hne : b ≠ bo) : A'.heap[b]? = some o :=
  (hg.block b (lt_of_block h) (fun e => hne (Option.some.inj e))).trans h

set_option maxRecDepth 100000 in
set_option maxHeartbeats 2000000 in
theorem SSome_any (a1 a2 a3 a4 a5 : Option Addr) (k1 k2 k3 k4 k5 : Nat) (r : SeRoom) (bm bo but : Nat) (w : World) (hm : RoomW w bm bo a1 a2 a3 a4 a5 k1 k2 k3 k4 k5 r but) (hv : SeValid r) (hbut : but < 64) :
    Calls Tryz.prog 54 #[.pointer (some ⟨bm, 0, none⟩)] w fun e w' => e = .returned (.bool (decide (0 < (truthsP r but).length))) ∧ w.grownBy w' (some bo) ∧ RoomW w' bm bo a1 a2 a3 a4 a5 k1 k2 k3 k4 k5 r but := by
  have TR := Lib.hid (fun W : World => STruths_any bm W)
  have hlo := hm.bo_lt
  have hSE := STruths_seq a1 a2 a3 a4 a5 k1 k2 k3 k4 k5 r bm bo (w.heap.size + 1) but hv hbut
  refine (callsIn_wide (n := 0)).1 ?_
  refine callsIn_of_wp_marks Tryz.func54 rfl trivial ?_ rfl
  simp only [Tryz.ntmps54, List.size_toArray, List.length_cons, List.length_nil, Nat.reduceAdd, Nat.reduceSub, Array.replicate_succ, Array.replicate_zero, List.push_toArray, List.append_toArray, List.nil_append, List.cons_append]
  refine (wpIn_wide (n := 0)).2 ?_
  go_wp2_with (go_at_call 55; go_must ((with_reducible refine (TR.out _).mono ?_); rintro e w3 ⟨rfl, rfl⟩; dsimp only))
  have hsz : ((w.alloc (.cells #[.bool false] 4)).alloc (.cells #[.pointer (some ⟨bm, 0, none⟩)] 62)).heap.size = w.heap.size + 1 + 1 := by simp
  have hb0 : Below w.heap.size w ((w.alloc (.cells #[.bool false] 4)).alloc (.cells #[.pointer (some ⟨bm, 0, none⟩)] 62)) := ((Below.refl _ w).alloc (Nat.le_refl _) _).alloc (by simp) _
  have hR0 : ((w.alloc (.cells #[.bool false] 4)).alloc (.cells #[.pointer (some ⟨bm, 0, none⟩)] 62)).heap[w.heap.size]? = some (.cells #[.bool false] 4 (0, 0)) := (heap_alloc_old _ _ (by simp)).trans (alloc_at _ _ rfl)
  have hC0 : ((w.alloc (.cells #[.bool false] 4)).alloc (.cells #[.pointer (some ⟨bm, 0, none⟩)] 62)).heap[w.heap.size + 1]? = some (.cells #[.pointer (some ⟨bm, 0, none⟩)] 62 (0, 0)) := alloc_at _ _ (by simp)
  refine (wpIn_wide (n := 0)).1 ?_
  refine wpIn_rangeFunc_M (gf := 97) (lb := #[.pointer (some ⟨w.heap.size + 1, 0, none⟩)]) (by go_simp) (enters_of Tryz.func97 (by kernel_rfl) rfl) hSE (fun _ => rfl)
    (fun A A' h => Above.of_grown h.1 (fun r e => by have := Option.some.inj e; omega))
    (fun pre W => pre = [] ∧ RoomG w W bo r ∧ W.heap[w.heap.size]? = some (.cells #[.bool false] 4 (0, 0)) ∧ W.heap[w.heap.size + 1]? = some (.cells #[.pointer (some ⟨bm, 0, none⟩)] 62 (0, 0)))
    (fun c pre W => c = .ret ∧ 0 < (truthsP r but).length ∧ RoomG w W bo r ∧ W.heap[w.heap.size]? = some (.cells #[.bool true] 4 (0, 0)) ∧ W.heap[w.heap.size + 1]? = some (.cells #[.pointer (some ⟨bm, 0, none⟩)] 62 (0, 0)))
    (fun s A A' h hb => ⟨h.1, h.2.1.below hb (by omega) (by omega), (hb.block _ (by omega)).trans h.2.2.1, (hb.block _ (by omega)).trans h.2.2.2⟩)
    (fun c s A A' h hb => ⟨h.1, h.2.1, h.2.2.1.below hb (by omega) (by omega), (hb.block _ (by omega)).trans h.2.2.2.1, (hb.block _ (by omega)).trans h.2.2.2.2⟩)
    (fun s A A' h hR => ⟨h.1, h.2.1.step hR.1 hR.2, grown_keep hR.1 h.2.2.1 (by omega), grown_keep hR.1 h.2.2.2 (by omega)⟩)
    (fun c s A A' h hR => ⟨h.1, h.2.1, h.2.2.1.step hR.1 hR.2, grown_keep hR.1 h.2.2.2.1 (by omega), grown_keep hR.1 h.2.2.2.2 (by omega)⟩)
    (fun s A h => ⟨h.2.1.room hm, h.2.2.2⟩) (fun c s A h => ⟨h.2.2.1.room hm, h.2.2.2.2⟩)
    ⟨rfl, hm.start.below hb0 (Nat.le_refl _) hlo, hR0, hC0⟩ ?round ?done ?stop
  case round =>
    intro l pre x W hl1 hl2 hI hpre
    have hpos : 0 < (truthsP r but).length := by obtain ⟨t, ht⟩ := hpre; rw [← ht]; simp; omega
    gi_wp2
    refine ⟨Above.refl _ _, hI, ?_⟩
    intro Wb hs2 hblk hIb
    obtain ⟨-, hG, hR, hC⟩ := hIb
    have r0 := blk_cell 0 hR rfl
    simp only [List.getElem_toArray, List.getElem_cons_zero] at r0
    have rf := blk_free 0 hR
    have rz := lt_of_block hR
    gi_wp2
    exact ⟨above_set _ _ _ _ _ (by omega), rfl, hpos, hG.set _ _ _ (Nat.le_refl _) (by omega), blk_set 0 _ hR, (Below.heap_setCell _ _ _ _ (fun e => by simp only at e; omega)).trans hC⟩
  case done =>
    intro D W hD hI hK
    obtain ⟨h0, hG, hR, hC⟩ := hI
    have r0 := blk_cell 0 hR rfl
    simp only [List.getElem_toArray, List.getElem_cons_zero] at r0
    have rf := blk_free 0 hR
    have rz := lt_of_block hR
    have H0 := Lib.hid h0
    clear h0
    have hKs : (W.setCell ⟨w.heap.size, 0, none⟩ (.bool false)).heap[D]? = some (.deferred (some [])) := (Below.heap_setCell _ _ _ _ (fun e => by simp only at e; omega)).trans hK
    have hRs := blk_set 0 (.bool false) hR
    have hGs := (hG.set w.heap.size 0 (.bool false) (Nat.le_refl _) (by omega)).put D (.deferred none) (by omega) (by omega)
    go_wp2
    refine ⟨by simp, .inl ⟨_, _, rfl, run_takeDeferred hKs, ?_⟩⟩
    have c1 : ((W.setCell ⟨w.heap.size, 0, none⟩ (.bool false)).putObj D (.deferred none)).cell? ⟨w.heap.size, 0, none⟩ = some (.bool false) := blk_cell 0 ((World.putObj_heap_other (by omega)).trans hRs) rfl
    refine ⟨.bool false, ?_, ret_bool (by rw [H0.out]; simp), hGs.1, hGs.room hm⟩
    rw [results_one rfl]
    go_simp
  case stop =>
    intro D c pre W hD hI hK
    obtain ⟨rfl, hpos, hG, hR, hC⟩ := hI
    have hGs := hG.put D (.deferred none) (by omega) (by omega)
    gi_wp2
    refine ⟨by simp, .inl ⟨_, _, rfl, run_takeDeferred hK, ?_⟩⟩
    have c1 : (W.putObj D (.deferred none)).cell? ⟨w.heap.size, 0, none⟩ = some (.bool true) := blk_cell 0 ((World.putObj_heap_other (by omega)).trans hR) rfl
    refine ⟨.bool true, ?_, ret_bool (by simp; omega), hGs.1, hGs.room hm⟩
    rw [results_one rfl]
    go_simp
end Go.Proofs.YtcgplocmncionaaGreat
