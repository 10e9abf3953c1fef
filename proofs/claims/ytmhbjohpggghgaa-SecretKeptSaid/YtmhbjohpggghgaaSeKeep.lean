/- What is proved here: the contracts of keeps and of Wrong. Conditions: the room lies in memory. -/
import Derived.Test.YtmhbjohpggghgaaSeSince
set_option linter.unusedVariables false
set_option linter.unusedSimpArgs false
namespace Go.Proofs.Ytmhbjohpggghgaa
open Go Go.RowKit Go.Shelf

def keepsD (r : SeRoom) (s : Nat) (d : Nat → Int) : Bool := (List.range r.writers.length).all fun w => !(bitB (keptAt r s) w && decide (d w ≤ 9))
def keepsDTo (r : SeRoom) (s : Nat) (d : Nat → Int) (k : Nat) : Bool := (List.range k).all fun w => !(bitB (keptAt r s) w && decide (d w ≤ 9))
theorem keepsD_no {r : SeRoom} {s k : Nat} {d : Nat → Int} (hk : k < r.writers.length) (h1 : bitB (keptAt r s) k = true) (h2 : d k ≤ 9) : keepsD r s d = false := by
  unfold keepsD
  rw [List.all_eq_false]
  exact ⟨k, List.mem_range.2 hk, by simp [h1, h2]⟩
theorem keepsDTo_succ (r : SeRoom) (s : Nat) (d : Nat → Int) (k : Nat) : keepsDTo r s d (k + 1) = (keepsDTo r s d k && !(bitB (keptAt r s) k && decide (d k ≤ 9))) := by
  unfold keepsDTo; rw [List.range_succ, List.all_append]; simp
theorem keepsIn_D (r : SeRoom) (letters : List SeLetter) (s : Nat) (t : List Int) : keepsIn r letters s t = keepsD r s (fromD r letters t s) := rfl

set_option maxRecDepth 100000 in
set_option maxHeartbeats 1000000 in
theorem SKeeps_any (a1 a2 a3 a4 a5 : Option Addr) (k1 k2 k3 k4 k5 : Nat) (r : SeRoom) (bm bo but s : Nat) (d : Nat → Int) (w : World) (hm : RoomW w bm bo a1 a2 a3 a4 a5 k1 k2 k3 k4 k5 r but) (hv : SeValid r) (hs : s < r.kept.length) :
    Calls Try.prog 102 #[.pointer (some ⟨bm, 0, none⟩), .int .i64 (s : Int), arr4 d] w fun e w' => e = .returned (.bool (keepsD r s d)) ∧ Below w.heap.size w w' := by
  have l1 := hm.room.ok1.len
  have l2 := hm.room.ok2.len
  have l2c := hm.room.ok2.1
  have vw := hv.nw
  have vk := hv.nk
  have HKA : Hid (keptAt r s = r.kept[s]) := Lib.hid (by unfold keptAt; rw [List.getElem?_eq_getElem hs]; rfl)
  have hkb := hv.kept s hs
  have HNO := Lib.hid (fun (k : Nat) hk h1 h2 => keepsD_no (r := r) (s := s) (k := k) (d := d) hk h1 h2)
  have HTO := Lib.hid (fun k => keepsDTo_succ r s d k)
  have HTE : Hid (keepsD r s d = keepsDTo r s d r.writers.length) := Lib.hid rfl
  generalize keepsD r s d = res at HNO HTE ⊢
  obtain ⟨b, off, rfl, hbb, h1⟩ := hm.room.kept s hs
  have HKC := Lib.hid (fun W (h : Below w.heap.size w W) => cell_below h h1)
  clear h1
  have hp16 : (2 : Int) ^ r.writers.length ≤ 16 := by
    have : r.writers.length = 0 ∨ r.writers.length = 1 ∨ r.writers.length = 2 ∨ r.writers.length = 3 ∨ r.writers.length = 4 := by omega
    rcases this with e | e | e | e | e <;> rw [e] <;> decide
  obtain ⟨kb, hkb2⟩ : ∃ kb : Nat, r.kept[s] = kb := ⟨r.kept[s].toNat, by omega⟩
  rw [hkb2] at HKA HKC hkb
  clear hkb2
  have hkb64 : (kb : Int) < 64 := by omega
  have hs3 : (s : Int) < 64 := by omega
  have hsl : (s : Int) < r.kept.length := by omega
  clear hp16
  obtain ⟨d0, hd0⟩ : ∃ x, x = d 0 := ⟨_, rfl⟩
  obtain ⟨d1, hd1⟩ : ∃ x, x = d 1 := ⟨_, rfl⟩
  obtain ⟨d2, hd2⟩ : ∃ x, x = d 2 := ⟨_, rfl⟩
  obtain ⟨d3, hd3⟩ : ∃ x, x = d 3 := ⟨_, rfl⟩
  have hdl : dl d = [d0, d1, d2, d3] := by rw [hd0, hd1, hd2, hd3]; rfl
  simp only [arr4, ← hd0, ← hd1, ← hd2, ← hd3]
  have HDL := Lib.hid hdl
  clear hdl hd0 hd1 hd2 hd3
  have hW0 := Below.refl (w.heap.size + 1) (w.alloc (.cells #[.int .i64 d0, .int .i64 d1, .int .i64 d2, .int .i64 d3] 110))
  obtain ⟨y0, y1, y2, y3, y4, y5, y6, y7, y8⟩ := (hm.below (box_old hW0)).blk.cells
  have hD0 : BlkI (w.alloc (.cells #[.int .i64 d0, .int .i64 d1, .int .i64 d2, .int .i64 d3] 110)) w.heap.size 110 (dl d) := by rw [HDL.out]; exact alloc_at _ _ rfl
  have hkc := HKC.out _ (box_old hW0)
  have hbz := lt_of_cell hkc
  have hzw := hD0.lt
  obtain ⟨Y, hY⟩ : ∃ Y : World, Y = w.alloc (.cells #[.int .i64 d0, .int .i64 d1, .int .i64 d2, .int .i64 d3] 110) := ⟨_, rfl⟩
  have hbY := box_old hW0
  go_enter Try.func102, Try.ntmps102
  go_upto_region 1 with (fail)
  rw [← hY]
  rw [← hY] at y0 y1 y2 y3 y4 y5 y6 y7 y8 hD0 hkc hbz hzw hbY
  clear hY hW0
  go_wp2
  go_loop [14] (fun i => ∃ k : Nat, k ≤ r.writers.length ∧ i = .int .i64 k ∧ Hid (keepsDTo r s d k = true)) (fun i => r.writers.length - (intOf i).toNat)
  case atStart => exact ⟨0, Nat.zero_le _, rfl, Lib.hid rfl⟩
  case round =>
    obtain ⟨k, hk, rfl, HK⟩ := hrel
    by_cases hlt : k < r.writers.length
    · have hb := bit_and kb (by omega) k (by omega)
      have HB : Hid (bitB (keptAt r s) k = kb.testBit k) := Lib.hid (by rw [HKA.out]; unfold bitB; simp)
      have dk := dl_cell hD0 k (by omega)
      have hk4 : (k : Int) < 4 := by omega
      have HN := Lib.hid (fun h1 h2 => HNO.out k hlt h1 h2)
      have HS := Lib.hid (HTO.out k)
      generalize d k = x at dk HN HS
      cases hbt : kb.testBit k
      · rw [hbt] at hb HB
        replace HS := Lib.hid (show keepsDTo r s d (k + 1) = true by rw [HS.out, HK.out, HB.out]; rfl)
        clear hbt
        go_wp2
        go_round
        case rel => exact ⟨k + 1, by omega, by go_num, HS⟩
        case measure => simp [intOf]; omega
      · rw [hbt] at hb HB
        clear hbt
        by_cases hx : x < 10
        · replace HN := Lib.hid (HN.out HB.out (by omega))
          go_wp2
          go_ret
          exact ⟨ret_bool HN.out.symm, hbY⟩
        · replace HS := Lib.hid (show keepsDTo r s d (k + 1) = true by rw [HS.out, HK.out, HB.out]; simp; omega)
          go_wp2
          go_round
          case rel => exact ⟨k + 1, by omega, by go_num, HS⟩
          case measure => simp [intOf]; omega
    · obtain rfl : k = r.writers.length := by omega
      go_wp2
      go_ret
      exact ⟨ret_bool (by rw [HTE.out, HK.out]), hbY⟩
end Go.Proofs.Ytmhbjohpggghgaa
