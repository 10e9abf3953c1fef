/- What is proved here: the contract of since, which remembers. Conditions: the room is looked at and valid. -/
import Derived.Test.YtmhbjohpggghgaaSeSpr
import Derived.Deep.DeepCutAuto
set_option linter.unusedVariables false
set_option linter.unusedSimpArgs false
namespace Go.Proofs.Ytmhbjohpggghgaa
open Go Go.RowKit

set_option maxRecDepth 100000 in
set_option maxHeartbeats 2000000 in
theorem SSince_any (a1 a2 a3 a4 a5 : Option Addr) (k1 k2 k3 k4 k5 : Nat) (r : SeRoom) (bm bo but set s : Nat) (w : World) (hm : RoomW w bm bo a1 a2 a3 a4 a5 k1 k2 k3 k4 k5 r but) (hv : SeValid r) (hs : set < 16) (hs4 : s < r.kept.length) :
    Calls Try.prog 80 #[.pointer (some ⟨bm, 0, none⟩), askV set s] w fun e w' => e = .returned (arr4 (sinceP r set s)) ∧ w.grownBy w' (some bo) ∧ RoomW w' bm bo a1 a2 a3 a4 a5 k1 k2 k3 k4 k5 r but := by
  have vk := hv.nk
  have vt := hv.nt
  have l4 := hm.room.ok4.len
  obtain ⟨T, hT, hM⟩ := hm.map
  obtain ⟨kl, hkey⟩ := key_ask set s (by omega) (by omega)
  have hlo := hm.bo_lt
  have hQ1 := ((Below.refl _ w).alloc (Nat.le_refl _) (.cells #[.int .i64 (set : Int), .int .i64 (s : Int)] 113)).alloc (by simp) (.cells #[.int .i64 0, .int .i64 0, .int .i64 0, .int .i64 0] 110)
  have hA1 : ((w.alloc (.cells #[.int .i64 (set : Int), .int .i64 (s : Int)] 113)).alloc (.cells #[.int .i64 0, .int .i64 0, .int .i64 0, .int .i64 0] 110)).heap[w.heap.size]? = some (.cells #[.int .i64 (set : Int), .int .i64 (s : Int)] 113 (0, 0)) := (heap_alloc_old _ _ (by simp)).trans (alloc_at _ _ rfl)
  have hR1 : BlkI ((w.alloc (.cells #[.int .i64 (set : Int), .int .i64 (s : Int)] 113)).alloc (.cells #[.int .i64 0, .int .i64 0, .int .i64 0, .int .i64 0] 110)) (w.heap.size + 1) 110 [0, 0, 0, 0] := alloc_at _ _ (by simp)
  have hYS : ((w.alloc (.cells #[.int .i64 (set : Int), .int .i64 (s : Int)] 113)).alloc (.cells #[.int .i64 0, .int .i64 0, .int .i64 0, .int .i64 0] 110)).heap.size = w.heap.size + 1 + 1 := by simp
  by_cases hn : ∃ p ∈ T, p.1 = askV set s
  · obtain ⟨d, hd⟩ : ∃ d, d = sinceP r set s := ⟨_, rfl⟩
    rw [← hd]
    have HD := Lib.hid hd
    clear hd
    go_enter Try.func80, Try.ntmps80
    go_upto_region 1 with (fail)
    generalize hY : (w.alloc (.cells #[.int .i64 (set : Int), .int .i64 (s : Int)] 113)).alloc (.cells #[.int .i64 0, .int .i64 0, .int .i64 0, .int .i64 0] 110) = Y at *
    clear hY
    replace hYS := Lib.hid hYS
    obtain ⟨y0, y1, y2, y3, y4, y5, y6, y7, y8⟩ := (hm.below hQ1).blk.cells
    have hl1 := ((hT.below hQ1 hlo).below (below_drew' (Below.refl Y.heap.size Y)) (Nat.lt_of_lt_of_le hlo hQ1.size)).lookup_yes key_asked key_known hkey (zero_since _) hn (v := arr4 d) (fun v' h => by rw [HD.out]; exact hM.get h)
    have hl2 := ((hT.below hQ1 hlo).below (below_drew' ((Below.refl Y.heap.size Y).alloc (Nat.le_refl _) (.cells #[.int .i64 0, .int .i64 0, .int .i64 0, .int .i64 0] 110))) (Nat.lt_of_lt_of_le hlo hQ1.size)).lookup_yes key_asked key_known hkey (zero_since _) hn (v := arr4 d) (fun v' h => by rw [HD.out]; exact hM.get h)
    clear hn hT hM hkey
    unfold askV arr4 at hl1 hl2
    have x0 := blk_cell 0 hA1 rfl
    have x1 := blk_cell 1 hA1 rfl
    simp only [List.getElem_toArray, List.getElem_cons_zero, List.getElem_cons_succ] at x0 x1
    have xz := lt_of_block hA1
    have r0 := hR1.cell 0 (by simp)
    have r1 := hR1.cell 1 (by simp)
    have r2 := hR1.cell 2 (by simp)
    have r3 := hR1.cell 3 (by simp)
    have f0 := hR1.free 0
    have f1 := hR1.free 1
    have f2 := hR1.free 2
    have f3 := hR1.free 3
    simp only [List.getElem_cons_zero, List.getElem_cons_succ] at r0 r1 r2 r3
    have rz := hR1.lt
    (focus go_region)
    all_goals
      go_wp2
      (try simp only [Exit.inBlock, Exit.then])
      refine bodyPost_ret (v := arr4 d) ?_ rfl ?_
      · rw [results_one rfl]
        go_simp
      · have hzy := hQ1.size
        exact (fun hb => ⟨rfl, grown_below hb, hm.below hb⟩ : Below w.heap.size w _ → _) (by (repeat' (first | assumption | exact Below.refl _ _ | refine below_drew' ?_ | refine Below.setCell ?_ (by first | omega | (simp <;> omega)) _ | refine Below.alloc ?_ (by first | omega | (simp <;> omega)) _)))
  · have hn' : ∀ p ∈ T, p.1 ≠ askV set s := fun p hp e => hn ⟨p, hp, e⟩
    obtain ⟨d, hd⟩ : ∃ d, d = sinceP r set s := ⟨_, rfl⟩
    rw [← hd]
    have HD := Lib.hid hd
    clear hd hn
    go_enter Try.func80, Try.ntmps80
    go_upto_region 1 with (fail)
    generalize hY : (w.alloc (.cells #[.int .i64 (set : Int), .int .i64 (s : Int)] 113)).alloc (.cells #[.int .i64 0, .int .i64 0, .int .i64 0, .int .i64 0] 110) = Y at *
    clear hY
    replace hYS := Lib.hid hYS
    go_cut [5, 6] (fun u v W => ∃ q, u = .pointer (some ⟨q, 0, none⟩) ∧ v = .bool false ∧ Below Y.heap.size Y W)
    case first =>
      obtain ⟨y0, y1, y2, y3, y4, y5, y6, y7, y8⟩ := (hm.below hQ1).blk.cells
      have hl1 := ((hT.below hQ1 hlo).below (below_drew' (Below.refl Y.heap.size Y)) (Nat.lt_of_lt_of_le hlo hQ1.size)).lookup_no key_asked key_known hkey (zero_since _) hn'
      have hl2 := ((hT.below hQ1 hlo).below (below_drew' ((Below.refl Y.heap.size Y).alloc (Nat.le_refl _) (.cells #[.int .i64 0, .int .i64 0, .int .i64 0, .int .i64 0] 110))) (Nat.lt_of_lt_of_le hlo hQ1.size)).lookup_no key_asked key_known hkey (zero_since _) hn'
      unfold askV at hl1 hl2
      clear hT hM hkey hn'
      have x0 := blk_cell 0 hA1 rfl
      have x1 := blk_cell 1 hA1 rfl
      simp only [List.getElem_toArray, List.getElem_cons_zero, List.getElem_cons_succ] at x0 x1
      have xz := lt_of_block hA1
      have r0 := hR1.cell 0 (by simp)
      have r1 := hR1.cell 1 (by simp)
      have r2 := hR1.cell 2 (by simp)
      have r3 := hR1.cell 3 (by simp)
      have f0 := hR1.free 0
      have f1 := hR1.free 1
      have f2 := hR1.free 2
      have f3 := hR1.free 3
      simp only [List.getElem_cons_zero, List.getElem_cons_succ] at r0 r1 r2 r3
      have rz := hR1.lt
      (focus go_region)
      all_goals
        go_wp2
        go_meet
        case rel => exact ⟨_, rfl, rfl, (by (repeat' (first | assumption | exact Below.refl _ _ | refine below_drew' ?_ | refine Below.setCell ?_ (by first | omega | (simp <;> omega)) _ | refine Below.alloc ?_ (by first | omega | (simp <;> omega)) _)))⟩
    case rest =>
      obtain ⟨q, rfl, rfl, hb1⟩ := hcut
      rename World => V
      have hQ2 := hQ1.trans (hb1.mono hQ1.size)
      replace hA1 := (hb1.block _ (lt_of_block hA1)).trans hA1
      replace hR1 : BlkI V (w.heap.size + 1) 110 [0, 0, 0, 0] := hR1.same (hb1.block _ hR1.lt)
      have hzV : w.heap.size + 1 + 1 ≤ V.heap.size := by have := hb1.size; have := hYS.out; omega
      have hmV := hm.below hQ2
      have hTV := hT.below hQ2 hlo
      clear hb1 hQ1 hT hYS
      have HST := Lib.hid (fun k hk => startDay_succ r.letters s k hk)
      have HS0 : Hid (startDay (r.letters.take 0) s = noDay) := Lib.hid rfl
      have HDL : Hid (Days (startDay r.letters s)) := Lib.hid (startDay_days s (fun x hx => by obtain ⟨i, hi, rfl⟩ := List.getElem_of_mem hx; exact (hv.letters i hi).1))
      go_wp2_with (go_at_call 114; go_must (refine (SNobody_any _).mono ?_; rintro e w2 ⟨rfl, hb2⟩; have hm2 := hmV.below hb2; obtain ⟨y0, y1, y2, y3, y4, y5, y6, y7, y8⟩ := hm2.blk.cells; dsimp only))
      have hz2 := hb2.size
      go_loopw [28] (fun i wr => ∃ k : Nat, k ≤ r.letters.length ∧ i = .int .i64 k ∧ BlkI wr w2.heap.size 110 (dl (startDay (r.letters.take k) s)) ∧ Below V.heap.size V wr) (fun i _ => r.letters.length - (intOf i).toNat)
      case atStart => exact ⟨0, Nat.zero_le _, rfl, by rw [HS0.out]; exact alloc_at _ _ rfl, hb2.alloc hz2 _⟩
      case round =>
        obtain ⟨k, hk, rfl, hL, hbr⟩ := hrel
        have hm3 := hmV.below hbr
        have hbz := hbr.size
        have a1' := (hbr.block _ (lt_of_block hA1)).trans hA1
        have x0 := blk_cell 0 a1' rfl
        have x1 := blk_cell 1 a1' rfl
        simp only [List.getElem_toArray, List.getElem_cons_zero, List.getElem_cons_succ] at x0 x1
        have xz := lt_of_block a1'
        by_cases hlt : k < r.letters.length
        · have HX := Lib.hid (HST.out k hlt)
          have hdk : Days (startDay (r.letters.take k) s) := startDay_days s (fun x hx => by
            obtain ⟨i, hi, rfl⟩ := List.getElem_of_mem (List.mem_of_mem_take hx); exact (hv.letters i hi).1)
          have hv4 := hv.letters k hlt
          have hp8 : (2 : Int) ^ r.kept.length ≤ 8 := by
            have : r.kept.length = 0 ∨ r.kept.length = 1 ∨ r.kept.length = 2 ∨ r.kept.length = 3 := by omega
            rcases this with e | e | e | e <;> rw [e] <;> decide
          obtain ⟨b, off, rfl, hbb, h1, h2, h3⟩ := hm3.room.letters k hlt
          generalize r.letters[k] = x at HX hv4 h1 h2 h3
          obtain ⟨day, secrets, wr8⟩ := x
          simp only at hv4 h1 h2 h3
          obtain ⟨c, rfl⟩ : ∃ c : Nat, secrets = c := ⟨secrets.toNat, by omega⟩
          have hc64 : (c : Int) < 64 := by omega
          have hs64 : (s : Int) < 64 := by omega
          have hb := bit_and c (by omega) s (by omega)
          have vw := hv.nw
          have lz := hL.lt
          clear hp8
          by_cases hw : wr8 = -1
          · subst hw
            replace HX := Lib.hid (show startDay (r.letters.take (k + 1)) s = startDay (r.letters.take k) s from HX.out.trans (funext fun w => if_neg (by simp only; omega)))
            have hg : ((-1 : Int) != -1) = false := rfl
            go_wp2
            go_roundw
            case rel => exact ⟨k + 1, by omega, by go_num, by rw [HX.out]; exact hL.same (heap_alloc_old _ _ hL.lt), hbr.alloc hbz _⟩
            case measure => simp [intOf]; omega
          · obtain ⟨u, rfl⟩ : ∃ u : Nat, wr8 = u := ⟨wr8.toNat, by omega⟩
            have hg := nei_t hw
            have hu4 : u < 4 := by omega
            have hu4i : (u : Int) < 4 := by omega
            clear hw
            cases hbt : c.testBit s
            · rw [hbt] at hb
              replace HX := Lib.hid (show startDay (r.letters.take (k + 1)) s = startDay (r.letters.take k) s from HX.out.trans (funext fun w => if_neg (by unfold bitB; simp [hbt])))
              clear hbt
              go_wp2
              go_roundw
              case rel => exact ⟨k + 1, by omega, by go_num, by rw [HX.out]; exact hL.same (heap_alloc_old _ _ hL.lt), hbr.alloc hbz _⟩
              case measure => simp [intOf]; omega
            · rw [hbt] at hb
              have eu := dl_cell hL u hu4
              have fu := hL.free u
              have hdu := hdk u
              have HSET : Hid (∀ y, y = min (startDay (r.letters.take k) s u) day → BlkI (wr.setCell ⟨w2.heap.size, u, none⟩ (.int .i64 y)) w2.heap.size 110 (dl (startDay (r.letters.take (k + 1)) s))) := Lib.hid (fun y hy => by
                have := hL.set u y
                rw [dl_set _ _ _ hu4] at this
                rw [HX.out]
                have e : (fun w => if w = u then y else startDay (r.letters.take k) s w) = startOne s (startDay (r.letters.take k) s) ⟨day, c, u⟩ := by
                  funext w
                  unfold startOne
                  by_cases h : w = u
                  · rw [if_pos h, if_pos ⟨by simp [h], by unfold bitB; simpa using hbt⟩, hy, h]
                  · rw [if_neg h, if_neg (by simp only; omega)]
                rw [← e]; exact this)
              generalize startDay (r.letters.take k) s u = du at eu hdu HSET
              clear hdk HX hbt
              go_wp2
              apply wp_mid _ (fun W' => BlkI W' w2.heap.size 110 (dl (startDay (r.letters.take (k + 1)) s)) ∧ Below V.heap.size V W')
              · (focus go_region)
                all_goals exact ⟨rfl, (HSET.out _ (by first | rfl | (split <;> omega) | omega)).same (heap_alloc_old _ _ (by simpa using lz)), below_drew' ((hbr.setCell hz2 _).alloc (by simpa using hbz) _)⟩
              rintro W' ⟨hL', hbr'⟩
              go_wp2
              go_roundw
              case rel => exact ⟨k + 1, by omega, by go_num, hL', hbr'⟩
              case measure => simp [intOf]; omega
        · obtain rfl : k = r.letters.length := by omega
          rw [List.take_length] at hL
          obtain ⟨e0, e1, e2, e3, ze⟩ := dl_four hL
          have f0 := hL.free 0
          have f1 := hL.free 1
          have f2 := hL.free 2
          have f3 := hL.free 3
          have SP := SSpread_any a1 a2 a3 a4 a5 k1 k2 k3 k4 k5 r bm bo but set (startDay r.letters s) wr hm3 hv hs HDL.out
          rw [show rounds (leaksOf r (bitsList set r.leaks.length)) (startDay r.letters s) r.writers.length = d from HD.out.symm] at SP
          generalize startDay r.letters s = D at hL e0 e1 e2 e3 SP
          have SP := Lib.hid SP
          go_upto_region 12 with (go_at_call 115; go_must (refine SP.out.mono ?_; rintro e w3 ⟨rfl, hb3⟩; have g0 := cell_below hb3 e0; have g1 := cell_below hb3 e1; have g2 := cell_below hb3 e2; have g3 := cell_below hb3 e3; have gz := lt_of_cell g0; have k0 := hb3.frozen (p := ⟨w2.heap.size, 0, none⟩) ze; have k1 := hb3.frozen (p := ⟨w2.heap.size, 1, none⟩) ze; have k2 := hb3.frozen (p := ⟨w2.heap.size, 2, none⟩) ze; have k3 := hb3.frozen (p := ⟨w2.heap.size, 3, none⟩) ze; dsimp only))
          obtain ⟨Z, hZ⟩ : ∃ Z : World, Z = ((((w3.setCell ⟨w2.heap.size, 0, none⟩ (.int .i64 (d 0))).setCell ⟨w2.heap.size, 1, none⟩ (.int .i64 (d 1))).setCell ⟨w2.heap.size, 2, none⟩ (.int .i64 (d 2))).setCell ⟨w2.heap.size, 3, none⟩ (.int .i64 (d 3))) := ⟨_, rfl⟩
          rw [← hZ]
          have HbZ : Below V.heap.size V Z := by rw [hZ]; exact ((((hbr.trans (hb3.mono hbz)).setCell hz2 _).setCell hz2 _).setCell hz2 _).setCell hz2 _
          have hLZ : BlkI Z w2.heap.size 110 (dl d) := by
            rw [hZ]
            exact ((((hL.same (hb3.block _ hL.lt)).set 0 (d 0)).set 1 (d 1)).set 2 (d 2)).set 3 (d 3)
          clear hZ
          replace hA1 := (HbZ.block _ (lt_of_block hA1)).trans hA1
          replace hR1 : BlkI Z (w.heap.size + 1) 110 [0, 0, 0, 0] := hR1.same (HbZ.block _ hR1.lt)
          have hmZ := hmV.below HbZ
          have hne1 : w2.heap.size ≠ bo := hmZ.other hLZ
          have hne2 : w.heap.size + 1 ≠ bo := hmZ.other hR1
          have hTZ := hTV.below HbZ hmV.bo_lt
          clear e0 e1 e2 e3 ze f0 f1 f2 f3 g0 g1 g2 g3 gz k0 k1 k2 k3 hbz hb3 hm3 SP hL hbr x0 x1 xz a1'
          obtain ⟨y0, y1, y2, y3, y4, y5, y6, y7, y8⟩ := hmZ.blk.cells
          have x0 := blk_cell 0 hA1 rfl
          have x1 := blk_cell 1 hA1 rfl
          simp only [List.getElem_toArray, List.getElem_cons_zero, List.getElem_cons_succ] at x0 x1
          have xz := lt_of_block hA1
          obtain ⟨e0, e1, e2, e3, ze⟩ := dl_four hLZ
          have hlen := hM.len
          obtain ⟨V2, hrun, hMV2, hg2, hs2⟩ := (hTZ.same (w' := Z.drew) rfl).update key_asked key_known (by have hmx : maxLen = 9223372036854775807 := rfl; omega) hkey hn' (val := arr4 d)
          have HMM := Lib.hid (show MemoOk r (T ++ [(askV set s, arr4 d)]) by rw [HD.out]; exact hM.more set s (by omega) (by omega) hn')
          have hgz : w.grownBy V2 (some bo) := (show w.grownBy Z (some bo) from ⟨(HbZ.os).trans hQ2.os, HbZ.tape.trans hQ2.tape, HbZ.output.trans hQ2.output, Nat.le_trans hQ2.size HbZ.size, fun i hi _ => (HbZ.block i (by omega)).trans (hQ2.block i hi)⟩).andThen ⟨hg2.os, hg2.tape, hg2.output, hg2.size, hg2.block⟩ (fun j e => .inr (by simpa using e))
          have HFIN : Hid (w.grownBy ((((V2.setCell ⟨w.heap.size + 1, 0, none⟩ (.int .i64 (d 0))).setCell ⟨w.heap.size + 1, 1, none⟩ (.int .i64 (d 1))).setCell ⟨w.heap.size + 1, 2, none⟩ (.int .i64 (d 2))).setCell ⟨w.heap.size + 1, 3, none⟩ (.int .i64 (d 3))) (some bo) ∧ RoomW (((((V2.setCell ⟨w.heap.size + 1, 0, none⟩ (.int .i64 (d 0))).setCell ⟨w.heap.size + 1, 1, none⟩ (.int .i64 (d 1))).setCell ⟨w.heap.size + 1, 2, none⟩ (.int .i64 (d 2))).setCell ⟨w.heap.size + 1, 3, none⟩ (.int .i64 (d 3)))) bm bo a1 a2 a3 a4 a5 k1 k2 k3 k4 k5 r but) := Lib.hid (by
            have g := grown_set (grown_set (grown_set (grown_set hgz (w.heap.size + 1) 0 (.int .i64 (d 0)) (by omega)) (w.heap.size + 1) 1 (.int .i64 (d 1)) (by omega)) (w.heap.size + 1) 2 (.int .i64 (d 2)) (by omega)) (w.heap.size + 1) 3 (.int .i64 (d 3)) (by omega)
            exact ⟨g, hm.learn g (map_set (map_set (map_set (map_set hMV2 _ _ _ (Ne.symm hne2)) _ _ _ (Ne.symm hne2)) _ _ _ (Ne.symm hne2)) _ _ _ (Ne.symm hne2)) HMM.out⟩)
          have hL2 : BlkI V2 w2.heap.size 110 (dl d) := hLZ.same (hg2.block _ hLZ.lt (fun e => hne1 (Option.some.inj e)))
          have hR2 : BlkI V2 (w.heap.size + 1) 110 [0, 0, 0, 0] := hR1.same (hg2.block _ hR1.lt (fun e => hne2 (Option.some.inj e)))
          clear hMV2 hg2 hs2 hTZ hTV hmZ hmV hm2 hn' hkey HMM hM hgz
          unfold askV arr4 at hrun
          (focus go_region)
          all_goals
            obtain ⟨e0, e1, e2, e3, ze⟩ := dl_four hL2
            have r0 := hR2.cell 0 (by simp)
            have r1 := hR2.cell 1 (by simp)
            have r2 := hR2.cell 2 (by simp)
            have r3 := hR2.cell 3 (by simp)
            have f0 := hR2.free 0
            have f1 := hR2.free 1
            have f2 := hR2.free 2
            have f3 := hR2.free 3
            simp only [List.getElem_cons_zero, List.getElem_cons_succ] at r0 r1 r2 r3
            have rz := hR2.lt
            clear hrun
            go_wp2
            (try simp only [Exit.inBlock, Exit.then])
            refine bodyPost_ret (v := arr4 d) ?_ rfl ?_
            · rw [results_one rfl]
              go_simp
            · exact ⟨rfl, HFIN.out⟩
end Go.Proofs.Ytmhbjohpggghgaa
