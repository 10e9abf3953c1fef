/- What is proved here: the contract of Wrong's closure, of Wrong. Conditions: the list lies in memory. -/
import Derived.Test.YtnlolliankhfmaaLook16
import Derived.Test.YtnlolliankhfmaaLook17
import Derived.Test.YtnlolliankhfmaaLook18
set_option linter.unusedVariables false
set_option linter.unusedSimpArgs false
namespace Go.Proofs.Ytnlolliankhfmaa
open Go Go.RowKit

set_option maxRecDepth 100000 in
set_option maxHeartbeats 800000 in
theorem MWrong1_any (ac az aw ap : Option Addr) (cc cz cw cp : Nat) (m : MoList) (bm bo p c but : Nat) (E : List Int) (T : List (List Int)) (w : World) (hm : ListC w ac az aw ap cc cz cw cp m) (hv : Valid m) (hbut : but < 64) (hl : ∀ t ∈ T, t.length = m.sums.length)
    (hp : w.cell? ⟨p, 0, none⟩ = some (.pointer (some ⟨bm, 0, none⟩))) (hL : LBlk w bm ac az aw ap cc cz cw cp m c bo E) (hM : MapV w Try.prog 96 bo (ents m T)) :
    Calls Try.prog 87 #[.int .i64 (but : Int), .pointer (some ⟨p, 0, none⟩)] w fun e w' => e = .returned (.bool (T.any fun t => rightB m t but)) ∧ Below w.heap.size w w' := by
  have vz := hv.nz
  have R := Lib.hid (fun (t : List Int) (t0 t1 t2 t3 t4 : Int) (hT : pad 5 t = [t0, t1, t2, t3, t4]) (ht : t.length = m.sums.length) (V : World) (hb : Below w.heap.size w V) => MRight_any ac az aw ap cc cz cw cp m c bm but t t0 t1 t2 t3 t4 hT ht V ((hL.look hm).mono hb) hv hbut)
  have hcm := hL.cells.2.2.2.2.2
  have hpl := lt_of_cell hp
  have hbm := hL.lt
  have HL := Lib.hid hl
  clear hl
  clear hL
  obtain ⟨r, hr⟩ : ∃ r, r = T.any fun t => rightB m t but := ⟨_, rfl⟩
  rw [← hr]
  have HR := Lib.hid hr
  clear hr
  go_enter Try.func87, Try.ntmps87
  go_wp2_with (at_range; refine wpList_range_v rfl (.tmp 8) _ rfl _ _ rfl bo _ rfl hM ?_; intro o' hrg; go_frame)
  have hW := (Below.refl _ w).alloc (Nat.le_refl _) o'
  have hrw : w.heap.size < (w.alloc o').heap.size := by simp
  generalize (w.alloc o') = W at hrg hW hrw
  go_loopw [10] (fun _ wr => ∃ (pre rem : List (List Int)), Hid (∀ t ∈ pre, rightB m t but = false) ∧ (pre ++ rem).Perm T ∧ RngV wr Try.prog 96 bo w.heap.size (ents m T) (rem.map fun t => (five (pad 5 t), four m t)) ∧ Below w.heap.size w wr) (fun _ wr => wr.rangeLeft bo w.heap.size)
  case atStart => exact ⟨[], T, Lib.hid (by simp), by simp, hrg, hW⟩
  case round =>
    obtain ⟨pre, rem, hpre, hperm, hrg1, hB⟩ := hrel
    have hz := hB.size
    go_wp2_with (at_next; refine wpList_next_v rfl (.tmp 9) rfl _ (fun t => five (pad 5 t)) (fun t => four m t) bo w.heap.size _ rem rfl hrg1 ?_ ?_)
    · intro h0
      subst h0
      rw [List.append_nil] at hperm
      have hE : Hid (r = false) := Lib.hid (by
        rw [HR.out, List.any_eq_false]
        intro t ht
        rw [hpre.out t (hperm.mem_iff.2 ht)]
        simp)
      clear hperm
      go_wp2
      go_ret
      exact ⟨ret_bool hE.out.symm, hB⟩
    · intro x rem' w3 hp3 hrg3 hg3 hs3 hen
      have hperm3 := (List.Perm.append_left pre hp3).symm.trans hperm
      have hxT : x ∈ T := hperm3.mem_iff.1 (by simp)
      have hxl := HL.out x hxT
      have hB3 : Below w.heap.size w w3 := hB.grown hg3 hz (fun k e => by have := Option.some.inj e; omega)
      have hz3 := hB3.size
      have hP4 := Lib.hid (show ((pre ++ [x]) ++ rem').Perm T from by simpa using hperm3)
      have hLR := Lib.hid (show rem.length = rem'.length + 1 from by simpa using hp3.length_eq)
      have hml := Lib.hid hrg1.left_eq
      have hpx := pad_len 5 x (by omega)
      obtain ⟨x0, x1, x2, x3, x4, hx5⟩ : ∃ x0 x1 x2 x3 x4 : Int, pad 5 x = [x0, x1, x2, x3, x4] := ⟨_, _, _, _, _, five_of hpx⟩
      have hxf : five (pad 5 x) = .agg #[.int .i64 x0, .int .i64 x1, .int .i64 x2, .int .i64 x3, .int .i64 x4] := by rw [hx5]; rfl
      rw [hxf] at hen ⊢
      have RX := Lib.hid (fun V h => R.out x x0 x1 x2 x3 x4 hx5 hxl V h)
      have hAny : Hid (rightB m x but = true → r = true) := Lib.hid (fun h => by rw [HR.out, List.any_eq_true]; exact ⟨x, hxT, h⟩)
      have hp4 := cell_below hB3 hp
      have hpl4 := lt_of_cell hp4
      have hB4 := hB3.alloc hz3 (.cells #[.int .i64 x0, .int .i64 x1, .int .i64 x2, .int .i64 x3, .int .i64 x4] 96)
      have hrg4 := hrg3.same (Below.heap_alloc w3 (.cells #[.int .i64 x0, .int .i64 x1, .int .i64 x2, .int .i64 x3, .int .i64 x4] 96) _ hrg3.map.lt) (Below.heap_alloc w3 (.cells #[.int .i64 x0, .int .i64 x1, .int .i64 x2, .int .i64 x3, .int .i64 x4] 96) _ hrg3.lt)
      clear hperm hperm3 hp3 hxT hxl hrg1 hpx hx5 hxf hrg3 hs3
      obtain ⟨b, hb⟩ : ∃ b, rightB m x but = b := ⟨_, rfl⟩
      rw [hb] at RX hAny
      have HB := Lib.hid hb
      clear hb
      cases b
      · go_wp2_with (first
          | (refine wpList_entry_v rfl (.tmp 9) rfl _ w.heap.size rfl hen ?_; go_frame)
          | (go_at_call 88; go_must (refine (RX.out _ hB4).mono ?_; rintro e w5 ⟨rfl, hb5⟩; dsimp only)))
        have hz4 := hB4.size
        have hrg5 := hrg4.below hb5 hrg4.map.lt hrg4.lt
        go_roundw
        case rel => exact ⟨pre ++ [x], rem', Lib.hid (fun t ht => by rcases List.mem_append.1 ht with h | h; exact hpre.out t h; simp at h; subst h; exact HB.out), hP4.out, hrg5, hB4.trans (hb5.mono hz4)⟩
        case measure =>
          rw [hrg5.left_eq, hml.out]
          have := hLR.out
          simp
          omega
      · go_wp2_with (first
          | (refine wpList_entry_v rfl (.tmp 9) rfl _ w.heap.size rfl hen ?_; go_frame)
          | (go_at_call 88; go_must (refine (RX.out _ hB4).mono ?_; rintro e w5 ⟨rfl, hb5⟩; dsimp only)))
        have hz4 := hB4.size
        go_ret
        exact ⟨ret_bool (hAny.out trivial).symm, hB4.trans (hb5.mono hz4)⟩

theorem wrong_hid (m : MoList) : wholeErr m ≠ 0 → wrongOf m = ([], wholeErr m) := fun h => if_neg h
theorem wrong_zero (m : MoList) (h : wholeErr m = 0) : (wrongOf m).2 = 0 := by unfold wrongOf; rw [if_pos h]
theorem enters87 (xs : Array Value) (W : World) : (callFunc 87 xs).run Try.prog W = .ok (.enter 87 xs) W := by kernel_rfl

set_option maxRecDepth 100000 in
set_option maxHeartbeats 800000 in
theorem MWrong_any (ac az aw ap : Option Addr) (cc cz cw cp : Nat) (m : MoList) (w : World) (hm : ListC w ac az aw ap cc cz cw cp m) :
    Calls Try.prog 30 #[(.agg #[.slice ac m.claimants.length cc, .slice az m.sums.length cz, .slice aw m.words.length cw, .slice ap m.paid.length cp])] w fun e w' => ∃ v, e = .returned (.tuple #[v, .int .i64 (wrongOf m).2]) ∧ IntsV w' v (wrongOf m).1 ∧ Below w.heap.size w w' := by
  have HV := Lib.hid (fun h : wholeErr m = 0 => whole_valid h)
  have HZ := Lib.hid (wrong_zero m)
  have HE := Lib.hid (wrong_hid m)
  have HF := Lib.hid (fun (h : wholeErr m = 0) (best : List Int) (found : Bool) (hf : Found m.paid.length (fun s => (truths m).any fun t => rightB m t s) (2 ^ m.paid.length) best found) => (wrong_found h hf : best = (wrongOf m).1))
  have hQ := Below.refl (w.heap.size + 1) (w.alloc (.cells #[.slice ac m.claimants.length cc, .slice az m.sums.length cz, .slice aw m.words.length cw, .slice ap m.paid.length cp] 27))
  obtain ⟨c0, c1, c2, c3⟩ := box_four hQ
  have hbz := box_size hQ
  have C := MEnter2_any ac az aw ap cc cz cw cp m 0 none [] 0 (w.alloc (.cells #[.slice ac m.claimants.length cc, .slice az m.sums.length cz, .slice aw m.words.length cw, .slice ap m.paid.length cp] 27)) (hm.mono (box_old hQ)) (by decide) (by decide) (by decide) (IntsC.nil _ _)
  rw [enter_whole] at C
  have HN := Lib.hid (look_none m)
  replace C := Lib.hid C
  generalize wrongOf m = r at HE HZ HF ⊢
  generalize wholeErr m = er at C HE HV HZ HF
  by_cases he : er = 0
  · have g1 := nei_f he
    obtain ⟨hv, hpos⟩ := HV.out he
    replace HF := Lib.hid (HF.out he)
    have hr2 := Lib.hid (HZ.out he)
    have HX := Lib.hid he
    have hp5 := hv.np
    have hpl : (m.paid.length : Int) ≤ 5 := by omega
    clear he
    have F := Lib.hid (fun (bm bo p : Nat) (E : List Int) (V : World) (hb : Below w.heap.size w V) (hp : V.cell? ⟨p, 0, none⟩ = some (.pointer (some ⟨bm, 0, none⟩))) (hL : LBlk V bm ac az aw ap cc cz cw cp m (lookBits m 0) bo E) (hM : MapV V Try.prog 96 bo (ents m (truths m))) =>
      MFewest_any m.paid.length 87 (by omega) #[.pointer (some ⟨p, 0, none⟩)] (fun s => (truths m).any fun t => rightB m t s) V enters87 (fun s W hs hW => by
        have h64 := two_pow_le m.paid.length (by omega)
        exact MWrong1_any ac az aw ap cc cz cw cp m bm bo p (lookBits m 0) s E (truths m) W (hm.mono (hb.trans (hW.mono hb.size))) hv (by omega) (truths_len m) (cell_below hW hp) (hL.same (hW.block _ hL.lt)) (hM.below hW hM.lt)))
    go_enter Try.func30, Try.ntmps30
    go_wp2_with (first
      | (go_at_call 83; go_must (refine (F.out bm bo _ _ _ (box_old hQ3) hpc hL3 hM3).mono ?_; rintro e w4 ⟨v4, best, found, rfl, hv4, hf4, hb4⟩; dsimp only))
      | (go_at_call 74; go_must (refine C.out.mono ?_; rintro e w2 ⟨v2, rfl, h2, hb2, _⟩; obtain ⟨bm, bo, rfl, hLW⟩ := h2 HX.out; have hL := hLW.blk; have hM := hLW.map; rw [HN.out] at hL hM; have hQ2 := box_on hQ hb2; have hz2 := hQ2.size; have hz2 : w.heap.size + 1 ≤ w2.heap.size := by { simpa using hz2 }; have hQ3 := hQ2.alloc hz2 (.cells #[.pointer (some ⟨bm, 0, none⟩)] 92); have hL3 := hL.same (heap_alloc_old _ (.cells #[.pointer (some ⟨bm, 0, none⟩)] 92) hL.lt); have hM3 := hM.same (heap_alloc_old _ (.cells #[.pointer (some ⟨bm, 0, none⟩)] 92) hM.lt); have hpc := box_cell (Below.refl _ (w2.alloc (.cells #[.pointer (some ⟨bm, 0, none⟩)] 92))) 0 _ rfl; obtain ⟨d0, d1, d2, d3⟩ := box_four hQ2; have hbz2 := box_size hQ2; dsimp only)))
    have hQ4 := box_on hQ3 hb4
    go_ret2
    exact ⟨v4, by rw [hr2.out]; rfl, by rw [← HF.out best found hf4.out]; exact hv4, box_old hQ4⟩
  · have g1 := nei_t he
    have HE := Lib.hid (HE.out he)
    have HX := Lib.hid he
    clear he
    go_enter Try.func30, Try.ntmps30
    go_wp2_with (go_at_call 74; go_must (refine C.out.mono ?_; rintro e w2 ⟨v2, rfl, h2, hb2, h3⟩; obtain rfl := h3 HX.out; have hQ2 := box_on hQ hb2; have hz2 := hQ2.size; dsimp only))
    go_ret2
    rw [HE.out]
    exact ⟨_, rfl, ⟨none, 0, rfl, ⟨by simp, by omega, fun _ => rfl⟩, IntsC.nil _ _⟩, box_old (hQ2.alloc (by simpa using hz2) _)⟩
end Go.Proofs.Ytnlolliankhfmaa
