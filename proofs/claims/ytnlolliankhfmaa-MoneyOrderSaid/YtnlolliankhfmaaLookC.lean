/- What is proved here: contracts of numbers, sure, held. Conditions: sets below 64. -/
/- What is proved here: the contract of money.Held. Conditions: the list lies in memory. -/
import Derived.Test.YtnlolliankhfmaaLook9
import Derived.Test.YtnlolliankhfmaaGround
import Derived.Test.YtnlolliankhfmaaPlain
set_option linter.unusedVariables false
set_option linter.unusedSimpArgs false
namespace Go.Proofs.Ytnlolliankhfmaa
open Go Go.RowKit

set_option maxHeartbeats 2000000 in
theorem MNumbers_any (s n : Nat) (hs : s < 64) (hn : n ≤ 6) (w : World) :
    Calls Try.prog 77 #[.int .i64 (s : Int), .int .i64 (n : Int)] w fun e w' => ∃ v, e = .returned v ∧ IntsV w' v (bitsList s n) ∧ Below w.heap.size w w' := by
  obtain ⟨p, hp⟩ : ∃ p : Nat → Bool, p = fun i => s.testBit i := ⟨_, rfl⟩
  have hW : Hid (bitsList s n = ((List.range n).filter p).map (fun (c : Nat) => (c : Int))) := by rw [hp]; exact (rfl : bitsList s n = _)
  generalize bitsList s n = r at hW ⊢
  have HP := Lib.hid hp
  clear hp
  go_enter Try.func77, Try.ntmps77
  go_wp2
  go_loopw [4, 7] (fun o i wr => ∃ (c : Nat), c ≤ n ∧ i = .int .i64 c ∧ wr.ownsRow w.heap.size 3 1 o (((List.range c).filter p).map (fun (c : Nat) => (c : Int))).length ((((List.range c).filter p).map (fun (c : Nat) => (c : Int))).map (Value.int .i64)) ∧ Below w.heap.size w wr) (fun _ i _ => n - (intOf i).toNat)
  case atStart => exact ⟨0, Nat.zero_le _, rfl, World.ownsRow_nil _ _ _ _, Below.refl _ _⟩
  case round =>
    obtain ⟨c, hc, rfl, hown, hB⟩ := hrel
    have hB1 := hB.size
    by_cases hlt : c < n
    · have hst := Lib.hid (keep_succ p c)
      have hkl := keep_len p c
      generalize hL : ((List.range c).filter p).map (fun (c : Nat) => (c : Int)) = L at hown hst hkl
      clear hL
      have hb := bit_and s hs c (by omega)
      have hpc : p c = s.testBit c := by rw [HP.out]
      rw [← hpc] at hb
      clear hpc
      generalize p c = bp at hst hb
      have hc64 : (c : Int) < 64 := by omega
      cases bp
      · go_wp2
        go_roundw
        case rel => exact ⟨c + 1, by omega, by go_num, by rw [hst.out]; simpa using hown, hB⟩
        case measure => simp [intOf]; omega
      · go_wp2_with (at_builtin; go_must (refine wpList_app (.tmp 15) (.tmp 17) E_int rfl rfl rfl rfl w.heap.size L.length 1 (L.map (Value.int .i64)) [.int .i64 (c : Int)] (hown.alloc _) (SrcAt.one _ _ _ rfl) (by omega) (by decide) (by simp; omega) ?_; intro v2 w2 ho2 hg2 _; (have hb2 := app_next hB (Nat.le_refl _) (Nat.le_refl _) hown hg2); clear hg2; simp only [Act.put, List.setIfInBounds_toArray, List.set_cons_succ, List.set_cons_zero]))
        go_roundw
        case rel => exact ⟨c + 1, by omega, by go_num, by rw [hst.out]; simpa using ho2, hb2⟩
        case measure => simp [intOf]; omega
    · obtain rfl : c = n := by omega
      go_wp2
      go_ret
      rw [hW.out]
      exact ⟨_, rfl, ints_ownV hown, hB⟩

theorem one_bits : ∀ s : Nat, s < 16 → (bits BinOp.and .i64 (s : Int) ((s : Int) - 1) == 0) = oneB s := by decide +kernel

set_option maxRecDepth 100000 in
set_option maxHeartbeats 2000000 in
theorem MSure_any (ac az aw ap : Option Addr) (cc cz cw cp : Nat) (m : MoList) (bm bo c i : Nat) (E : List Int) (s : Nat) (hs : s < 16) (hE : E[i]? = some (s : Int)) (hE5 : E.length = 5) (w : World) (hL : LBlk w bm ac az aw ap cc cz cw cp m c bo E) :
    Calls Try.prog 80 #[.pointer (some ⟨bm, 0, none⟩), .int .i64 (i : Int)] w fun e w' => e = .returned (.bool (oneB s)) ∧ ∃ q, w' = w.drewN q := by
  have hi5 : i < 5 := by
    obtain ⟨h, _⟩ := List.getElem?_eq_some_iff.1 hE
    omega
  have hi5i : (i : Int) < 5 := by omega
  have hce := hL.cell6 i hE
  have hb := hL.lt
  have HO := Lib.hid (one_bits s hs)
  go_enter Try.func80, Try.ntmps80
  go_wp2
  go_quiet (fail)
  go_wp2
  go_ret
  exact ⟨ret_bool HO.out, _, rfl⟩

theorem own_drewN {w : World} {base : Nat} {e : TypeId} {size n : Nat} {v : Value} {xs : List Value} (h : w.ownsRow base e size v n xs) (q : Nat) : (w.drewN q).ownsRow base e size v n xs :=
  own_below h (below_draws _ w q)

set_option maxRecDepth 100000 in
set_option maxHeartbeats 4000000 in
theorem MHeld_any (ac az aw ap : Option Addr) (cc cz cw cp : Nat) (m : MoList) (bm bo c : Nat) (T : List (List Int)) (h16 : ∀ i, evBit T i < 16) (hz5 : m.sums.length ≤ 5) (w : World) (hL : LBlk w bm ac az aw ap cc cz cw cp m c bo (everyL m T)) :
    Calls Try.prog 81 #[.pointer (some ⟨bm, 0, none⟩)] w fun e w' => ∃ v, e = .returned v ∧ IntsV w' v (((List.range m.sums.length).filter fun i => !oneB (evBit T i)).map fun (i : Nat) => (i : Int)) ∧ Below w.heap.size w w' := by
  obtain ⟨p, hp⟩ : ∃ p : Nat → Bool, p = fun i => !oneB (evBit T i) := ⟨_, rfl⟩
  have hW : Hid ((((List.range m.sums.length).filter fun i => !oneB (evBit T i)).map fun (i : Nat) => (i : Int)) = ((List.range m.sums.length).filter p).map (fun (c : Nat) => (c : Int))) := by rw [hp]; exact rfl
  generalize (((List.range m.sums.length).filter fun i => !oneB (evBit T i)).map fun (i : Nat) => (i : Int)) = r at hW ⊢
  have HP := Lib.hid hp
  clear hp
  have c1 := hL.cells.2.1
  have hbm := hL.lt
  go_enter Try.func81, Try.ntmps81
  go_wp2
  go_loopw [2, 10] (fun o i wr => ∃ (j : Nat), j ≤ m.sums.length ∧ i = .int .i64 j ∧ wr.ownsRow w.heap.size 3 1 o (((List.range j).filter p).map (fun (c : Nat) => (c : Int))).length ((((List.range j).filter p).map (fun (c : Nat) => (c : Int))).map (Value.int .i64)) ∧ Below w.heap.size w wr) (fun _ i _ => m.sums.length - (intOf i).toNat)
  case atStart => exact ⟨0, Nat.zero_le _, rfl, World.ownsRow_nil _ _ _ _, Below.refl _ _⟩
  case round =>
    obtain ⟨j, hj, rfl, hown, hB⟩ := hrel
    have hB1 := hB.size
    by_cases hlt : j < m.sums.length
    · have hst := Lib.hid (keep_succ p j)
      have hkl := keep_len p j
      generalize hLL : ((List.range j).filter p).map (fun (c : Nat) => (c : Int)) = L at hown hst hkl
      clear hLL
      have S := MSure_any ac az aw ap cc cz cw cp m bm bo c j (everyL m T) (evBit T j) (h16 j) (by unfold everyL; rw [List.getElem?_map, List.getElem?_range (by omega)]; simp [everyAt, hlt]) (everyL_len m T) wr (hL.same (hB.block _ hbm))
      have hpc : oneB (evBit T j) = !p j := by rw [HP.out]; simp
      rw [hpc] at S
      clear hpc
      generalize p j = bp at hst S
      have S := Lib.hid S
      cases bp
      · go_wp2_with (go_at_call 80; go_must (refine S.out.mono ?_; rintro e w2 ⟨rfl, q, rfl⟩; dsimp only))
        go_roundw
        case rel => exact ⟨j + 1, by omega, by go_num, by rw [hst.out]; simpa using own_drewN hown q, below_drewN' hB q⟩
        case measure => simp [intOf]; omega
      · go_wp2_with (first
          | (at_builtin; go_must (refine wpList_app (.tmp 17) (.tmp 19) E_int rfl rfl rfl rfl w.heap.size L.length 1 (L.map (Value.int .i64)) [.int .i64 (j : Int)] ((own_drewN hown q).alloc _) (SrcAt.one _ _ _ rfl) (by omega) (by decide) (by simp; omega) ?_; intro v2 w2 ho2 hg2 _; (have hb2 := app_next (below_drewN' hB q) (Nat.le_refl _) (Nat.le_refl _) (own_drewN hown q) hg2); clear hg2; simp only [Act.put, List.setIfInBounds_toArray, List.set_cons_succ, List.set_cons_zero]))
          | (go_at_call 80; go_must (refine S.out.mono ?_; rintro e w2 ⟨rfl, q, rfl⟩; dsimp only)))
        go_roundw
        case rel => exact ⟨j + 1, by omega, by go_num, by rw [hst.out]; simpa using ho2, hb2⟩
        case measure => simp [intOf]; omega
    · obtain rfl : j = m.sums.length := by omega
      go_wp2
      go_ret
      rw [hW.out]
      exact ⟨_, rfl, ints_ownV hown, hB⟩
end Go.Proofs.Ytnlolliankhfmaa
namespace Go.Proofs.Ytnlolliankhfmaa
open Go Go.RowKit

theorem held_hid (m : MoList) : heldOf m = if wholeErr m = 0 then (unsure m (truths m), 0) else ([], wholeErr m) := rfl

set_option maxRecDepth 100000 in
set_option maxHeartbeats 4000000 in
theorem MHeld2_any (ac az aw ap : Option Addr) (cc cz cw cp : Nat) (m : MoList) (w : World) (hm : ListC w ac az aw ap cc cz cw cp m) :
    Calls Try.prog 26 #[(.agg #[.slice ac m.claimants.length cc, .slice az m.sums.length cz, .slice aw m.words.length cw, .slice ap m.paid.length cp])] w fun e w' => ∃ v, e = .returned (.tuple #[v, .int .i64 (heldOf m).2]) ∧ IntsV w' v (heldOf m).1 ∧ Below w.heap.size w w' := by
  have HE := Lib.hid (held_hid m)
  have HV := Lib.hid (fun h : wholeErr m = 0 => whole_valid h)
  have hQ := Below.refl (w.heap.size + 1) (w.alloc (.cells #[.slice ac m.claimants.length cc, .slice az m.sums.length cz, .slice aw m.words.length cw, .slice ap m.paid.length cp] 27))
  obtain ⟨c0, c1, c2, c3⟩ := box_four hQ
  have hbz := box_size hQ
  have C := MEnter_any ac az aw ap cc cz cw cp m 0 none [] 0 (w.alloc (.cells #[.slice ac m.claimants.length cc, .slice az m.sums.length cz, .slice aw m.words.length cw, .slice ap m.paid.length cp] 27)) (hm.mono (box_old hQ)) (by decide) (by decide) (by decide) (IntsC.nil _ _)
  rw [enter_whole] at C
  have H := fun (h : Valid m) (bm bo c : Nat) (W : World) (hL : LBlk W bm ac az aw ap cc cz cw cp m c bo (everyL m (truths m))) => MHeld_any ac az aw ap cc cz cw cp m bm bo c (truths m) (truth_ev16 m h.nc) h.nz W hL
  have H := Lib.hid H
  have HU := Lib.hid (fun h : Valid m => truth_unsure m h.nc)
  have HN := Lib.hid (look_none m)
  have C := Lib.hid C
  generalize heldOf m = r at HE ⊢
  generalize wholeErr m = er at C HE HV
  by_cases he : er = 0
  · have g1 := nei_f he
    have HE := Lib.hid (HE.out.trans (if_pos he))
    have hv := (HV.out he).1
    have HX := Lib.hid he
    clear he
    go_enter Try.func26, Try.ntmps26
    go_wp2_with (first
      | (go_at_call 81; go_must (refine (H.out hv bm bo _ _ hL).mono ?_; rintro e w3 ⟨v3, rfl, hv3, hb3⟩; have hQ3 := box_on hQ2 hb3; dsimp only))
      | (go_at_call 74; go_must (refine C.out.mono ?_; rintro e w2 ⟨v2, rfl, h2, hb2⟩; obtain ⟨bm, bo, rfl, hLW⟩ := h2 HX.out; have hL := hLW.blk; rw [HN.out] at hL; have hQ2 := box_on hQ hb2; dsimp only)))
    go_ret2
    rw [HE.out]
    refine ⟨_, rfl, ?_, box_old hQ3⟩
    dsimp only
    rw [HU.out hv]
    exact hv3
  · have g1 := nei_t he
    have HE := Lib.hid (HE.out.trans (if_neg he))
    clear he
    go_enter Try.func26, Try.ntmps26
    go_wp2_with (go_at_call 74; go_must (refine C.out.mono ?_; rintro e w2 ⟨v2, rfl, h2, hb2⟩; have hQ2 := box_on hQ hb2; dsimp only))
    go_ret2
    rw [HE.out]
    exact ⟨_, rfl, ⟨none, 0, rfl, ⟨by simp, by omega, fun _ => rfl⟩, IntsC.nil _ _⟩, box_old hQ2⟩
end Go.Proofs.Ytnlolliankhfmaa
