/- What is proved here: the contract of money.For. Conditions: the list lies in memory. -/
/- What is proved here: the contract of money.Pay. Conditions: the list lies in memory. -/
/- What is proved here: contracts of cmp.Compare and slices.Compare at ints; what of the world they turn: nothing. Conditions: both slices of one length. -/
import Derived.Test.YtnlolliankhfmaaLookC
set_option linter.unusedVariables false
set_option linter.unusedSimpArgs false
namespace Go.Proofs.Ytnlolliankhfmaa
open Go Go.RowKit

theorem for_hid (m : MoList) (sum : Int) : forOf m sum = if forErr m sum = 0 then (whom m.claimants.length (truths m) sum.toNat, 0) else ([], forErr m sum) := rfl
theorem for_err (m : MoList) (sum : Int) : enterErr m m.sums.length [sum] = forErr m sum := enter_one m sum _
theorem one_ints (W : World) (x : Int) (t : TypeId) : IntsC (W.alloc (.cells #[.int .i64 x] t)) (some ⟨W.heap.size, 0, none⟩) [x] := by
  intro i hi
  simp at hi
  subst hi
  exact ⟨_, 0, rfl, by simp, by simp⟩

theorem below_draw (w : World) : Below w.heap.size w w.drew := below_drew' (Below.refl _ _)
theorem box_two {w W W' : World} {o : Obj} (h : Below (w.heap.size + 1) (w.alloc o) W) (h2 : Below W.heap.size W W') : Below (w.heap.size + 1) (w.alloc o) W' := box_on h h2
set_option maxRecDepth 100000 in
set_option maxHeartbeats 400000 in
theorem MFor_any (ac az aw ap : Option Addr) (cc cz cw cp : Nat) (m : MoList) (sum : Int) (w : World) (hm : ListC w ac az aw ap cc cz cw cp m) :
    Calls Try.prog 21 #[(.agg #[.slice ac m.claimants.length cc, .slice az m.sums.length cz, .slice aw m.words.length cw, .slice ap m.paid.length cp]), .int .i64 sum] w fun e w' => ∃ v, e = .returned (.tuple #[v, .int .i64 (forOf m sum).2]) ∧ IntsV w' v (forOf m sum).1 ∧ Below w.heap.size w w' := by
  have HE := Lib.hid (for_hid m sum)
  have HV := Lib.hid (fun h : forErr m sum = 0 => for_valid h)
  have hQ := Below.refl (w.heap.size + 1) (w.alloc (.cells #[.slice ac m.claimants.length cc, .slice az m.sums.length cz, .slice aw m.words.length cw, .slice ap m.paid.length cp] 27))
  obtain ⟨c0, c1, c2, c3⟩ := box_four hQ
  have hbz := box_size hQ
  have l2 := hm.okz.len
  have hQ1 := hQ.alloc (by simp) (.cells #[.int .i64 sum] 3)
  have hI : IntsC ((w.alloc (.cells #[.slice ac m.claimants.length cc, .slice az m.sums.length cz, .slice aw m.words.length cw, .slice ap m.paid.length cp] 27)).alloc (.cells #[.int .i64 sum] 3)) (some ⟨w.heap.size + 1, 0, none⟩) [sum] := by
    have := one_ints (w.alloc (.cells #[.slice ac m.claimants.length cc, .slice az m.sums.length cz, .slice aw m.words.length cw, .slice ap m.paid.length cp] 27)) sum 3
    rwa [show (w.alloc (.cells #[.slice ac m.claimants.length cc, .slice az m.sums.length cz, .slice aw m.words.length cw, .slice ap m.paid.length cp] 27)).heap.size = w.heap.size + 1 by simp] at this
  have C := MEnter_any ac az aw ap cc cz cw cp m m.sums.length _ [sum] 1 _ (hm.mono (box_old hQ1)) (by omega) (by omega) (by simp) hI
  rw [for_err] at C
  have C := Lib.hid C
  clear hI
  have HT := Lib.hid (fun (h : Valid m) (i : Nat) (hi : i < m.sums.length) => truth_whom m i hi)
  have HN := Lib.hid (look_none m)
  have HB := Lib.hid (fun h : Valid m => truth_ev16 m h.nc)
  have NU := Lib.hid (fun (s n : Nat) (hs : s < 64) (hn : n ≤ 6) (W : World) => MNumbers_any s n hs hn W)
  generalize forOf m sum = r at HE ⊢
  generalize forErr m sum = er at C HE HV
  by_cases he : er = 0
  · have g1 := nei_f he
    obtain ⟨hv, hpos, hs0, hs1⟩ := HV.out he
    obtain ⟨i, rfl⟩ : ∃ i : Nat, sum = i := ⟨sum.toNat, by omega⟩
    have hi : i < m.sums.length := by omega
    have h5 := hv.nz
    have hi5i : (i : Int) < 5 := by omega
    have HE := Lib.hid (HE.out.trans (if_pos he))
    have HX := Lib.hid he
    have h4 := hv.nc
    clear he
    have hE : (everyL m (truths m))[i]? = some ((evBit (truths m) i : Nat) : Int) := by unfold everyL; rw [List.getElem?_map, List.getElem?_range (by omega)]; simp [everyAt, hi]
    have hE := Lib.hid hE
    go_enter Try.func21, Try.ntmps21
    go_wp2_with (go_at_call 74; go_must (refine C.out.mono ?_; rintro e w2 ⟨v2, rfl, h2, hb2⟩; obtain ⟨bm, bo, rfl, hLW⟩ := h2 HX.out; have hL := hLW.blk; rw [HN.out] at hL; have hQ2 := box_two hQ1 hb2; have hce := hL.cell6 i hE.out; have hbm := hL.lt; obtain ⟨d0, d1, d2, d3⟩ := box_four hQ2; have hbz2 := box_size hQ2; dsimp only))
    have KE : Hid (∀ V, Below w2.heap.size w2 V → (fun ev => (fun V => Below (w.heap.size + 1) (w.alloc (.cells #[.slice ac m.claimants.length cc, .slice az m.sums.length cz, .slice aw m.words.length cw, .slice ap m.paid.length cp] 27)) V ∧ V.cell? ⟨w.heap.size, 0, none⟩ = some (.slice ac m.claimants.length cc) ∧ V.cell? ⟨bm, 6 + i, none⟩ = some (.int .i64 (ev : Int)) ∧ w.heap.size < V.heap.size ∧ bm < V.heap.size)) (evBit (truths m) i) V) := Lib.hid (fun V h => ⟨hQ2.trans (h.mono (by have := hQ2.size; simpa using this)), cell_below h d0, cell_below h hce, Nat.lt_of_lt_of_le hbz2 h.size, Nat.lt_of_lt_of_le hbm h.size⟩)
    have h16 := HB.out hv i
    have hT := Lib.hid (HT.out hv i hi)
    clear hce hL hLW
    generalize evBit (truths m) i = ev at KE h16 hT
    refine wp_region_held_drew (S := (fun V => Below (w.heap.size + 1) (w.alloc (.cells #[.slice ac m.claimants.length cc, .slice az m.sums.length cz, .slice aw m.words.length cw, .slice ap m.paid.length cp] 27)) V ∧ V.cell? ⟨w.heap.size, 0, none⟩ = some (.slice ac m.claimants.length cc) ∧ V.cell? ⟨bm, 6 + i, none⟩ = some (.int .i64 (ev : Int)) ∧ w.heap.size < V.heap.size ∧ bm < V.heap.size)) (by kernel_rfl) (KE.out _ (below_draw w2)) (fun hHeld => ?_)
    (refine wpAnyH_take (i := 0) (v := ?_) rfl (by kernel_rfl) (by kernel_rfl) (by kernel_rfl) (fun _ _ _ h => h) (Or.inl ⟨by kernel_rfl, ?_⟩) (by assumption) ?_; rotate_left 1; (focus (intro w hSw; (try dsimp only at hSw); go_simp; first | done | with_reducible rfl)); simp only [Act.put, List.getElem_toArray, List.getElem_cons_succ, List.getElem_cons_zero, List.setIfInBounds_toArray, List.set_cons_succ, List.set_cons_zero])
    (refine wpAnyH_take (i := 1) (v := ?_) rfl (by kernel_rfl) (by kernel_rfl) (by kernel_rfl) (fun _ _ _ h => h) (Or.inl ⟨by kernel_rfl, ?_⟩) (by assumption) ?_; rotate_left 1; (focus (intro w hSw; (try dsimp only at hSw); go_simp; first | done | with_reducible rfl)); simp only [Act.put, List.getElem_toArray, List.getElem_cons_succ, List.getElem_cons_zero, List.setIfInBounds_toArray, List.set_cons_succ, List.set_cons_zero])
    (refine wpAnyH_take (i := 2) (v := ?_) rfl (by kernel_rfl) (by kernel_rfl) (by kernel_rfl) (fun _ _ _ h => h) (Or.inl ⟨by kernel_rfl, ?_⟩) (by assumption) ?_; rotate_left 1; (focus (intro w hSw; (try dsimp only at hSw); go_simp; first | done | with_reducible rfl)); simp only [Act.put, List.getElem_toArray, List.getElem_cons_succ, List.getElem_cons_zero, List.setIfInBounds_toArray, List.set_cons_succ, List.set_cons_zero])
    (refine wpAnyH_take (i := 3) (v := ?_) rfl (by kernel_rfl) (by kernel_rfl) (by kernel_rfl) (fun _ _ _ h => h) (Or.inl ⟨by kernel_rfl, ?_⟩) (by assumption) ?_; rotate_left 1; (focus (intro w hSw; (try dsimp only at hSw); go_simp; first | done | with_reducible rfl)); simp only [Act.put, List.getElem_toArray, List.getElem_cons_succ, List.getElem_cons_zero, List.setIfInBounds_toArray, List.set_cons_succ, List.set_cons_zero])
    (refine wpAnyH_take (i := 4) (v := ?_) rfl (by kernel_rfl) (by kernel_rfl) (by kernel_rfl) (fun _ _ _ h => h) (Or.inl ⟨by kernel_rfl, ?_⟩) (by assumption) ?_; rotate_left 1; (focus (intro w hSw; (try dsimp only at hSw); go_simp; first | done | with_reducible rfl)); simp only [Act.put, List.getElem_toArray, List.getElem_cons_succ, List.getElem_cons_zero, List.setIfInBounds_toArray, List.set_cons_succ, List.set_cons_zero])
    (refine wpAnyH_take (i := 5) (v := ?_) rfl (by kernel_rfl) (by kernel_rfl) (by kernel_rfl) (fun _ _ _ h => h) (Or.inl ⟨by kernel_rfl, ?_⟩) (by assumption) ?_; rotate_left 1; (focus (intro w hSw; (try dsimp only at hSw); go_simp; first | done | with_reducible rfl)); simp only [Act.put, List.getElem_toArray, List.getElem_cons_succ, List.getElem_cons_zero, List.setIfInBounds_toArray, List.set_cons_succ, List.set_cons_zero])
    (refine wpAnyH_take (i := 6) (v := ?_) rfl (by kernel_rfl) (by kernel_rfl) (by kernel_rfl) (fun _ _ _ h => h) (Or.inl ⟨by kernel_rfl, ?_⟩) (by assumption) ?_; rotate_left 1; (focus (intro w hSw; (try dsimp only at hSw); go_simp; first | done | with_reducible rfl)); simp only [Act.put, List.getElem_toArray, List.getElem_cons_succ, List.getElem_cons_zero, List.setIfInBounds_toArray, List.set_cons_succ, List.set_cons_zero])
    (refine wpAnyH_take (i := 7) (v := ?_) rfl (by kernel_rfl) (by kernel_rfl) (by kernel_rfl) (fun _ _ _ h => h) (Or.inl ⟨by kernel_rfl, ?_⟩) (by assumption) ?_; rotate_left 1; (focus (intro w hSw; (try dsimp only at hSw); go_simp; first | done | with_reducible rfl)); simp only [Act.put, List.getElem_toArray, List.getElem_cons_succ, List.getElem_cons_zero, List.setIfInBounds_toArray, List.set_cons_succ, List.set_cons_zero])
    (refine wpAnyH_take (i := 8) (v := ?_) rfl (by kernel_rfl) (by kernel_rfl) (by kernel_rfl) (fun _ _ _ h => h) (Or.inl ⟨by kernel_rfl, ?_⟩) (by assumption) ?_; rotate_left 1; (focus (intro w hSw; (try dsimp only at hSw); go_simp; first | done | with_reducible rfl)); simp only [Act.put, List.getElem_toArray, List.getElem_cons_succ, List.getElem_cons_zero, List.setIfInBounds_toArray, List.set_cons_succ, List.set_cons_zero])
    (refine wpAnyH_ready (rs := [9]) (by kernel_rfl) (by simp) ?_; refine AllReadyH.cons rfl (fun K hK => ?_) AllReadyH.nil; go_simp)
    go_wp2_with (go_at_call 77; go_must (refine (NU.out ev m.claimants.length (by omega) (by omega) _).mono ?_; rintro e w3 ⟨v3, rfl, hv3, hb3⟩; dsimp only))
    have hb4 := (below_draw w2).trans (hb3.mono (by simp))
    refine hK.out _ _ (KE.out _ hb4) (fun hHeld => ?_)
    (try simp only [Act.put, List.getElem_toArray, List.getElem_cons_succ, List.getElem_cons_zero, List.setIfInBounds_toArray, List.set_cons_succ, List.set_cons_zero])
    clear hK
    (refine wpAnyH_take (i := 10) (v := ?_) rfl (by kernel_rfl) (by kernel_rfl) (by kernel_rfl) (fun _ _ _ h => h) (Or.inl ⟨by kernel_rfl, ?_⟩) (by assumption) ?_; rotate_left 1; (focus (intro w hSw; (try dsimp only at hSw); go_simp; first | done | with_reducible rfl)); simp only [Act.put, List.getElem_toArray, List.getElem_cons_succ, List.getElem_cons_zero, List.setIfInBounds_toArray, List.set_cons_succ, List.set_cons_zero])
    (refine wpAnyH_take (i := 11) (v := ?_) rfl (by kernel_rfl) (by kernel_rfl) (by kernel_rfl) (fun _ _ _ h => h) (Or.inl ⟨by kernel_rfl, ?_⟩) (by assumption) ?_; rotate_left 1; (focus (intro w hSw; (try dsimp only at hSw); go_simp; first | done | with_reducible rfl)); simp only [Act.put, List.getElem_toArray, List.getElem_cons_succ, List.getElem_cons_zero, List.setIfInBounds_toArray, List.set_cons_succ, List.set_cons_zero])
    refine wpAnyH_done (by kernel_rfl) ?_ _
    go_wp2
    go_ret2
    rw [HE.out]
    refine ⟨_, rfl, ?_, box_old (hQ2.trans (hb4.mono (by have := hQ2.size; simpa using this)))⟩
    dsimp only
    rw [Int.toNat_natCast, hT.out]
    exact hv3
  · have g1 := nei_t he
    have HE := Lib.hid (HE.out.trans (if_neg he))
    clear he
    go_enter Try.func21, Try.ntmps21
    go_wp2_with (go_at_call 74; go_must (refine C.out.mono ?_; rintro e w2 ⟨v2, rfl, h2, hb2⟩; have hQ2 := box_two hQ1 hb2; dsimp only))
    go_ret2
    rw [HE.out]
    exact ⟨_, rfl, ⟨none, 0, rfl, ⟨by simp, by omega, fun _ => rfl⟩, IntsC.nil _ _⟩, box_old hQ2⟩
end Go.Proofs.Ytnlolliankhfmaa
namespace Go.Proofs.Ytnlolliankhfmaa
open Go Go.RowKit
theorem pay_hid (m : MoList) (sum : Int) : payOf m sum = if forErr m sum = 0 then (if 1 < (whom m.claimants.length (truths m) sum.toNat).length then (0, 9) else ((whom m.claimants.length (truths m) sum.toNat).headD 0, 0)) else (0, forErr m sum) := rfl
theorem below_draw' (w : World) (q : Nat) : Below w.heap.size w (w.drewN q).drew := below_drew' (below_drewN' (Below.refl _ _) q)

set_option maxRecDepth 100000 in
set_option maxHeartbeats 400000 in
theorem MPay_any (ac az aw ap : Option Addr) (cc cz cw cp : Nat) (m : MoList) (sum : Int) (w : World) (hm : ListC w ac az aw ap cc cz cw cp m) :
    Calls Try.prog 24 #[(.agg #[.slice ac m.claimants.length cc, .slice az m.sums.length cz, .slice aw m.words.length cw, .slice ap m.paid.length cp]), .int .i64 sum] w fun e w' => e = .returned (.tuple #[.int .i64 (payOf m sum).1, .int .i64 (payOf m sum).2]) ∧ Below w.heap.size w w' := by
  have HE := Lib.hid (pay_hid m sum)
  have HV := Lib.hid (fun h : forErr m sum = 0 => for_valid h)
  have hQ := Below.refl (w.heap.size + 1) (w.alloc (.cells #[.slice ac m.claimants.length cc, .slice az m.sums.length cz, .slice aw m.words.length cw, .slice ap m.paid.length cp] 27))
  obtain ⟨c0, c1, c2, c3⟩ := box_four hQ
  have hbz := box_size hQ
  have l2 := hm.okz.len
  have hQ1 := hQ.alloc (by simp) (.cells #[.int .i64 sum] 3)
  have hI : IntsC ((w.alloc (.cells #[.slice ac m.claimants.length cc, .slice az m.sums.length cz, .slice aw m.words.length cw, .slice ap m.paid.length cp] 27)).alloc (.cells #[.int .i64 sum] 3)) (some ⟨w.heap.size + 1, 0, none⟩) [sum] := by
    have := one_ints (w.alloc (.cells #[.slice ac m.claimants.length cc, .slice az m.sums.length cz, .slice aw m.words.length cw, .slice ap m.paid.length cp] 27)) sum 3
    rwa [show (w.alloc (.cells #[.slice ac m.claimants.length cc, .slice az m.sums.length cz, .slice aw m.words.length cw, .slice ap m.paid.length cp] 27)).heap.size = w.heap.size + 1 by simp] at this
  have C := MEnter_any ac az aw ap cc cz cw cp m m.sums.length _ [sum] 1 _ (hm.mono (box_old hQ1)) (by omega) (by omega) (by simp) hI
  rw [for_err] at C
  have C := Lib.hid C
  clear hI
  have HT := Lib.hid (fun (h : Valid m) (i : Nat) (hi : i < m.sums.length) => truth_whom m i hi)
  have HN := Lib.hid (look_none m)
  have HB := Lib.hid (fun h : Valid m => truth_ev16 m h.nc)
  have HS := Lib.hid (fun (h : Valid m) (i : Nat) (hi : i < m.sums.length) => truth_sure m h.nc i hi)
  have HP := Lib.hid (fun (h : 0 < (truths m).length) (i : Nat) (hi : i < m.sums.length) => whom_pos m h i hi)
  have SU := Lib.hid (fun (bm bo c i : Nat) (E : List Int) (s : Nat) (hs : s < 16) (hE : E[i]? = some (s : Int)) (h5 : E.length = 5) (W : World) (hL : LBlk W bm ac az aw ap cc cz cw cp m c bo E) => MSure_any ac az aw ap cc cz cw cp m bm bo c i E s hs hE h5 W hL)
  have NU := Lib.hid (fun (s n : Nat) (hs : s < 64) (hn : n ≤ 6) (W : World) => MNumbers_any s n hs hn W)
  generalize payOf m sum = r at HE ⊢
  generalize forErr m sum = er at C HE HV
  by_cases he : er = 0
  · have g1 := nei_f he
    obtain ⟨hv, hpos, hs0, hs1⟩ := HV.out he
    obtain ⟨i, rfl⟩ : ∃ i : Nat, sum = i := ⟨sum.toNat, by omega⟩
    have hi : i < m.sums.length := by omega
    have h5 := hv.nz
    have hi5i : (i : Int) < 5 := by omega
    have HE := Lib.hid (HE.out.trans (if_pos he))
    have HX := Lib.hid he
    have h4 := hv.nc
    clear he
    have hE : (everyL m (truths m))[i]? = some ((evBit (truths m) i : Nat) : Int) := by unfold everyL; rw [List.getElem?_map, List.getElem?_range (by omega)]; simp [everyAt, hi]
    have hE := Lib.hid hE
    have h16 := HB.out hv i
    have hT := HT.out hv i hi
    have hS := HS.out hv i hi
    have hP := HP.out hpos i hi
    have hE5 := Lib.hid (everyL_len m (truths m))
    have HE := HE.out
    rw [Int.toNat_natCast] at HE
    rw [hT] at hS hP HE
    clear hT
    have NU := fun (W : World) => NU.out (evBit (truths m) i) m.claimants.length (by omega) (by omega) W
    generalize hEL : everyL m (truths m) = EL at hE hE5
    have HEL := Lib.hid hEL
    clear hEL
    generalize evBit (truths m) i = ev at h16 hS hP HE hE NU
    generalize bitsList ev m.claimants.length = L at hS hP HE NU
    have NU := Lib.hid NU
    have HE := Lib.hid HE
    have SU := fun (bm bo c : Nat) (W : World) (hL : LBlk W bm ac az aw ap cc cz cw cp m c bo EL) => SU.out bm bo c i EL ev h16 hE.out hE5.out W hL
    generalize oneB ev = ob at hS SU
    have SU := Lib.hid SU
    have hS := Lib.hid hS
    have hPi : (0 : Int) < L.length := by omega
    cases ob
    · have hS := Lib.hid (show 1 < L.length by simpa using hS.out)
      go_enter Try.func24, Try.ntmps24
      go_wp2_with (first
        | (go_at_call 80; go_must (refine (SU.out bm bo _ _ hL).mono ?_; rintro e w3 ⟨rfl, q, rfl⟩; dsimp only))
        | (go_at_call 74; go_must (refine C.out.mono ?_; rintro e w2 ⟨v2, rfl, h2, hb2⟩; obtain ⟨bm, bo, rfl, hLW⟩ := h2 HX.out; have hL := hLW.blk; rw [HN.out, HEL.out] at hL; have hQ2 := box_two hQ1 hb2; have hce := hL.cell6 i hE.out; have hbm := hL.lt; obtain ⟨d0, d1, d2, d3⟩ := box_four hQ2; have hbz2 := box_size hQ2; dsimp only)))
      go_ret2
      rw [HE.out, if_pos hS.out]
      exact ⟨rfl, box_old (below_drewN' hQ2 q)⟩
    · have hS := Lib.hid (show ¬ 1 < L.length by simpa using hS.out)
      go_enter Try.func24, Try.ntmps24
      go_wp2_with (first
        | (go_at_call 80; go_must (refine (SU.out bm bo _ _ hL).mono ?_; rintro e w3 ⟨rfl, q, rfl⟩; dsimp only))
        | (go_at_call 74; go_must (refine C.out.mono ?_; rintro e w2 ⟨v2, rfl, h2, hb2⟩; obtain ⟨bm, bo, rfl, hLW⟩ := h2 HX.out; have hL := hLW.blk; rw [HN.out, HEL.out] at hL; have hQ2 := box_two hQ1 hb2; have hce := hL.cell6 i hE.out; have hbm := hL.lt; obtain ⟨d0, d1, d2, d3⟩ := box_four hQ2; have hbz2 := box_size hQ2; dsimp only)))
      have KE : Hid (∀ V, Below w2.heap.size w2 V → (fun V => Below (w.heap.size + 1) (w.alloc (.cells #[.slice ac m.claimants.length cc, .slice az m.sums.length cz, .slice aw m.words.length cw, .slice ap m.paid.length cp] 27)) V ∧ V.cell? ⟨w.heap.size, 0, none⟩ = some (.slice ac m.claimants.length cc) ∧ V.cell? ⟨bm, 6 + i, none⟩ = some (.int .i64 (ev : Int)) ∧ w.heap.size < V.heap.size ∧ bm < V.heap.size) V) := Lib.hid (fun V h => ⟨hQ2.trans (h.mono (by have := hQ2.size; simpa using this)), cell_below h d0, cell_below h hce, Nat.lt_of_lt_of_le hbz2 h.size, Nat.lt_of_lt_of_le hbm h.size⟩)
      clear hce hL hLW
      refine wp_region_held_drew (S := (fun V => Below (w.heap.size + 1) (w.alloc (.cells #[.slice ac m.claimants.length cc, .slice az m.sums.length cz, .slice aw m.words.length cw, .slice ap m.paid.length cp] 27)) V ∧ V.cell? ⟨w.heap.size, 0, none⟩ = some (.slice ac m.claimants.length cc) ∧ V.cell? ⟨bm, 6 + i, none⟩ = some (.int .i64 (ev : Int)) ∧ w.heap.size < V.heap.size ∧ bm < V.heap.size)) (by kernel_rfl) (KE.out _ (below_draw' w2 q)) (fun hHeld => ?_)
      (refine wpAnyH_take (i := 0) (v := ?_) rfl (by kernel_rfl) (by kernel_rfl) (by kernel_rfl) (fun _ _ _ h => h) (Or.inl ⟨by kernel_rfl, ?_⟩) (by assumption) ?_; rotate_left 1; (focus (intro w hSw; (try dsimp only at hSw); go_simp; first | done | with_reducible rfl)); simp only [Act.put, List.getElem_toArray, List.getElem_cons_succ, List.getElem_cons_zero, List.setIfInBounds_toArray, List.set_cons_succ, List.set_cons_zero])
      (refine wpAnyH_take (i := 1) (v := ?_) rfl (by kernel_rfl) (by kernel_rfl) (by kernel_rfl) (fun _ _ _ h => h) (Or.inl ⟨by kernel_rfl, ?_⟩) (by assumption) ?_; rotate_left 1; (focus (intro w hSw; (try dsimp only at hSw); go_simp; first | done | with_reducible rfl)); simp only [Act.put, List.getElem_toArray, List.getElem_cons_succ, List.getElem_cons_zero, List.setIfInBounds_toArray, List.set_cons_succ, List.set_cons_zero])
      (refine wpAnyH_take (i := 2) (v := ?_) rfl (by kernel_rfl) (by kernel_rfl) (by kernel_rfl) (fun _ _ _ h => h) (Or.inl ⟨by kernel_rfl, ?_⟩) (by assumption) ?_; rotate_left 1; (focus (intro w hSw; (try dsimp only at hSw); go_simp; first | done | with_reducible rfl)); simp only [Act.put, List.getElem_toArray, List.getElem_cons_succ, List.getElem_cons_zero, List.setIfInBounds_toArray, List.set_cons_succ, List.set_cons_zero])
      (refine wpAnyH_take (i := 3) (v := ?_) rfl (by kernel_rfl) (by kernel_rfl) (by kernel_rfl) (fun _ _ _ h => h) (Or.inl ⟨by kernel_rfl, ?_⟩) (by assumption) ?_; rotate_left 1; (focus (intro w hSw; (try dsimp only at hSw); go_simp; first | done | with_reducible rfl)); simp only [Act.put, List.getElem_toArray, List.getElem_cons_succ, List.getElem_cons_zero, List.setIfInBounds_toArray, List.set_cons_succ, List.set_cons_zero])
      (refine wpAnyH_take (i := 4) (v := ?_) rfl (by kernel_rfl) (by kernel_rfl) (by kernel_rfl) (fun _ _ _ h => h) (Or.inl ⟨by kernel_rfl, ?_⟩) (by assumption) ?_; rotate_left 1; (focus (intro w hSw; (try dsimp only at hSw); go_simp; first | done | with_reducible rfl)); simp only [Act.put, List.getElem_toArray, List.getElem_cons_succ, List.getElem_cons_zero, List.setIfInBounds_toArray, List.set_cons_succ, List.set_cons_zero])
      (refine wpAnyH_take (i := 5) (v := ?_) rfl (by kernel_rfl) (by kernel_rfl) (by kernel_rfl) (fun _ _ _ h => h) (Or.inl ⟨by kernel_rfl, ?_⟩) (by assumption) ?_; rotate_left 1; (focus (intro w hSw; (try dsimp only at hSw); go_simp; first | done | with_reducible rfl)); simp only [Act.put, List.getElem_toArray, List.getElem_cons_succ, List.getElem_cons_zero, List.setIfInBounds_toArray, List.set_cons_succ, List.set_cons_zero])
      (refine wpAnyH_take (i := 6) (v := ?_) rfl (by kernel_rfl) (by kernel_rfl) (by kernel_rfl) (fun _ _ _ h => h) (Or.inl ⟨by kernel_rfl, ?_⟩) (by assumption) ?_; rotate_left 1; (focus (intro w hSw; (try dsimp only at hSw); go_simp; first | done | with_reducible rfl)); simp only [Act.put, List.getElem_toArray, List.getElem_cons_succ, List.getElem_cons_zero, List.setIfInBounds_toArray, List.set_cons_succ, List.set_cons_zero])
      (refine wpAnyH_take (i := 7) (v := ?_) rfl (by kernel_rfl) (by kernel_rfl) (by kernel_rfl) (fun _ _ _ h => h) (Or.inl ⟨by kernel_rfl, ?_⟩) (by assumption) ?_; rotate_left 1; (focus (intro w hSw; (try dsimp only at hSw); go_simp; first | done | with_reducible rfl)); simp only [Act.put, List.getElem_toArray, List.getElem_cons_succ, List.getElem_cons_zero, List.setIfInBounds_toArray, List.set_cons_succ, List.set_cons_zero])
      (refine wpAnyH_take (i := 8) (v := ?_) rfl (by kernel_rfl) (by kernel_rfl) (by kernel_rfl) (fun _ _ _ h => h) (Or.inl ⟨by kernel_rfl, ?_⟩) (by assumption) ?_; rotate_left 1; (focus (intro w hSw; (try dsimp only at hSw); go_simp; first | done | with_reducible rfl)); simp only [Act.put, List.getElem_toArray, List.getElem_cons_succ, List.getElem_cons_zero, List.setIfInBounds_toArray, List.set_cons_succ, List.set_cons_zero])
      (refine wpAnyH_ready (rs := [9]) (by kernel_rfl) (by simp) ?_; refine AllReadyH.cons rfl (fun K hK => ?_) AllReadyH.nil; go_simp)
      go_wp2_with (go_at_call 77; go_must (refine (NU.out _).mono ?_; rintro e w3 ⟨v3, rfl, ⟨a3, k3, rfl, ho3, hi3⟩, hb3⟩; obtain ⟨b3, o3, rfl, hlt3, hc3⟩ := hi3 0 hP; rw [Nat.add_zero] at hc3; dsimp only))
      have hb4 := (below_draw' w2 q).trans (hb3.mono (by simp))
      refine hK.out _ _ (KE.out _ hb4) (fun hHeld => ?_)
      (try simp only [Act.put, List.getElem_toArray, List.getElem_cons_succ, List.getElem_cons_zero, List.setIfInBounds_toArray, List.set_cons_succ, List.set_cons_zero])
      clear hK
      (refine wpAnyH_take (i := 10) (v := ?_) rfl (by kernel_rfl) (by kernel_rfl) (by kernel_rfl) (fun _ _ _ h => h) (Or.inl ⟨by kernel_rfl, ?_⟩) (by assumption) ?_; rotate_left 1; (focus (intro w hSw; (try dsimp only at hSw); go_simp; first | done | with_reducible rfl)); simp only [Act.put, List.getElem_toArray, List.getElem_cons_succ, List.getElem_cons_zero, List.setIfInBounds_toArray, List.set_cons_succ, List.set_cons_zero])
      (refine wpAnyH_ready (rs := [11]) (by kernel_rfl) (by simp) ?_; refine AllReadyH.cons rfl (fun K hK => ?_) AllReadyH.nil; go_simp)
      refine hK.out _ _ (KE.out _ hb4) (fun hHeld => ?_)
      (try simp only [Act.put, List.getElem_toArray, List.getElem_cons_succ, List.getElem_cons_zero, List.setIfInBounds_toArray, List.set_cons_succ, List.set_cons_zero])
      clear hK
      (refine wpAnyH_take (i := 12) (v := ?_) rfl (by kernel_rfl) (by kernel_rfl) (by kernel_rfl) (fun _ _ _ h => h) (Or.inl ⟨by kernel_rfl, ?_⟩) (by assumption) ?_; rotate_left 1; (focus (intro w hSw; (try dsimp only at hSw); go_simp; first | done | with_reducible rfl)); simp only [Act.put, List.getElem_toArray, List.getElem_cons_succ, List.getElem_cons_zero, List.setIfInBounds_toArray, List.set_cons_succ, List.set_cons_zero])
      (refine wpAnyH_take (i := 13) (v := ?_) rfl (by kernel_rfl) (by kernel_rfl) (by kernel_rfl) (fun _ _ _ h => h) (Or.inl ⟨by kernel_rfl, ?_⟩) (by assumption) ?_; rotate_left 1; (focus (intro w hSw; (try dsimp only at hSw); go_simp; first | done | with_reducible rfl)); simp only [Act.put, List.getElem_toArray, List.getElem_cons_succ, List.getElem_cons_zero, List.setIfInBounds_toArray, List.set_cons_succ, List.set_cons_zero])
      refine wpAnyH_done (by kernel_rfl) ?_ _
      go_wp2
      go_ret2
      rw [HE.out, if_neg hS.out]
      refine ⟨?_, box_old (hQ2.trans (hb4.mono (by have := hQ2.size; simpa using this)))⟩
      rw [show L.headD 0 = L[0] from by cases L with | nil => simp at hP | cons a l => rfl]
      rfl
  · have g1 := nei_t he
    have HE := Lib.hid (HE.out.trans (if_neg he))
    clear he
    go_enter Try.func24, Try.ntmps24
    go_wp2_with (go_at_call 74; go_must (refine C.out.mono ?_; rintro e w2 ⟨v2, rfl, h2, hb2⟩; have hQ2 := box_two hQ1 hb2; dsimp only))
    go_ret2
    rw [HE.out]
    exact ⟨rfl, box_old hQ2⟩
end Go.Proofs.Ytnlolliankhfmaa
namespace Go.Proofs.Ytnlolliankhfmaa
open Go Go.RowKit

def cmpI (x y : Int) : Int := if x < y then -1 else if y < x then 1 else 0

set_option maxHeartbeats 400000 in
theorem IsNaN_any (x : Int) (w : World) :
    Calls Try.prog 108 #[.int .i64 x] w fun e w' => e = .returned (.bool false) ∧ w' = w := by
  go_enter Try.func108, Try.ntmps108
  go_wp2
  go_ret
  exact ⟨ret_bool (by simp), rfl⟩

set_option maxHeartbeats 400000 in
theorem CmpInt_any (x y : Int) (w : World) :
    Calls Try.prog 102 #[.int .i64 x, .int .i64 y] w fun e w' => e = .returned (.int .i64 (cmpI x y)) ∧ w' = w := by
  have HN := Lib.hid (fun (x : Int) (W : World) => IsNaN_any x W)
  have HE : Hid (cmpI x y = if x < y then -1 else if y < x then 1 else 0) := rfl
  generalize cmpI x y = r at HE ⊢
  by_cases a1 : x < y
  · go_enter Try.func102, Try.ntmps102
    go_wp2_with (go_at_call 108; refine (HN.out _ _).mono ?_; rintro e w2 ⟨rfl, rfl⟩; dsimp only)
    go_ret
    exact ⟨ret_int (by rw [HE.out, if_pos a1]), rfl⟩
  · by_cases a2 : y < x
    all_goals
      go_enter Try.func102, Try.ntmps102
      go_wp2_with (go_at_call 108; refine (HN.out _ _).mono ?_; rintro e w2 ⟨rfl, rfl⟩; dsimp only)
      go_ret
      exact ⟨ret_int (by have := HE.out; split at this <;> (try split at this) <;> omega), rfl⟩

theorem less_at (l1 l2 : List Int) (j : Nat) (h1 : j < l1.length) (h2 : j < l2.length) :
    less (l1.drop j) (l2.drop j) = if l1[j] = l2[j] then less (l1.drop (j + 1)) (l2.drop (j + 1)) else decide (l1[j] < l2[j]) := by
  rw [List.drop_eq_getElem_cons h1, List.drop_eq_getElem_cons h2]
  simp only [less]

set_option maxHeartbeats 400000 in
theorem Cmp_any (a1 a2 : Option Addr) (l1 l2 : List Int) (c1 c2 : Nat) (w : World) (hl : l1.length = l2.length) (hl5 : l2.length ≤ 9223372036854775807) (h1 : IntsC w a1 l1) (h2 : IntsC w a2 l2) :
    Calls Try.prog 75 #[.slice a1 l1.length c1, .slice a2 l2.length c2] w fun e w' => ∃ k : Int, e = .returned (.int .i64 k) ∧ Hid (decide (k < 0) = less l1 l2) ∧ w' = w := by
  have HC := Lib.hid (fun (x y : Int) (W : World) => CmpInt_any x y W)
  obtain ⟨r, hr⟩ : ∃ r, r = less l1 l2 := ⟨_, rfl⟩
  rw [← hr]
  have h00 : Hid (less (l1.drop 0) (l2.drop 0) = r) := hr.symm
  clear hr
  go_enter Try.func75, Try.ntmps75
  go_wp2
  go_loop [11] (fun i => ∃ k : Nat, i = .int .i64 k ∧ k ≤ l1.length ∧ Hid (less (l1.drop k) (l2.drop k) = r)) (fun i => l1.length - (intOf i).toNat)
  case atStart => exact ⟨0, rfl, by omega, h00⟩
  case round =>
    obtain ⟨k, rfl, hk, hr⟩ := hrel
    by_cases hlt : k < l1.length
    · obtain ⟨b1, o1, rfl, hb1, hc1⟩ := h1 k hlt
      obtain ⟨b2, o2, rfl, hb2, hc2⟩ := h2 k (by omega)
      have hlt2 : k < l2.length := by omega
      have hst := Lib.hid ((less_at l1 l2 k hlt hlt2).symm.trans hr.out)
      generalize hx : l1[k] = x at hc1 hst
      generalize hy : l2[k] = y at hc2 hst
      clear hx hy
      have HK : Hid (cmpI x y = if x < y then -1 else if y < x then 1 else 0) := rfl
      have HC := fun W => HC.out x y W
      generalize cmpI x y = q at HC HK
      have HC := Lib.hid HC
      by_cases hq : q = 0
      · have g1 := nei_f hq
        go_wp2_with (go_at_call 102; refine (HC.out _).mono ?_; rintro e w2 ⟨rfl, rfl⟩; dsimp only)
        go_round
        case rel => exact ⟨k + 1, by go_num, by omega, Lib.hid (by rw [← hst.out]; have := HK.out; have e : x = y := (by split at this <;> (try split at this) <;> omega); rw [if_pos e])⟩
        case measure => simp [intOf]; omega
      · have g1 := nei_t hq
        go_wp2_with (go_at_call 102; refine (HC.out _).mono ?_; rintro e w2 ⟨rfl, rfl⟩; dsimp only)
        go_ret
        refine ⟨_, rfl, Lib.hid ?_, rfl⟩
        rw [← hst.out]
        have := HK.out
        have e : x ≠ y := by intro e; subst e; simp at this; exact hq this
        rw [if_neg e, decide_eq_decide]
        split at this <;> (try split at this) <;> omega
    · obtain rfl : k = l1.length := by omega
      go_wp2
      go_ret
      refine ⟨_, rfl, Lib.hid ?_, rfl⟩
      rw [← hr.out, List.drop_length, hl, List.drop_length]
      simp [less]
end Go.Proofs.Ytnlolliankhfmaa
