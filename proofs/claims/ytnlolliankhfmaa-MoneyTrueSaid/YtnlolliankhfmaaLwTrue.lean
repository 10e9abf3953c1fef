/- What is proved here: the walk of MoneyTrue: it returns true, and turns nothing that was there. Conditions: the list and the bytes lie in memory. -/
import Derived.Test.YtnlolliankhfmaaTold
set_option linter.unusedVariables false
set_option linter.unusedSimpArgs false
namespace Go.Proofs.Ytnlolliankhfmaa
open Go Go.RowKit
theorem A_ForP (ac az aw ap : Option Addr) (cc cz cw cp : Nat) (m : MoList) (p : List MoPaid) (s : Int) (l : List Int) (e : Int) (h : forOf (withPaid m p) s = (l, e)) (w : World) (hm : ListC w ac az aw ap cc cz cw cp (withPaid m p)) : Calls Try.prog 21 #[.agg #[.slice ac m.claimants.length cc, .slice az m.sums.length cz, .slice aw m.words.length cw, .slice ap p.length cp], .int .i64 s] w fun x w' => ∃ a c, x = .returned (.tuple #[.slice a l.length c, .int .i64 e]) ∧ SlOk a l.length c ∧ IntsC w' a l ∧ Below w.heap.size w w' :=
  A_For ac az aw ap cc cz cw cp (withPaid m p) s l e h w hm
theorem A_FirstP (ac az aw ap : Option Addr) (cc cz cw cp : Nat) (m : MoList) (p : List MoPaid) (l : List Int) (n e : Int) (h : firstOf (withPaid m p) = (l, n, e)) (w : World) (hm : ListC w ac az aw ap cc cz cw cp (withPaid m p)) : Calls Try.prog 18 #[.agg #[.slice ac m.claimants.length cc, .slice az m.sums.length cz, .slice aw m.words.length cw, .slice ap p.length cp]] w fun x w' => ∃ a c, x = .returned (.tuple #[.slice a l.length c, .int .i64 n, .int .i64 e]) ∧ SlOk a l.length c ∧ IntsC w' a l ∧ Below w.heap.size w w' :=
  A_First ac az aw ap cc cz cw cp (withPaid m p) l n e h w hm
theorem list_paid2 {W W' : World} {B : Nat} {a0 a1 a2 a3 ac az aw ap ap' : Option Addr} {n0 n1 n2 n3 c0 c1 c2 c3 cc cz cw cp cp' : Nat} {t : TypeId} {m : MoList} {p p' : List MoPaid} (hK : ListC W ac az aw ap cc cz cw cp (withPaid m p)) (hB : W.heap[B]? = some (.cells #[.slice a0 n0 c0, .slice a1 n1 c1, .slice a2 n2 c2, .slice a3 n3 c3] t (0, 0)))
    (hh : ∀ b, b ≠ B → W'.heap[b]? = W.heap[b]?) (hs : W.heap.size ≤ W'.heap.size) (hsl : SlOk ap' p'.length cp') (hp : PaidC W' ap' p') : ListC W' ac az aw ap' cc cz cw cp' (withPaid m p') :=
  ⟨hK.okc, hK.okz, hK.okw, hsl, hK.claimants.set hB hh hs, hK.sums.set hB hh hs, hK.words.set hB hh hs, hp, hK.csize, hK.zsize⟩
theorem Less_no (a b : Option Addr) (l m : List Int) (c d : Nat) (w : World) (hr : less l m = false) (hl : l.length ≤ 9223372036854775807) (hm : m.length ≤ 9223372036854775807) (hi : IntsC w a l) (hj : IntsC w b m) :
    Calls Try.prog 52 #[.slice a l.length c, .slice b m.length d] w fun e w' => e = .returned (.bool false) ∧ Below w.heap.size w w' := by
  have C := Less_any a b l m c d w hl hm hi hj
  rw [hr] at C
  exact C.mono fun e w' ⟨h1, q, h2⟩ => ⟨h1, by rw [h2]; exact below_draws _ _ q⟩
theorem paidTo_len (t : List Int) (j : Nat) : (paidTo t j).length = j := by simp [paidTo]

set_option maxRecDepth 100000 in
set_option maxHeartbeats 4000000 in
theorem MoneyTrue_walk (ac az aw ap : Option Addr) (cc cz cw cp : Nat) (m : MoList) (ab : Option Addr) (xs : List Int) (cb : Nat) (w : World) (hm : ListC w ac az aw ap cc cz cw cp m) (hob : SlOk ab xs.length cb) (hib : BytesC w ab xs) (hbb : ∀ x ∈ xs, 0 ≤ x ∧ x ≤ 255) : Calls Try.prog 10 #[(.agg #[.slice ac m.claimants.length cc, .slice az m.sums.length cz, .slice aw m.words.length cw, .slice ap m.paid.length cp]), .slice ab xs.length cb] w fun e w' => e = .returned (.bool true) ∧ Below w.heap.size w w' := by
  have hQ := Below.refl (w.heap.size + 1) (w.alloc (.cells #[.slice ac m.claimants.length cc, .slice az m.sums.length cz, .slice aw m.words.length cw, .slice ap m.paid.length cp] 27))
  have hx4 := box_four hQ
  have hz := box_size hQ
  by_cases h0 : errOf m = 0
  · have hv := valid_of h0
    have HV := Lib.hid (fun (W : World) (h : ListC W ac az aw ap cc cz cw cp m) => Valid_yes _ _ _ _ _ _ _ _ m h0 W h)
    obtain ⟨T, hT⟩ : ∃ T, T = tell m xs := ⟨_, rfl⟩
    have ht : TurnsOf m T := by rw [hT]; exact tell_turns hv hbb
    obtain ⟨K, hK0⟩ : ∃ K, K = told m T [] := ⟨_, rfl⟩
    have TC : ∀ (W : World) (h : ListC W ac az aw ap cc cz cw cp m) (h2 : BytesC W ab xs), Calls Try.prog 51 #[(.agg #[.slice ac m.claimants.length cc, .slice az m.sums.length cz, .slice aw m.words.length cw, .slice ap m.paid.length cp]), .slice ab xs.length cb] W fun e w' => ∃ az' aw' cz' cw' at_ ct, e = .returned (.tuple #[.agg #[.slice ac K.claimants.length cc, .slice az' K.sums.length cz', .slice aw' K.words.length cw', .slice ap m.paid.length cp], .slice at_ T.length ct]) ∧
        ListC w' ac az' aw' ap cc cz' cw' cp (withPaid K m.paid) ∧ SlOk at_ T.length ct ∧ IntsC w' at_ T ∧ Below W.heap.size W w' := by
      intro W h h2
      subst hK0
      subst hT
      exact Told_any ac az aw ap cc cz cw cp m ab xs cb W h hv hob h2 hbb
    have hlen := ht.len
    have n5 : T.length ≤ 5 := by have := hv.nz; omega
    have PF : ∀ k, k < T.length → ∃ WH : List Int, forOf (withPaid K (paidTo T k)) k = (WH, 0) ∧ hasB WH (T[k]?.getD 0) = true ∧ ((∃ c : Int, payOf (withPaid K (paidTo T k)) k = (c, 0) ∧ T[k]?.getD 0 = c) ∨ payOf (withPaid K (paidTo T k)) k = (0, 9)) := by
      intro k hk
      subst hK0
      have hp := paidTo_ok hv ht (show k ≤ m.sums.length by omega)
      have hw := told_whole h0 ht hp
      have htr := told_truth h0 ht hp
      have hks : k < (told m T (paidTo T k)).sums.length := by simp [told]; omega
      refine ⟨_, for_yes hw hks, hasB_iff.2 (truth_whom_mem htr hks), ?_⟩
      rcases pay_cases hw hks with ⟨c, h1, -, -, -, h2⟩ | ⟨h1, -⟩
      · exact .inl ⟨c, h1, h2 T htr⟩
      · exact .inr h1
    have WF : wrongOf (withPaid K (paidTo T T.length)) = ([], 0) := by
      subst hK0
      rw [hlen]
      exact told_wrong h0 ht
    obtain ⟨lf, nf, FF, FN, FL⟩ : ∃ l n, firstOf (withPaid K (paidTo T T.length)) = (l, n, 0) ∧ 1 ≤ n ∧ less T l = false := by
      subst hK0
      have hp := paidTo_ok hv ht (show T.length ≤ m.sums.length by omega)
      obtain ⟨l, n, h1, h2, h3⟩ := first_is (told_whole h0 ht hp)
      exact ⟨l, n, h1, h2, h3 T (told_truth h0 ht hp)⟩
    have fnb : decide (1 ≤ nf) = true := decide_eq_true FN
    replace TC := Lib.hid TC
    replace PF := Lib.hid PF
    replace WF := Lib.hid WF
    replace FF := Lib.hid FF
    replace FL := Lib.hid FL
    have np := hv.np
    clear hK0 ht hT h0 hv hlen FN
    go_enter Try.func10, Try.ntmps10
    go_upto_region 5 with (first
      | (go_at_call 51; (with_reducible refine (TC.out _ (hm.mono (box_old hQ)) (hib.mono (box_old hQ))).mono ?_); rintro e w3 ⟨az', aw', cz', cw', at_, ct, rfl, hK, hst, hit, hb⟩; replace hQ := box_on hQ hb; dsimp only)
      | (go_at_call 50; (with_reducible refine (HV.out _ (hm.mono (box_old hQ))).mono ?_); rintro e w2 ⟨rfl, hb⟩; replace hQ := box_on hQ hb; replace hx4 := box_four hQ; replace hz := box_size hQ; dsimp only))
    go_upto_region 6 with (fail)
    obtain ⟨Y, hY⟩ : ∃ Y : World, Y = w3.alloc (.cells #[.slice ac K.claimants.length cc, .slice az' K.sums.length cz', .slice aw' K.words.length cw', .slice none 0 0] 27) := ⟨_, rfl⟩
    rw [← hY]
    have HbY : Below w3.heap.size w3 Y := by rw [hY]; exact (Below.refl _ _).alloc (Nat.le_refl _) _
    have hYo : TOut Y w3.heap.size (.slice ac K.claimants.length cc) (.slice az' K.sums.length cz') (.slice aw' K.words.length cw') (.slice none 0 0) := by rw [hY]; exact alloc_at _ _ rfl
    clear hY hx4 hz
    have hlT := hst.len
    have hBw3 : Below w.heap.size w w3 := box_old hQ
    have hw3 : w.heap.size ≤ w3.heap.size := hBw3.size
    go_wp2
    go_loopw [10] (fun i wr => ∃ (k : Nat) (ap' : Option Addr) (cp' : Nat), k ≤ T.length ∧ i = .int .i64 k ∧ IntsC wr at_ T ∧ TOut wr w3.heap.size (.slice ac K.claimants.length cc) (.slice az' K.sums.length cz') (.slice aw' K.words.length cw') (.slice ap' (paidTo T k).length cp') ∧ ListC wr ac az' aw' ap' cc cz' cw' cp' (withPaid K (paidTo T k)) ∧ Below w.heap.size w wr) (fun i _ => T.length - (intOf i).toNat)
    case atStart => exact ⟨0, none, 0, Nat.zero_le _, rfl, hit.mono HbY, hYo, list_paid2 (hK.mono HbY) hYo (fun b _ => rfl) (Nat.le_refl _) ⟨Nat.le_refl _, by omega, fun _ => rfl⟩ (paid_none _), hBw3.trans (HbY.mono hw3)⟩
    case round =>
      clear hYo HbY hK hit
      obtain ⟨k, ap', cp', hk, rfl, hit, hSo, hK, hB⟩ := hrel
      rename World => U
      have hx4 : U.cell? ⟨w3.heap.size, 0, none⟩ = some (.slice ac K.claimants.length cc) ∧ U.cell? ⟨w3.heap.size, 1, none⟩ = some (.slice az' K.sums.length cz') ∧ U.cell? ⟨w3.heap.size, 2, none⟩ = some (.slice aw' K.words.length cw') ∧ U.cell? ⟨w3.heap.size, 3, none⟩ = some (.slice ap' (paidTo T k).length cp') := ⟨blk_cell 0 hSo rfl, blk_cell 1 hSo rfl, blk_cell 2 hSo rfl, blk_cell 3 hSo rfl⟩
      have hz := lt_of_block hSo
      by_cases hlt : k < T.length
      · obtain ⟨WH, hF, hh, hp⟩ := PF.out k hlt
        have hti : T[k]?.getD 0 = T[k] := by rw [List.getElem?_eq_getElem hlt]; rfl
        rw [hti] at hh hp
        have htk := Lib.hid (paidTo_succ T k hlt)
        obtain ⟨bt, ot, rfl, hbt, hct⟩ := hit k hlt
        generalize T[k] = ti at hh hp htk hct
        have hl1 : (paidTo T k).length ≤ 5 := by rw [paidTo_len]; omega
        generalize hL2 : paidTo T (k + 1) = L2 at htk
        generalize paidTo T k = L1 at htk hl1 hK hSo hx4 hF hp
        replace hF := Lib.hid hF
        replace hh := Lib.hid hh
        obtain ⟨pc, pe, hpp, hpb⟩ : ∃ pc pe : Int, payOf (withPaid K L1) k = (pc, pe) ∧ ((pe = 0 ∧ (pc != ti) = false) ∨ (pe = 9 ∧ pc = 0)) := by
          rcases hp with ⟨c, h1, h2⟩ | h1
          · exact ⟨c, 0, h1, .inl ⟨rfl, nei_f h2.symm⟩⟩
          · exact ⟨0, 9, h1, .inr ⟨rfl, rfl⟩⟩
        clear hp hti hk
        replace hpp := Lib.hid hpp
        have hki : (0 : Int) ≤ (k : Int) := by omega
        have hkl : (k : Int) < (T.length : Int) := by omega
        rcases hpb with ⟨rfl, hpb⟩ | ⟨rfl, rfl⟩
        all_goals
          go_upto_region 13 with (first
            | (go_at_call 44; (with_reducible refine (Has_is _ _ _ _ _ _ hh.out o4.len i4).mono ?_); rintro e w7 ⟨rfl, rfl⟩; dsimp only)
            | (go_at_call 21; (with_reducible refine (A_ForP _ _ _ _ _ _ _ _ K L1 k WH 0 hF.out _ hK).mono ?_); rintro e V ⟨a4, c4, rfl, o4, i4, hb⟩; replace hB := hB.trans (hb.mono hB.size); replace hct := cell_below hb hct; replace hbt := lt_of_cell hct; replace hit := hit.mono hb; replace hSo := blk_below hb hz hSo; replace hK := hK.mono hb; replace hx4 := (⟨blk_cell 0 hSo rfl, blk_cell 1 hSo rfl, blk_cell 2 hSo rfl, blk_cell 3 hSo rfl⟩ : V.cell? ⟨w3.heap.size, 0, none⟩ = some (.slice ac K.claimants.length cc) ∧ V.cell? ⟨w3.heap.size, 1, none⟩ = some (.slice az' K.sums.length cz') ∧ V.cell? ⟨w3.heap.size, 2, none⟩ = some (.slice aw' K.words.length cw') ∧ V.cell? ⟨w3.heap.size, 3, none⟩ = some (.slice ap' L1.length cp')); replace hz := lt_of_block hSo; dsimp only)
            | (go_at_call 24; (with_reducible refine (A_PayP _ _ _ _ _ _ _ _ K L1 k _ _ hpp.out _ hK).mono ?_); rintro e w4 ⟨rfl, hb⟩; replace hB := hB.trans (hb.mono hB.size); replace hct := cell_below hb hct; replace hbt := lt_of_cell hct; replace hit := hit.mono hb; replace hSo := blk_below hb hz hSo; replace hK := hK.mono hb; replace hx4 := (⟨blk_cell 0 hSo rfl, blk_cell 1 hSo rfl, blk_cell 2 hSo rfl, blk_cell 3 hSo rfl⟩ : w4.cell? ⟨w3.heap.size, 0, none⟩ = some (.slice ac K.claimants.length cc) ∧ w4.cell? ⟨w3.heap.size, 1, none⟩ = some (.slice az' K.sums.length cz') ∧ w4.cell? ⟨w3.heap.size, 2, none⟩ = some (.slice aw' K.words.length cw') ∧ w4.cell? ⟨w3.heap.size, 3, none⟩ = some (.slice ap' L1.length cp')); replace hz := lt_of_block hSo; dsimp only))
          clear o4 i4
          have k1 := hx4.2.2.2
          have hVo := hSo
          have zoV := hz
          have hsz := hK.okp
          have hzV := hK.paid
          have SF : Hid (∀ W, Below V.heap.size V W → (fun W => Below V.heap.size V W ∧ W.cell? ⟨w3.heap.size, 3, none⟩ = some (.slice ap' L1.length cp') ∧ W.cell? ⟨bt, ot + k, none⟩ = some (.int .i64 ti) ∧ w3.heap.size < W.heap.size ∧ bt < W.heap.size) W) := Lib.hid (fun W h => by
            have k2 := cell_below h k1
            have k3 := cell_below h hct
            exact ⟨h, k2, k3, lt_of_cell k2, lt_of_cell k3⟩)
          refine wp_region_z (fun W => Below V.heap.size V W ∧ W.cell? ⟨w3.heap.size, 3, none⟩ = some (.slice ap' L1.length cp') ∧ W.cell? ⟨bt, ot + k, none⟩ = some (.int .i64 ti) ∧ w3.heap.size < W.heap.size ∧ bt < W.heap.size) 13 (by kernel_rfl) (SF.out V.drew (by (repeat' (first | assumption | exact Below.refl _ _ | refine Below.drew ?_ | refine Below.alloc ?_ (by first | omega | (simp <;> omega)) _)))) (fun hHeld => ?_)
          clear hx4
          (refine wpZ_take (i := 1) (v := ?_) rfl (by kernel_rfl) (by kernel_rfl) (by kernel_rfl) (by kernel_rfl) (fun _ _ _ h => h) (Or.inl ⟨by kernel_rfl, ?_⟩) (by assumption) ?_; rotate_left 1; (focus (intro w hSw; (try dsimp only at hSw); go_simp; first | done | with_reducible rfl)); simp only [Act.put, List.getElem_toArray, List.getElem_cons_succ, List.getElem_cons_zero, List.setIfInBounds_toArray, List.set_cons_succ, List.set_cons_zero])
          (refine wpZ_take (i := 2) (v := ?_) rfl (by kernel_rfl) (by kernel_rfl) (by kernel_rfl) (by kernel_rfl) (fun _ _ _ h => h) (Or.inl ⟨by kernel_rfl, ?_⟩) (by assumption) ?_; rotate_left 1; (focus (intro w hSw; (try dsimp only at hSw); go_simp; first | done | with_reducible rfl)); simp only [Act.put, List.getElem_toArray, List.getElem_cons_succ, List.getElem_cons_zero, List.setIfInBounds_toArray, List.set_cons_succ, List.set_cons_zero])
          (refine wpZ_take (i := 4) (v := ?_) rfl (by kernel_rfl) (by kernel_rfl) (by kernel_rfl) (by kernel_rfl) (fun _ _ _ h => h) (Or.inl ⟨by kernel_rfl, ?_⟩) (by assumption) ?_; rotate_left 1; (focus (intro w hSw; (try dsimp only at hSw); go_simp; first | done | with_reducible rfl)); simp only [Act.put, List.getElem_toArray, List.getElem_cons_succ, List.getElem_cons_zero, List.setIfInBounds_toArray, List.set_cons_succ, List.set_cons_zero])
          (refine wpZ_take (i := 5) (v := ?_) rfl (by kernel_rfl) (by kernel_rfl) (by kernel_rfl) (by kernel_rfl) (fun _ _ _ h => h) (Or.inl ⟨by kernel_rfl, ?_⟩) (by assumption) ?_; rotate_left 1; (focus (intro w hSw; (try dsimp only at hSw); go_simp; first | done | with_reducible rfl)); simp only [Act.put, List.getElem_toArray, List.getElem_cons_succ, List.getElem_cons_zero, List.setIfInBounds_toArray, List.set_cons_succ, List.set_cons_zero])
          (refine wpZ_take (i := 6) (v := ?_) rfl (by kernel_rfl) (by kernel_rfl) (by kernel_rfl) (by kernel_rfl) (fun _ _ _ h => h) (Or.inl ⟨by kernel_rfl, ?_⟩) (by assumption) ?_; rotate_left 1; (focus (intro w hSw; (try dsimp only at hSw); go_simp; first | done | with_reducible rfl)); simp only [Act.put, List.getElem_toArray, List.getElem_cons_succ, List.getElem_cons_zero, List.setIfInBounds_toArray, List.set_cons_succ, List.set_cons_zero])
          (refine wpZ_take (i := 7) (v := ?_) rfl (by kernel_rfl) (by kernel_rfl) (by kernel_rfl) (by kernel_rfl) (fun _ _ _ h => h) (Or.inl ⟨by kernel_rfl, ?_⟩) (by assumption) ?_; rotate_left 1; (focus (intro w hSw; (try dsimp only at hSw); go_simp; first | done | with_reducible rfl)); simp only [Act.put, List.getElem_toArray, List.getElem_cons_succ, List.getElem_cons_zero, List.setIfInBounds_toArray, List.set_cons_succ, List.set_cons_zero])
          (refine wpZ_take (i := 8) (v := ?_) rfl (by kernel_rfl) (by kernel_rfl) (by kernel_rfl) (by kernel_rfl) (fun _ _ _ h => h) (Or.inl ⟨by kernel_rfl, ?_⟩) (by assumption) ?_; rotate_left 1; (focus (intro w hSw; (try dsimp only at hSw); go_simp; first | done | with_reducible rfl)); simp only [Act.put, List.getElem_toArray, List.getElem_cons_succ, List.getElem_cons_zero, List.setIfInBounds_toArray, List.set_cons_succ, List.set_cons_zero])
          (refine wpZ_take (i := 9) (v := ?_) rfl (by kernel_rfl) (by kernel_rfl) (by kernel_rfl) (by kernel_rfl) (fun _ _ _ h => h) (Or.inl ⟨by kernel_rfl, ?_⟩) (by assumption) ?_; rotate_left 1; (focus (intro w hSw; (try dsimp only at hSw); go_simp; first | done | with_reducible rfl)); simp only [Act.put, List.getElem_toArray, List.getElem_cons_succ, List.getElem_cons_zero, List.setIfInBounds_toArray, List.set_cons_succ, List.set_cons_zero])
          refine wpZ_ready (rs := [0, 10]) (by kernel_rfl) (by simp) (AllZ.cons rfl (fun K hK => ?_) (AllZ.cons rfl (fun K hK => ?_) AllZ.nil)); (focus ((go_simp; refine hK.out _ _ (fun _ => SF.out _ (by (repeat' (first | assumption | exact Below.refl _ _ | refine Below.drew ?_ | refine Below.alloc ?_ (by first | omega | (simp <;> omega)) _)))) ?_; (try simp only [Act.put, List.getElem_toArray, List.getElem_cons_succ, List.getElem_cons_zero, List.setIfInBounds_toArray, List.set_cons_succ, List.set_cons_zero]); clear hK); refine wpZ_ready (rs := [3, 10]) (by kernel_rfl) (by simp) (AllZ.cons rfl (fun K hK => ?_) (AllZ.cons rfl (fun K hK => ?_) AllZ.nil)); (focus (have hm0 : ((V.alloc (.cells #[] 66)).drew).ownsRow V.heap.size 66 2 (.slice (some ⟨V.heap.size, 0, none⟩) 0 0) 0 [] := (made_row2 (Nat.le_refl _) _ _).drew; refine step_app (.tmp 90) (.tmp 92) (v := .slice (some ⟨V.heap.size, 0, none⟩) 0 0) E_paid (by rfl) (by rfl) (by rfl) (by rfl) V.heap.size 0 L1.length [] (flatC paidCells L1) hm0 (SrcAt.paid hsz.2.2 (hzV.mono (by (repeat' (first | assumption | exact Below.refl _ _ | refine Below.drew ?_ | refine Below.alloc ?_ (by first | omega | (simp <;> omega)) _))))) (by omega) (by decide) (by first | omega | (simp [drew_heap] <;> omega)) ?_; intro v1 V1 ho1 hg1 _; (have hB1 : Below V.heap.size V V1 := app_grown (by (repeat' (first | assumption | exact Below.refl _ _ | refine Below.drew ?_ | refine Below.alloc ?_ (by first | omega | (simp <;> omega)) _))) hm0 hg1); (rw [Nat.zero_add, List.nil_append] at ho1); have hz1v := hB1.size; refine hK.out _ _ (fun _ => SF.out _ hB1) ?_; (try simp only [Act.put, List.getElem_toArray, List.getElem_cons_succ, List.getElem_cons_zero, List.setIfInBounds_toArray, List.set_cons_succ, List.set_cons_zero]); clear hK; refine wpZ_ready (rs := [10]) (by kernel_rfl) (by simp) (AllZ.cons rfl (fun K hK => ?_) AllZ.nil); (go_simp; refine hK.out _ _ (fun _ => SF.out _ (by (repeat' (first | assumption | exact Below.refl _ _ | refine Below.drew ?_ | refine Below.alloc ?_ (by first | omega | (simp <;> omega)) _)))) ?_; (try simp only [Act.put, List.getElem_toArray, List.getElem_cons_succ, List.getElem_cons_zero, List.setIfInBounds_toArray, List.set_cons_succ, List.set_cons_zero]); clear hK); have hs2 := SrcAt.pair V1 (k : Int) ti 66; refine wpZ_ready (rs := [11]) (by kernel_rfl) (by simp) (AllZ.cons rfl (fun K hK => ?_) AllZ.nil); refine step_app (.tmp 93) (.tmp 100) (v := v1) E_paid (by rfl) (by rfl) (by rfl) (by rfl) V.heap.size L1.length 1 (flatC paidCells L1) [.int .i64 (k : Int), .int .i64 ti] (by first | exact ho1 | exact ho1.alloc _) hs2 (by omega) (by decide) (by first | omega | (simp [drew_heap] <;> omega)) ?_; intro v2 V2 ho2 hg2 _; (have hB2 : Below V.heap.size V V2 := app_grown (by (repeat' (first | assumption | exact Below.refl _ _ | refine Below.drew ?_ | refine Below.alloc ?_ (by first | omega | (simp <;> omega)) _))) (by first | exact ho1 | exact ho1.alloc _) hg2); (rw [paid_snoc, ← htk.out] at ho2); (have e2 : L1.length + 1 = L2.length := by rw [htk.out]; simp); (rw [e2] at ho2); clear e2; (obtain ⟨-, a9, c9, rfl, hs9, -⟩ := paid_own ho2); (have hc2 : V2.heap[w3.heap.size]? = _ := (hB2.block _ zoV).trans hVo); have hHeld2 := SF.out _ hB2; refine hK.out _ _ (fun _ => hHeld2) ?_; (try simp only [Act.put, List.getElem_toArray, List.getElem_cons_succ, List.getElem_cons_zero, List.setIfInBounds_toArray, List.set_cons_succ, List.set_cons_zero]); clear hK; (refine wpZ_take (i := 12) (v := ?_) rfl (by kernel_rfl) (by kernel_rfl) (by kernel_rfl) (by kernel_rfl) (fun _ _ _ h => h) (Or.inl ⟨by kernel_rfl, ?_⟩) (by assumption) ?_; rotate_left 1; (focus (intro w hSw; (try dsimp only at hSw); go_simp; first | done | with_reducible rfl)); simp only [Act.put, List.getElem_toArray, List.getElem_cons_succ, List.getElem_cons_zero, List.setIfInBounds_toArray, List.set_cons_succ, List.set_cons_zero]); have k2 : V2.cell? ⟨w3.heap.size, 3, none⟩ = some (.slice ap' L1.length cp') := blk_cell 3 hc2 rfl; have k3 := blk_free 3 hc2; have zo2 := lt_of_block hc2; refine wpZ_ready (rs := [13]) (by kernel_rfl) (by simp) (AllZ.cons rfl (fun K hK => ?_) AllZ.nil); (go_simp; refine hK.out _ _ (fun h => absurd rfl h) ?_; (try simp only [Act.put, List.getElem_toArray, List.getElem_cons_succ, List.getElem_cons_zero, List.setIfInBounds_toArray, List.set_cons_succ, List.set_cons_zero]); clear hK; refine wpZ_done (by kernel_rfl) ?_ _))); rotate_left 1; (focus ((go_simp; refine hK.out _ _ (fun _ => SF.out _ (by (repeat' (first | assumption | exact Below.refl _ _ | refine Below.drew ?_ | refine Below.alloc ?_ (by first | omega | (simp <;> omega)) _)))) ?_; (try simp only [Act.put, List.getElem_toArray, List.getElem_cons_succ, List.getElem_cons_zero, List.setIfInBounds_toArray, List.set_cons_succ, List.set_cons_zero]); clear hK); refine wpZ_ready (rs := [3]) (by kernel_rfl) (by simp) (AllZ.cons rfl (fun K hK => ?_) AllZ.nil); have hm0 : (((V.alloc (.cells #[] 66)).alloc (.cells #[.int .i64 (k : Int), .int .i64 ti] 66)).drew).ownsRow V.heap.size 66 2 (.slice (some ⟨V.heap.size, 0, none⟩) 0 0) 0 [] := ((made_row2 (Nat.le_refl _) _ _).alloc _).drew; have hsr : SrcAt (((V.alloc (.cells #[] 66)).alloc (.cells #[.int .i64 (k : Int), .int .i64 ti] 66)).drew) (.slice (some ⟨V.heap.size + 1, 0, none⟩) 1 1) 1 2 [.int .i64 (k : Int), .int .i64 ti] := (by have h := (SrcAt.pair (V.alloc (.cells #[] 66)) (k : Int) ti 66).below (below_drew' (Below.refl _ _)); rwa [show (V.alloc (.cells #[] 66)).heap.size = V.heap.size + 1 from by simp] at h); refine step_app (.tmp 90) (.tmp 92) (v := .slice (some ⟨V.heap.size, 0, none⟩) 0 0) E_paid (by rfl) (by rfl) (by rfl) (by rfl) V.heap.size 0 L1.length [] (flatC paidCells L1) hm0 (SrcAt.paid hsz.2.2 (hzV.mono (by (repeat' (first | assumption | exact Below.refl _ _ | refine Below.drew ?_ | refine Below.alloc ?_ (by first | omega | (simp <;> omega)) _))))) (by omega) (by decide) (by first | omega | (simp [drew_heap] <;> omega)) ?_; intro v1 V1 ho1 hg1 _; (have hB1 : Below V.heap.size V V1 := app_grown (by (repeat' (first | assumption | exact Below.refl _ _ | refine Below.drew ?_ | refine Below.alloc ?_ (by first | omega | (simp <;> omega)) _))) hm0 hg1); (rw [Nat.zero_add, List.nil_append] at ho1); have hz1v := hB1.size; refine hK.out _ _ (fun _ => SF.out _ hB1) ?_; (try simp only [Act.put, List.getElem_toArray, List.getElem_cons_succ, List.getElem_cons_zero, List.setIfInBounds_toArray, List.set_cons_succ, List.set_cons_zero]); clear hK; have hs2 := src_grown hsr hg1 (by simp [Value.ownBlock]); refine wpZ_ready (rs := [11]) (by kernel_rfl) (by simp) (AllZ.cons rfl (fun K hK => ?_) AllZ.nil); refine step_app (.tmp 93) (.tmp 100) (v := v1) E_paid (by rfl) (by rfl) (by rfl) (by rfl) V.heap.size L1.length 1 (flatC paidCells L1) [.int .i64 (k : Int), .int .i64 ti] (by first | exact ho1 | exact ho1.alloc _) hs2 (by omega) (by decide) (by first | omega | (simp [drew_heap] <;> omega)) ?_; intro v2 V2 ho2 hg2 _; (have hB2 : Below V.heap.size V V2 := app_grown (by (repeat' (first | assumption | exact Below.refl _ _ | refine Below.drew ?_ | refine Below.alloc ?_ (by first | omega | (simp <;> omega)) _))) (by first | exact ho1 | exact ho1.alloc _) hg2); (rw [paid_snoc, ← htk.out] at ho2); (have e2 : L1.length + 1 = L2.length := by rw [htk.out]; simp); (rw [e2] at ho2); clear e2; (obtain ⟨-, a9, c9, rfl, hs9, -⟩ := paid_own ho2); (have hc2 : V2.heap[w3.heap.size]? = _ := (hB2.block _ zoV).trans hVo); have hHeld2 := SF.out _ hB2; refine hK.out _ _ (fun _ => hHeld2) ?_; (try simp only [Act.put, List.getElem_toArray, List.getElem_cons_succ, List.getElem_cons_zero, List.setIfInBounds_toArray, List.set_cons_succ, List.set_cons_zero]); clear hK; (refine wpZ_take (i := 12) (v := ?_) rfl (by kernel_rfl) (by kernel_rfl) (by kernel_rfl) (by kernel_rfl) (fun _ _ _ h => h) (Or.inl ⟨by kernel_rfl, ?_⟩) (by assumption) ?_; rotate_left 1; (focus (intro w hSw; (try dsimp only at hSw); go_simp; first | done | with_reducible rfl)); simp only [Act.put, List.getElem_toArray, List.getElem_cons_succ, List.getElem_cons_zero, List.setIfInBounds_toArray, List.set_cons_succ, List.set_cons_zero]); have k2 : V2.cell? ⟨w3.heap.size, 3, none⟩ = some (.slice ap' L1.length cp') := blk_cell 3 hc2 rfl; have k3 := blk_free 3 hc2; have zo2 := lt_of_block hc2; refine wpZ_ready (rs := [13]) (by kernel_rfl) (by simp) (AllZ.cons rfl (fun K hK => ?_) AllZ.nil); (go_simp; refine hK.out _ _ (fun h => absurd rfl h) ?_; (try simp only [Act.put, List.getElem_toArray, List.getElem_cons_succ, List.getElem_cons_zero, List.setIfInBounds_toArray, List.set_cons_succ, List.set_cons_zero]); clear hK; refine wpZ_done (by kernel_rfl) ?_ _))))); rotate_left 2; (focus ((go_simp; refine hK.out _ _ (fun _ => SF.out _ (by (repeat' (first | assumption | exact Below.refl _ _ | refine Below.drew ?_ | refine Below.alloc ?_ (by first | omega | (simp <;> omega)) _)))) ?_; (try simp only [Act.put, List.getElem_toArray, List.getElem_cons_succ, List.getElem_cons_zero, List.setIfInBounds_toArray, List.set_cons_succ, List.set_cons_zero]); clear hK); refine wpZ_ready (rs := [0]) (by kernel_rfl) (by simp) (AllZ.cons rfl (fun K hK => ?_) AllZ.nil); (go_simp; refine hK.out _ _ (fun _ => SF.out _ (by (repeat' (first | assumption | exact Below.refl _ _ | refine Below.drew ?_ | refine Below.alloc ?_ (by first | omega | (simp <;> omega)) _)))) ?_; (try simp only [Act.put, List.getElem_toArray, List.getElem_cons_succ, List.getElem_cons_zero, List.setIfInBounds_toArray, List.set_cons_succ, List.set_cons_zero]); clear hK); refine wpZ_ready (rs := [3]) (by kernel_rfl) (by simp) (AllZ.cons rfl (fun K hK => ?_) AllZ.nil); have hm0 : (((V.alloc (.cells #[.int .i64 (k : Int), .int .i64 ti] 66)).alloc (.cells #[] 66)).drew).ownsRow V.heap.size 66 2 (.slice (some ⟨V.heap.size + 1, 0, none⟩) 0 0) 0 [] := (by have h := (made_row2 (B := V.heap.size) (W := V.alloc (.cells #[.int .i64 (k : Int), .int .i64 ti] 66)) (by simp) 66 2).drew; rwa [show (V.alloc (.cells #[.int .i64 (k : Int), .int .i64 ti] 66)).heap.size = V.heap.size + 1 from by simp] at h); have hsr : SrcAt (((V.alloc (.cells #[.int .i64 (k : Int), .int .i64 ti] 66)).alloc (.cells #[] 66)).drew) (.slice (some ⟨V.heap.size, 0, none⟩) 1 1) 1 2 [.int .i64 (k : Int), .int .i64 ti] := (SrcAt.pair V (k : Int) ti 66).below (below_drew' (al_on _ _)); refine step_app (.tmp 90) (.tmp 92) (v := .slice (some ⟨V.heap.size + 1, 0, none⟩) 0 0) E_paid (by rfl) (by rfl) (by rfl) (by rfl) V.heap.size 0 L1.length [] (flatC paidCells L1) hm0 (SrcAt.paid hsz.2.2 (hzV.mono (by (repeat' (first | assumption | exact Below.refl _ _ | refine Below.drew ?_ | refine Below.alloc ?_ (by first | omega | (simp <;> omega)) _))))) (by omega) (by decide) (by first | omega | (simp [drew_heap] <;> omega)) ?_; intro v1 V1 ho1 hg1 _; (have hB1 : Below V.heap.size V V1 := app_grown (by (repeat' (first | assumption | exact Below.refl _ _ | refine Below.drew ?_ | refine Below.alloc ?_ (by first | omega | (simp <;> omega)) _))) hm0 hg1); (rw [Nat.zero_add, List.nil_append] at ho1); have hz1v := hB1.size; refine hK.out _ _ (fun _ => SF.out _ hB1) ?_; (try simp only [Act.put, List.getElem_toArray, List.getElem_cons_succ, List.getElem_cons_zero, List.setIfInBounds_toArray, List.set_cons_succ, List.set_cons_zero]); clear hK; have hs2 := src_grown hsr hg1 (by simp [Value.ownBlock]); refine wpZ_ready (rs := [11]) (by kernel_rfl) (by simp) (AllZ.cons rfl (fun K hK => ?_) AllZ.nil); refine step_app (.tmp 93) (.tmp 100) (v := v1) E_paid (by rfl) (by rfl) (by rfl) (by rfl) V.heap.size L1.length 1 (flatC paidCells L1) [.int .i64 (k : Int), .int .i64 ti] (by first | exact ho1 | exact ho1.alloc _) hs2 (by omega) (by decide) (by first | omega | (simp [drew_heap] <;> omega)) ?_; intro v2 V2 ho2 hg2 _; (have hB2 : Below V.heap.size V V2 := app_grown (by (repeat' (first | assumption | exact Below.refl _ _ | refine Below.drew ?_ | refine Below.alloc ?_ (by first | omega | (simp <;> omega)) _))) (by first | exact ho1 | exact ho1.alloc _) hg2); (rw [paid_snoc, ← htk.out] at ho2); (have e2 : L1.length + 1 = L2.length := by rw [htk.out]; simp); (rw [e2] at ho2); clear e2; (obtain ⟨-, a9, c9, rfl, hs9, -⟩ := paid_own ho2); (have hc2 : V2.heap[w3.heap.size]? = _ := (hB2.block _ zoV).trans hVo); have hHeld2 := SF.out _ hB2; refine hK.out _ _ (fun _ => hHeld2) ?_; (try simp only [Act.put, List.getElem_toArray, List.getElem_cons_succ, List.getElem_cons_zero, List.setIfInBounds_toArray, List.set_cons_succ, List.set_cons_zero]); clear hK; (refine wpZ_take (i := 12) (v := ?_) rfl (by kernel_rfl) (by kernel_rfl) (by kernel_rfl) (by kernel_rfl) (fun _ _ _ h => h) (Or.inl ⟨by kernel_rfl, ?_⟩) (by assumption) ?_; rotate_left 1; (focus (intro w hSw; (try dsimp only at hSw); go_simp; first | done | with_reducible rfl)); simp only [Act.put, List.getElem_toArray, List.getElem_cons_succ, List.getElem_cons_zero, List.setIfInBounds_toArray, List.set_cons_succ, List.set_cons_zero]); have k2 : V2.cell? ⟨w3.heap.size, 3, none⟩ = some (.slice ap' L1.length cp') := blk_cell 3 hc2 rfl; have k3 := blk_free 3 hc2; have zo2 := lt_of_block hc2; refine wpZ_ready (rs := [13]) (by kernel_rfl) (by simp) (AllZ.cons rfl (fun K hK => ?_) AllZ.nil); (go_simp; refine hK.out _ _ (fun h => absurd rfl h) ?_; (try simp only [Act.put, List.getElem_toArray, List.getElem_cons_succ, List.getElem_cons_zero, List.setIfInBounds_toArray, List.set_cons_succ, List.set_cons_zero]); clear hK; refine wpZ_done (by kernel_rfl) ?_ _)))
          all_goals
            go_wp2
            go_roundw
            case rel =>
              have hz2 : V2.heap.size ≤ (V2.setCell ⟨w3.heap.size, 3, none⟩ (.slice a9 L2.length c9)).heap.size := by simp
              refine ⟨k + 1, a9, c9, by omega, by go_num, ?_, ?_, ?_, ?_⟩
              · exact (hit.mono hB2).set hc2 (fun b hb => Below.heap_setCell _ _ _ _ hb) hz2
              · rw [hL2]; exact blk_set 3 _ hc2
              · rw [hL2]
                have h := ownsRow_setCell_other ho2 (a := ⟨w3.heap.size, 3, none⟩) (fun e => by have h1 := (ho2.lt _ e).1; simp only at h1; omega) (.slice a9 L2.length c9)
                obtain ⟨_, a8, c8, e8, hs8, hw8⟩ := paid_own h
                cases e8
                exact list_paid2 (hK.mono hB2) hc2 (fun b hb => Below.heap_setCell _ _ _ _ hb) hz2 hs8 hw8
              · exact (hB.trans (hB2.mono hB.size)).setCell hw3 _
            case measure => simp [intOf]; omega
      · obtain rfl : k = T.length := by omega
        go_wp2_with (first
          | (go_at_call 23; (with_reducible refine (Awake_any _).mono ?_); rintro e w9 ⟨rfl, hb⟩; replace hB := hB.trans (hb.mono hB.size); dsimp only)
          | (go_at_call 52; (with_reducible refine (Less_no _ _ _ _ _ _ _ FL.out hlT o6.len hit i6).mono ?_); rintro e w8 ⟨rfl, hb⟩; replace hB := hB.trans (hb.mono hB.size); dsimp only)
          | (go_at_call 18; (with_reducible refine (A_FirstP _ _ _ _ _ _ _ _ K _ lf nf 0 FF.out _ hK).mono ?_); rintro e w7 ⟨a6, c6, rfl, o6, i6, hb⟩; replace hB := hB.trans (hb.mono hB.size); replace hit := hit.mono hb; dsimp only)
          | (go_at_call 30; (with_reducible refine (A_WrongP _ _ _ _ _ _ _ _ K _ [] 0 WF.out _ hK).mono ?_); rintro e w6 ⟨a5, c5, rfl, o5, i5, hb⟩; replace hB := hB.trans (hb.mono hB.size); replace hit := hit.mono hb; replace hSo := blk_below hb hz hSo; replace hK := hK.mono hb; replace hx4 := (⟨blk_cell 0 hSo rfl, blk_cell 1 hSo rfl, blk_cell 2 hSo rfl, blk_cell 3 hSo rfl⟩ : w6.cell? ⟨w3.heap.size, 0, none⟩ = some (.slice ac K.claimants.length cc) ∧ w6.cell? ⟨w3.heap.size, 1, none⟩ = some (.slice az' K.sums.length cz') ∧ w6.cell? ⟨w3.heap.size, 2, none⟩ = some (.slice aw' K.words.length cw') ∧ w6.cell? ⟨w3.heap.size, 3, none⟩ = some (.slice ap' (paidTo T T.length).length cp')); replace hz := lt_of_block hSo; dsimp only [List.length_nil]))
        go_ret
        exact ⟨rfl, hB⟩
  · have hF : firstOf m = ([], 0, errOf m) := by unfold firstOf; rw [if_neg (by rw [whole_bad h0]; exact h0), whole_bad h0]
    have he' := nei_t h0
    have HV := Lib.hid (fun (W : World) (h : ListC W ac az aw ap cc cz cw cp m) => Valid_no _ _ _ _ _ _ _ _ m h0 W h)
    generalize errOf m = e1 at hF he'
    replace hF := Lib.hid hF
    clear h0
    go_enter Try.func10, Try.ntmps10
    go_wp2_with (first
      | (go_at_call 23; (with_reducible refine (Awake_any _).mono ?_); rintro e w5 ⟨rfl, hb⟩; replace hQ := box_on hQ hb; replace hx4 := box_four hQ; replace hz := box_size hQ; dsimp only)
      | (go_at_call 18; (with_reducible refine (A_First _ _ _ _ _ _ _ _ m [] 0 e1 hF.out _ (hm.mono (box_old hQ))).mono ?_); rintro e w3 ⟨a1, c1, rfl, o1, i1, hb⟩; replace hQ := box_on hQ hb; replace hx4 := box_four hQ; replace hz := box_size hQ; dsimp only)
      | (go_at_call 50; (with_reducible refine (HV.out _ (hm.mono (box_old hQ))).mono ?_); rintro e w2 ⟨rfl, hb⟩; replace hQ := box_on hQ hb; replace hx4 := box_four hQ; replace hz := box_size hQ; dsimp only))
    go_ret
    exact ⟨rfl, box_old hQ⟩
end Go.Proofs.Ytnlolliankhfmaa
