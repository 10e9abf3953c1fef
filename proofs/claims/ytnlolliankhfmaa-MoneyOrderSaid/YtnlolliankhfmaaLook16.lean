/- What is proved here: the contract of money.Owed. Conditions: the list lies in memory. -/
import Derived.Test.YtnlolliankhfmaaLook15
import Derived.Test.YtnlolliankhfmaaPlain
set_option linter.unusedVariables false
set_option linter.unusedSimpArgs false
namespace Go.Proofs.Ytnlolliankhfmaa
open Go Go.RowKit

theorem owed_hid (m : MoList) (c : Int) : owedOf m c = if owedErr m c = 0 then (spanTo m (truths m) c ((truths m).length - 1), 0) else ((0, 0), owedErr m c) := rfl
theorem owed_err (m : MoList) (c : Int) : enterErr m m.claimants.length [c] = owedErr m c := enter_one m c _

theorem two_other (W : World) (b : Nat) (u v : Value) (o : Obj) (k : Nat) (h1 : k ≠ b) (h2 : k < W.heap.size) : (((W.setCell ⟨b, 0, none⟩ u).setCell ⟨b, 1, none⟩ v).alloc o).heap[k]? = W.heap[k]? := by
  rw [Below.heap_alloc _ _ _ (by simpa using h2), set_other _ _ _ _ _ h1, set_other _ _ _ _ _ h1]
theorem two_rng {W : World} {P : Program} {kt : TypeId} {b0 r b : Nat} {T rem : List (Value × Value)} (h : RngV W P kt b0 r T rem) (h1 : b0 ≠ b) (h2 : r ≠ b) (u v : Value) (o : Obj) : RngV (((W.setCell ⟨b, 0, none⟩ u).setCell ⟨b, 1, none⟩ v).alloc o) P kt b0 r T rem :=
  h.same (two_other W b u v o _ h1 h.map.lt) (two_other W b u v o _ h2 h.lt)
theorem two_blk {W : World} {b : Nat} {x y : Value} {t : TypeId} (h : W.heap[b]? = some (.cells #[x, y] t (0, 0))) (u v : Value) (o : Obj) : (((W.setCell ⟨b, 0, none⟩ u).setCell ⟨b, 1, none⟩ v).alloc o).heap[b]? = some (.cells #[u, v] t (0, 0)) := by
  rw [Below.heap_alloc _ _ _ (by simpa using lt_of_block h)]
  exact blk_set 1 _ (blk_set 0 _ h)
theorem two_below {B b : Nat} {w W : World} (h : Below B w W) (hb : B ≤ b) (hz : B ≤ W.heap.size) (u v : Value) (o : Obj) : Below B w (((W.setCell ⟨b, 0, none⟩ u).setCell ⟨b, 1, none⟩ v).alloc o) :=
  ((h.setCell hb _).setCell hb _).alloc (by simpa using hz) _

set_option maxRecDepth 100000 in
set_option maxHeartbeats 800000 in
theorem MOwed_any (ac az aw ap : Option Addr) (cc cz cw cp : Nat) (m : MoList) (c : Int) (w : World) (hm : ListC w ac az aw ap cc cz cw cp m) :
    Calls Try.prog 32 #[(.agg #[.slice ac m.claimants.length cc, .slice az m.sums.length cz, .slice aw m.words.length cw, .slice ap m.paid.length cp]), .int .i64 c] w fun e w' => e = .returned (.tuple #[.agg #[.int .i64 (owedOf m c).1.1, .int .i64 (owedOf m c).1.2], .int .i64 (owedOf m c).2]) ∧ Below w.heap.size w w' := by
  have HE := Lib.hid (owed_hid m c)
  have hQ := Below.refl (w.heap.size + 1) (w.alloc (.cells #[.slice ac m.claimants.length cc, .slice az m.sums.length cz, .slice aw m.words.length cw, .slice ap m.paid.length cp] 27))
  obtain ⟨c0, c1, c2, c3⟩ := box_four hQ
  have hbz := box_size hQ
  have l1 := hm.okc.len
  have hQ0 := hQ.alloc (by simp) (.cells #[.int .i64 0, .int .i64 0] 44)
  have hQ1 := hQ0.alloc (by simp) (.cells #[.int .i64 c] 3)
  have hI : IntsC (((w.alloc (.cells #[.slice ac m.claimants.length cc, .slice az m.sums.length cz, .slice aw m.words.length cw, .slice ap m.paid.length cp] 27)).alloc (.cells #[.int .i64 0, .int .i64 0] 44)).alloc (.cells #[.int .i64 c] 3)) (some ⟨w.heap.size + 1 + 1, 0, none⟩) [c] := by
    have := one_ints ((w.alloc (.cells #[.slice ac m.claimants.length cc, .slice az m.sums.length cz, .slice aw m.words.length cw, .slice ap m.paid.length cp] 27)).alloc (.cells #[.int .i64 0, .int .i64 0] 44)) c 3
    rwa [show ((w.alloc (.cells #[.slice ac m.claimants.length cc, .slice az m.sums.length cz, .slice aw m.words.length cw, .slice ap m.paid.length cp] 27)).alloc (.cells #[.int .i64 0, .int .i64 0] 44)).heap.size = w.heap.size + 1 + 1 by simp] at this
  have C := MEnter_any ac az aw ap cc cz cw cp m m.claimants.length _ [c] 1 _ (hm.mono (box_old hQ1)) (by omega) (by omega) (by simp) hI
  rw [owed_err] at C
  have C := Lib.hid C
  clear hI
  have HV := Lib.hid (fun h : owedErr m c = 0 => owed_valid h)
  have hT1 : (((w.alloc (.cells #[.slice ac m.claimants.length cc, .slice az m.sums.length cz, .slice aw m.words.length cw, .slice ap m.paid.length cp] 27)).alloc (.cells #[.int .i64 0, .int .i64 0] 44)).alloc (.cells #[.int .i64 c] 3)).heap[w.heap.size + 1]? = some (.cells #[.int .i64 0, .int .i64 0] 44 (0, 0)) := by
    rw [Below.heap_alloc _ _ _ (by simp)]
    have := blk_new (w.alloc (.cells #[.slice ac m.claimants.length cc, .slice az m.sums.length cz, .slice aw m.words.length cw, .slice ap m.paid.length cp] 27)) (.cells #[.int .i64 0, .int .i64 0] 44 (0, 0))
    rwa [show (w.alloc (.cells #[.slice ac m.claimants.length cc, .slice az m.sums.length cz, .slice aw m.words.length cw, .slice ap m.paid.length cp] 27)).heap.size = w.heap.size + 1 by simp] at this
  generalize owedOf m c = r at HE ⊢
  generalize owedErr m c = er at C HE HV
  by_cases he : er = 0
  · have g1 := nei_f he
    have HE := Lib.hid (HE.out.trans (if_pos he))
    obtain ⟨hv, hpos, hs0, hs1⟩ := HV.out he
    obtain ⟨i, rfl⟩ : ∃ i : Nat, c = i := ⟨c.toNat, by omega⟩
    have h4 := hv.nc
    have hi : i < 4 := by omega
    have hi4 : (i : Int) < 4 := by omega
    have HX := Lib.hid he
    have HSP := Lib.hid (spanTo_all m (truths m) i hpos)
    have HL := Lib.hid (truths_len m)
    have HTM := Lib.hid (show (truths m).length ≤ 1024 from truths_many m hv.nc _ hv.nz)
    have HN := Lib.hid (look_none m)
    clear he
    generalize hTT : truths m = T at HE HSP HL HTM hpos
    have HTT := Lib.hid hTT
    clear hTT
    go_enter Try.func32, Try.ntmps32
    go_wp2_with (first
      | (at_range; refine wpList_range_v rfl (.tmp 28) _ rfl _ _ rfl bo _ rfl hM ?_; intro o' hrg; go_frame)
      | (go_at_call 74; go_must (refine C.out.mono ?_; rintro e w2 ⟨v2, rfl, h2, hb2⟩; obtain ⟨bm, bo, rfl, hLW⟩ := h2 HX.out; have hL := hLW.blk; have hM := hLW.map; rw [HN.out, HTT.out] at hL hM; have hQ2 := box_two hQ1 hb2; have hcm := hL.cells.2.2.2.2.2; have hbm := hL.lt; have hT := blk_below hb2 (lt_of_block hT1) hT1; have htl := lt_of_block hT; dsimp only)))
    have hz2 : w.heap.size + 1 ≤ w2.heap.size := by have := hQ2.size; simpa using this
    have hW := hQ2.alloc hz2 o'
    have hT6 : (w2.alloc o').heap[w.heap.size + 1]? = some (.cells #[.int .i64 0, .int .i64 0] 44 (0, 0)) := (Below.heap_alloc _ _ _ htl).trans hT
    have hrw : w2.heap.size < (w2.alloc o').heap.size := by simp
    have hrt : w.heap.size + 1 ≠ w2.heap.size := by omega
    have hbt : bo ≠ w.heap.size + 1 := fun e => by
      have h1 := hM.lt
      obtain ⟨es, cl, hbb, _⟩ := hM
      rw [e, hT] at hbb
      cases hbb
    generalize (w2.alloc o') = W at hrg hW hT6 hrw
    have HRT := Lib.hid hrt
    have HBT := Lib.hid hbt
    clear hrt hbt
    obtain ⟨ri, hri⟩ : ∃ ri, ri = w2.heap.size := ⟨_, rfl⟩
    rw [← hri] at hrg HRT hrw
    have HRI := Lib.hid hri
    rw [← hri]
    clear hri
    go_loopw [7] (fun f wr => ∃ (pre rem : List (List Int)) (lo hi : Int) (b : Bool), f = .bool b ∧ Hid (b = true ↔ pre = []) ∧ (pre ++ rem).Perm T ∧ SpanL (fun t => dueOf m t i) pre lo hi ∧ RngV wr Try.prog 96 bo ri (ents m T) (rem.map fun t => (five (pad 5 t), four m t)) ∧ wr.heap[w.heap.size + 1]? = some (.cells #[.int .i64 lo, .int .i64 hi] 44 (0, 0)) ∧ Below (w.heap.size + 1) (w.alloc (.cells #[.slice ac m.claimants.length cc, .slice az m.sums.length cz, .slice aw m.words.length cw, .slice ap m.paid.length cp] 27)) wr) (fun _ wr => wr.rangeLeft bo ri)
    case atStart => exact ⟨[], T, 0, 0, true, rfl, Lib.hid (by simp), by simp, fun h => absurd rfl h, hrg, hT6, hW⟩
    case round =>
      obtain ⟨pre, rem, lo, hi, b, rfl, hb, hperm, hspan, hrg1, hT7, hQ3⟩ := hrel
      have hz3 : w.heap.size + 1 ≤ wr.heap.size := by have := hQ3.size; simpa using this
      have htl3 := lt_of_block hT7
      go_wp2_with (at_next; refine wpList_next_v rfl (.tmp 29) rfl _ (fun t => five (pad 5 t)) (fun t => four m t) bo ri _ rem rfl hrg1 ?_ ?_)
      · intro h0
        subst h0
        rw [List.append_nil] at hperm
        have hTne : T ≠ [] := fun e => by subst e; simp at hpos
        have hE := Lib.hid (span_eq hperm hTne hspan HSP.out)
        have t0 := blk_cell 0 hT7 rfl
        have t1 := blk_cell 1 hT7 rfl
        have f0 := blk_free 0 hT7
        have f1 := blk_free 1 hT7
        simp only [List.getElem_toArray, List.getElem_cons_zero, List.getElem_cons_succ] at t0 t1
        clear hperm hspan hTne hb hT7
        go_wp2
        (try simp only [Exit.inBlock, Exit.then])
        refine bodyPost_ret (v := .tuple #[.agg #[.int .i64 lo, .int .i64 hi], .int .i64 0]) ?_ rfl ⟨?_, ?_⟩
        · rw [results_cell_tmp rfl]
          go_simp
        · rw [HE.out, ← hE.out.1, ← hE.out.2]
        · exact ((box_old hQ3).setCell (by simp) _).setCell (by simp) _
      · intro x rem' w3 hp hrg3 hg3 hs3 hen
        have hperm3 := (List.Perm.append_left pre hp).symm.trans hperm
        have hxT : x ∈ T := hperm3.mem_iff.1 (by simp)
        have hxl := HL.out x hxT
        have hT3 : w3.heap[w.heap.size + 1]? = some (.cells #[.int .i64 lo, .int .i64 hi] 44 (0, 0)) := (hg3.block _ htl3 (fun e => HRT.out (Option.some.inj e))).trans hT7
        have hQ4 : Below (w.heap.size + 1) (w.alloc (.cells #[.slice ac m.claimants.length cc, .slice az m.sums.length cz, .slice aw m.words.length cw, .slice ap m.paid.length cp] 27)) w3 := hQ3.grown hg3 hz3 (fun k e => by have := Option.some.inj e; have := HRI.out; omega)
        have hz4 : w.heap.size + 1 ≤ w3.heap.size := by have := hQ4.size; simpa using this
        have hd : Hid (dueTo m (pad 5 x) i m.sums.length = dueOf m x i) := by show _ = _; unfold dueOf; rw [dueTo_pad m x i 5 _ (by omega), hxl]
        have hP4 := Lib.hid (show ((pre ++ [x]) ++ rem').Perm T from by simpa using hperm3)
        have hLR := Lib.hid (show rem.length = rem'.length + 1 from by simpa using hp.length_eq)
        have hml := Lib.hid hrg1.left_eq
        clear hperm hperm3 hp hxT hxl hrg1 hQ3 hT7
        have hda := duesTo_at m (pad 5 x) m.sums.length i (by omega)
        rw [hd.out] at hda
        unfold duesTo at hda
        clear hd
        have hspan1 : pre = [] → SpanL (fun t => dueOf m t i) (pre ++ [x]) (dueOf m x i) (dueOf m x i) := fun e => by subst e; exact span_one (fun t => dueOf m t i) x
        have hspan2 : pre ≠ [] → SpanL (fun t => dueOf m t i) (pre ++ [x]) (min lo (dueOf m x i)) (max hi (dueOf m x i)) := fun e => span_more (f := fun t => dueOf m t i) e hspan x
        clear hspan
        generalize dueOf m x i = n at hda hspan1 hspan2
        obtain ⟨v0, hv0⟩ : ∃ v0, v0 = dueTo m (pad 5 x) 0 m.sums.length := ⟨_, rfl⟩
        obtain ⟨v1, hv1⟩ : ∃ v1, v1 = dueTo m (pad 5 x) 1 m.sums.length := ⟨_, rfl⟩
        obtain ⟨v2, hv2⟩ : ∃ v2, v2 = dueTo m (pad 5 x) 2 m.sums.length := ⟨_, rfl⟩
        obtain ⟨v3, hv3⟩ : ∃ v3, v3 = dueTo m (pad 5 x) 3 m.sums.length := ⟨_, rfl⟩
        have hfx : four m x = .agg #[.int .i64 v0, .int .i64 v1, .int .i64 v2, .int .i64 v3] := by rw [hv0, hv1, hv2, hv3]
        rw [← hv0, ← hv1, ← hv2, ← hv3] at hda
        rw [hfx] at hen ⊢
        clear hv0 hv1 hv2 hv3 hfx
        have hcn : (w3.alloc (.cells #[.int .i64 v0, .int .i64 v1, .int .i64 v2, .int .i64 v3] 115)).cell? ⟨w3.heap.size, i, none⟩ = some (.int .i64 n) := box_cell (Below.refl _ _) i _ (by
          have : (#[Value.int .i64 v0, .int .i64 v1, .int .i64 v2, .int .i64 v3] : Array Value)[i]? = (([v0, v1, v2, v3] : List Int).map (Value.int .i64))[i]? := by simp
          rw [this, List.getElem?_map, hda]; rfl)
        have HS3 := Lib.hid hs3
        have htl4 := lt_of_block hT3
        have t0 := blk_cell 0 hT3 rfl
        have t1 := blk_cell 1 hT3 rfl
        have f0 := blk_free 0 hT3
        have f1 := blk_free 1 hT3
        simp only [List.getElem_toArray, List.getElem_cons_zero, List.getElem_cons_succ] at t0 t1
        have H1 := Lib.hid hspan1
        have H2 := Lib.hid hspan2
        clear hs3 hda hspan1 hspan2
        cases b
        · have H2 := Lib.hid (H2.out (fun e => by have := hb.out.2 e; cases this))
          go_wp2_with (first | (refine wpList_entry_v rfl (.tmp 29) rfl _ ri rfl hen ?_; go_frame))
          have hR := two_rng hrg3 HBT.out (fun e => HRT.out e.symm) (.int .i64 (if n < lo then n else lo)) (.int .i64 (if hi < n then n else hi)) (.cells #[.int .i64 v0, .int .i64 v1, .int .i64 v2, .int .i64 v3] 115)
          have e1 : (if n < lo then n else lo) = min lo n := by split <;> omega
          have e2 : (if hi < n then n else hi) = max hi n := by split <;> omega
          have hB := two_blk hT3 (.int .i64 (if n < lo then n else lo)) (.int .i64 (if hi < n then n else hi)) (.cells #[.int .i64 v0, .int .i64 v1, .int .i64 v2, .int .i64 v3] 115)
          have hQ5 := two_below hQ4 (Nat.le_refl _) hz4 (.int .i64 (if n < lo then n else lo)) (.int .i64 (if hi < n then n else hi)) (.cells #[.int .i64 v0, .int .i64 v1, .int .i64 v2, .int .i64 v3] 115)
          go_roundw
          case rel => exact ⟨pre ++ [x], rem', _, _, false, rfl, Lib.hid (by simp), hP4.out, H2.out, hR, by rw [← e1, ← e2]; exact hB, hQ5⟩
          case measure =>
            rw [hR.left_eq, hml.out]
            have := hLR.out
            simp
            omega
        · have H1 := Lib.hid (H1.out (hb.out.1 rfl))
          go_wp2_with (first | (refine wpList_entry_v rfl (.tmp 29) rfl _ ri rfl hen ?_; go_frame))
          have hR0 : RngV ((w3.setCell ⟨w.heap.size + 1, 0, none⟩ (.int .i64 n)).setCell ⟨w.heap.size + 1, 1, none⟩ (.int .i64 n)) Try.prog 96 bo ri (ents m T) (rem'.map fun t => (five (pad 5 t), four m t)) := hrg3.same ((set_other _ _ _ _ _ HBT.out).trans (set_other _ _ _ _ _ HBT.out)) ((set_other _ _ _ _ _ (fun e => HRT.out e.symm)).trans (set_other _ _ _ _ _ (fun e => HRT.out e.symm)))
          have hR := two_rng hR0 HBT.out (fun e => HRT.out e.symm) (.int .i64 n) (.int .i64 n) (.cells #[.int .i64 v0, .int .i64 v1, .int .i64 v2, .int .i64 v3] 115)
          have hB0 : ((w3.setCell ⟨w.heap.size + 1, 0, none⟩ (.int .i64 n)).setCell ⟨w.heap.size + 1, 1, none⟩ (.int .i64 n)).heap[w.heap.size + 1]? = some (.cells #[.int .i64 n, .int .i64 n] 44 (0, 0)) := blk_set 1 _ (blk_set 0 _ hT3)
          have hB := two_blk hB0 (.int .i64 n) (.int .i64 n) (.cells #[.int .i64 v0, .int .i64 v1, .int .i64 v2, .int .i64 v3] 115)
          have hQ40 : Below (w.heap.size + 1) (w.alloc (.cells #[.slice ac m.claimants.length cc, .slice az m.sums.length cz, .slice aw m.words.length cw, .slice ap m.paid.length cp] 27)) ((w3.setCell ⟨w.heap.size + 1, 0, none⟩ (.int .i64 n)).setCell ⟨w.heap.size + 1, 1, none⟩ (.int .i64 n)) := (hQ4.setCell (Nat.le_refl _) _).setCell (Nat.le_refl _) _
          have hQ5 := two_below hQ40 (Nat.le_refl _) (by simpa using hz4) (.int .i64 n) (.int .i64 n) (.cells #[.int .i64 v0, .int .i64 v1, .int .i64 v2, .int .i64 v3] 115)
          go_roundw
          case rel => exact ⟨pre ++ [x], rem', n, n, false, rfl, Lib.hid (by simp), hP4.out, H1.out, hR, hB, hQ5⟩
          case measure =>
            rw [hR.left_eq, hml.out]
            have := hLR.out
            simp
            omega
  · have g1 := nei_t he
    have HE := Lib.hid (HE.out.trans (if_neg he))
    clear he
    go_enter Try.func32, Try.ntmps32
    go_wp2_with (go_at_call 74; go_must (refine C.out.mono ?_; rintro e w2 ⟨v2, rfl, h2, hb2⟩; have hQ2 := box_two hQ1 hb2; have hT := blk_below hb2 (lt_of_block hT1) hT1; have t0 := blk_cell 0 hT rfl; have t1 := blk_cell 1 hT rfl; have f0 := blk_free 0 hT; have f1 := blk_free 1 hT; have htl := lt_of_block hT; dsimp only))
    (try simp only [Exit.inBlock, Exit.then])
    refine bodyPost_ret (v := .tuple #[.agg #[.int .i64 0, .int .i64 0], .int .i64 er]) ?_ rfl ⟨?_, ?_⟩
    · rw [results_cell_tmp rfl]
      go_simp
    · rw [HE.out]
    · exact ((box_old hQ2).setCell (by simp) _).setCell (by simp) _
end Go.Proofs.Ytnlolliankhfmaa
