/- What is proved here: the contract of money.First. Conditions: the list lies in memory. -/
import Derived.Test.YtnlolliankhfmaaLookD
import Derived.Test.YtnlolliankhfmaaPlain
import Derived.Test.YtnlolliankhfmaaGround
import Derived.Maps.RangeWalk
import Derived.Deep.OwnRows
import Derived.Laws.CopyOwn
set_option linter.unusedVariables false
set_option linter.unusedSimpArgs false
namespace Go.Proofs.Ytnlolliankhfmaa
open Go Go.RowKit

theorem first_hid (m : MoList) : firstOf m = if wholeErr m = 0 then ((truths m).headD [], ((truths m).length : Int), 0) else ([], 0, wholeErr m) := rfl
theorem ents_map (m : MoList) (T : List (List Int)) : ents m T = T.map fun t => (five (pad 5 t), four m t) := rfl

theorem wpList_entry_v {P : Program} {w : World} {ops : Array Oper} {rest : List Oper} {o : Oper} {a : Act} {Q : Exit → Act → World → Prop} (hg : o.guard = none) (it : Operand) (hop : o.op = Op.entry it) (v : Value) (r : Nat)
    (hit : a.eval it = .pointer (some ⟨r, 0, none⟩)) (hrun : (Instr.entry (.pointer (some ⟨r, 0, none⟩))).run P w = .ok v w)
    (hK : wpList P ops Q rest (a.put o.dst v) w) : wpList P ops Q (o :: rest) a w := by
  refine wpList_plain hg fun K' hK' => ?_
  unfold Oper.wp
  simp only [execOp, hop, hit, hrun, Result.andThen, Sem.run_bind, Sem.run_pure]
  exact hK' _ _ hK

theorem blkI_ints {W : World} {b : Nat} {t : TypeId} {L : List Int} (h : BlkI W b t L) : IntsC W (some ⟨b, 0, none⟩) L := fun i hi => ⟨b, 0, rfl, h.lt, by rw [Nat.zero_add]; exact h.cell i hi⟩
theorem blkI_five {W : World} {b : Nat} {t : TypeId} {z0 z1 z2 z3 z4 : Int} (h : BlkI W b t [z0, z1, z2, z3, z4]) : W.cell? ⟨b, 0, none⟩ = some (.int .i64 z0) ∧ W.cell? ⟨b, 1, none⟩ = some (.int .i64 z1) ∧ W.cell? ⟨b, 2, none⟩ = some (.int .i64 z2) ∧ W.cell? ⟨b, 3, none⟩ = some (.int .i64 z3) ∧ W.cell? ⟨b, 4, none⟩ = some (.int .i64 z4) :=
  ⟨h.cell 0 (by simp), h.cell 1 (by simp), h.cell 2 (by simp), h.cell 3 (by simp), h.cell 4 (by simp)⟩
theorem pad_ok {t : List Int} (h : ∀ y ∈ t, 0 ≤ y ∧ y < 4) : ∀ y ∈ pad 5 t, okI y := by
  intro y hy
  unfold pad at hy
  rcases List.mem_append.1 hy with hy | hy
  · exact okI_of (by have := h y hy; omega) (by have := h y hy; omega)
  · rw [List.eq_of_mem_replicate hy]; exact okI_of (by omega) (by omega)
theorem key_ne5 {a b c d e a' b' c' d' e' : Int} (h : ∀ y ∈ [a, b, c, d, e], okI y) (h' : ∀ y ∈ [a', b', c', d', e'], okI y) (hne : [a, b, c, d, e] ≠ [a', b', c', d', e']) (w : World) :
    (Op.equalIn 10000 96 (.agg #[.int .i64 a, .int .i64 b, .int .i64 c, .int .i64 d, .int .i64 e]) (.agg #[.int .i64 a', .int .i64 b', .int .i64 c', .int .i64 d', .int .i64 e'])).run Try.prog w = .ok false w :=
  key_ne a b c d e a' b' c' d' e' (h _ (by simp)) (h _ (by simp)) (h _ (by simp)) (h _ (by simp)) (h _ (by simp)) (h' _ (by simp)) (h' _ (by simp)) (h' _ (by simp)) (h' _ (by simp)) (h' _ (by simp)) hne w
theorem set_other (W : World) (b j k : Nat) (v : Value) (h : k ≠ b) : (W.setCell ⟨b, j, none⟩ v).heap[k]? = W.heap[k]? := by
  show (W.heap.modify b _)[k]? = _
  rw [Array.getElem?_modify, if_neg (Ne.symm h)]
theorem below_set {B b j : Nat} {w W : World} {v : Value} (h : Below B w W) (hb : B ≤ b) : Below B w (W.setCell ⟨b, j, none⟩ v) :=
  h.trans ⟨rfl, rfl, rfl, by simp [World.setCell], fun k hk => set_other W b j k v (by omega)⟩
def setFive (W : World) (b : Nat) (x0 x1 x2 x3 x4 : Int) : World := ((((W.setCell ⟨b, 0, none⟩ (.int .i64 x0)).setCell ⟨b, 1, none⟩ (.int .i64 x1)).setCell ⟨b, 2, none⟩ (.int .i64 x2)).setCell ⟨b, 3, none⟩ (.int .i64 x3)).setCell ⟨b, 4, none⟩ (.int .i64 x4)
theorem setFive_blk {W : World} {b : Nat} {t : TypeId} {y0 y1 y2 y3 y4 : Int} (h : BlkI W b t [y0, y1, y2, y3, y4]) (x0 x1 x2 x3 x4 : Int) : BlkI (setFive W b x0 x1 x2 x3 x4) b t [x0, x1, x2, x3, x4] :=
  ((((h.set 0 x0).set 1 x1).set 2 x2).set 3 x3).set 4 x4
theorem setFive_other {W : World} {b k : Nat} {x0 x1 x2 x3 x4 : Int} (h : k ≠ b) : (setFive W b x0 x1 x2 x3 x4).heap[k]? = W.heap[k]? := by
  unfold setFive
  rw [set_other _ _ _ _ _ h, set_other _ _ _ _ _ h, set_other _ _ _ _ _ h, set_other _ _ _ _ _ h, set_other _ _ _ _ _ h]
theorem setFive_below {B b : Nat} {w W : World} {x0 x1 x2 x3 x4 : Int} (h : Below B w W) (hb : B ≤ b) : Below B w (setFive W b x0 x1 x2 x3 x4) :=
  below_set (below_set (below_set (below_set (below_set h hb) hb) hb) hb) hb
theorem cmp_five (b1 b2 : Nat) (t : TypeId) (l1 l2 : List Int) (h1 : l1.length = 5) (h2 : l2.length = 5) (W : World) (hb1 : BlkI W b1 t l1) (hb2 : BlkI W b2 t l2) :
    Calls Try.prog 75 #[.slice (some ⟨b1, 0, none⟩) 5 5, .slice (some ⟨b2, 0, none⟩) 5 5] W fun e w' => ∃ k : Int, e = .returned (.int .i64 k) ∧ Hid (decide (k < 0) = less l1 l2) ∧ w' = W := by
  have := Cmp_any (some ⟨b1, 0, none⟩) (some ⟨b2, 0, none⟩) l1 l2 5 5 W (by omega) (by omega) (blkI_ints hb1) (blkI_ints hb2)
  rwa [h1, h2] at this
theorem fives_ne {a b : List Int} (ha : a.length ≤ 5) (hl : a.length = b.length) (h : a ≠ b) : pad 5 a ≠ pad 5 b := fun e => h (pad_inj 5 a b hl e)

set_option maxRecDepth 100000 in
set_option maxHeartbeats 400000 in
theorem MFirst_any (ac az aw ap : Option Addr) (cc cz cw cp : Nat) (m : MoList) (w : World) (hm : ListC w ac az aw ap cc cz cw cp m) :
    Calls Try.prog 18 #[(.agg #[.slice ac m.claimants.length cc, .slice az m.sums.length cz, .slice aw m.words.length cw, .slice ap m.paid.length cp])] w fun e w' => ∃ v, e = .returned (.tuple #[v, .int .i64 (firstOf m).2.1, .int .i64 (firstOf m).2.2]) ∧ IntsV w' v (firstOf m).1 ∧ Below w.heap.size w w' := by
  have HE := Lib.hid (first_hid m)
  have HV := Lib.hid (fun h : wholeErr m = 0 => whole_valid h)
  have hQ := Below.refl (w.heap.size + 1) (w.alloc (.cells #[.slice ac m.claimants.length cc, .slice az m.sums.length cz, .slice aw m.words.length cw, .slice ap m.paid.length cp] 27))
  obtain ⟨c0, c1, c2, c3⟩ := box_four hQ
  have hbz := box_size hQ
  have C := MEnter_any ac az aw ap cc cz cw cp m 0 none [] 0 (w.alloc (.cells #[.slice ac m.claimants.length cc, .slice az m.sums.length cz, .slice aw m.words.length cw, .slice ap m.paid.length cp] 27)) (hm.mono (box_old hQ)) (by decide) (by decide) (by decide) (IntsC.nil _ _)
  rw [enter_whole] at C
  have HN := Lib.hid (look_none m)
  have C := Lib.hid C
  generalize firstOf m = r at HE ⊢
  generalize wholeErr m = er at C HE HV
  by_cases he : er = 0
  · have g1 := nei_f he
    have HE := Lib.hid (HE.out.trans (if_pos he))
    obtain ⟨hv, hpos⟩ := HV.out he
    have HX := Lib.hid he
    have h5 := hv.nz
    have HL := Lib.hid (truths_len m)
    have HTM := Lib.hid (show (truths m).length ≤ 1024 from truths_many m hv.nc _ h5)
    have HS := Lib.hid (truths_sorted m)
    have HD := Lib.hid (truths_nodup m)
    have HBD := Lib.hid (show ∀ t ∈ truths m, ∀ y ∈ t, 0 ≤ y ∧ y < 4 from fun t ht y hy => by have := truths_bd m t ht y hy; have := hv.nc; omega)
    clear he
    generalize hTT : truths m = T at HE HL HS HD HBD HTM hpos
    have HTT := Lib.hid hTT
    clear hTT
    go_enter Try.func18, Try.ntmps18
    go_wp2_with (first
      | (at_range; refine wpList_range_v rfl (.tmp 19) _ rfl _ _ rfl bo _ rfl (hM.same (Below.heap_alloc _ _ _ hM.lt)) ?_; intro o' hrg; go_frame)
      | (go_at_call 74; go_must (refine C.out.mono ?_; rintro e w2 ⟨v2, rfl, h2, hb2⟩; obtain ⟨bm, bo, rfl, hLW⟩ := h2 HX.out; have hL := hLW.blk; have hM := hLW.map; rw [HN.out, HTT.out] at hL hM; have hQ2 := box_on hQ hb2; have hcm := hL.cells.2.2.2.2.2; have hbm := hL.lt; have hbol := hM.lt; dsimp only)))
    have e6 : (w2.alloc (.cells #[.int .i64 0, .int .i64 0, .int .i64 0, .int .i64 0, .int .i64 0] 96)).heap.size = w2.heap.size + 1 := by simp
    have hz2 := hQ2.size
    have hz2 : w.heap.size + 1 ≤ w2.heap.size := by simpa using hz2
    have hW1 := hQ2.alloc hz2 (.cells #[.int .i64 0, .int .i64 0, .int .i64 0, .int .i64 0, .int .i64 0] 96)
    have hW := hW1.alloc (by rw [e6]; omega) o'
    have hb6 : BlkI (w2.alloc (.cells #[.int .i64 0, .int .i64 0, .int .i64 0, .int .i64 0, .int .i64 0] 96)) w2.heap.size 96 (pad 5 []) := blk_new _ _
    have hb6 : BlkI ((w2.alloc (.cells #[.int .i64 0, .int .i64 0, .int .i64 0, .int .i64 0, .int .i64 0] 96)).alloc o') w2.heap.size 96 (pad 5 []) := hb6.same (Below.heap_alloc _ _ _ hb6.lt)
    rw [e6] at hrg
    rw [e6]
    have hrw : (w2.heap.size + 1) < ((w2.alloc (.cells #[.int .i64 0, .int .i64 0, .int .i64 0, .int .i64 0, .int .i64 0] 96)).alloc o').heap.size := by simp
    generalize ((w2.alloc (.cells #[.int .i64 0, .int .i64 0, .int .i64 0, .int .i64 0, .int .i64 0] 96)).alloc o') = W at hrg hW hb6 hrw
    generalize hr6 : w2.heap.size + 1 = ri at hrg hrw
    have HR6 := Lib.hid hr6
    clear hr6 e6 hW1
    go_loopw [3] (fun n wr => ∃ (pre rem : List (List Int)) (best : List Int), n = .int .i64 (pre.length : Nat) ∧ (pre ++ rem).Perm T ∧ Least pre best ∧ (pre = [] → best = []) ∧ RngV wr Try.prog 96 bo ri (ents m T) (rem.map fun t => (five (pad 5 t), four m t)) ∧ BlkI wr w2.heap.size 96 (pad 5 best) ∧ Below (w.heap.size + 1) (w.alloc (.cells #[.slice ac m.claimants.length cc, .slice az m.sums.length cz, .slice aw m.words.length cw, .slice ap m.paid.length cp] 27)) wr) (fun _ wr => wr.rangeLeft bo ri)
    case atStart => exact ⟨[], T, [], rfl, by simp, fun h => absurd rfl h, fun _ => rfl, hrg, hb6, hW⟩
    case round =>
      obtain ⟨pre, rem, best, rfl, hperm, hleast, hnil, hrg1, hb1, hQ3⟩ := hrel
      have hlen := hperm.length_eq
      rw [List.length_append] at hlen
      have hpi : (pre.length : Int) ≤ 1024 := by have := HTM.out; omega
      have hPL := Lib.hid hlen
      clear hlen
      obtain ⟨d0, d1, d2, d3⟩ := box_four hQ3
      have hbz3 := box_size hQ3
      go_wp2_with (at_next; refine wpList_next_v rfl (.tmp 20) rfl _ (fun t => five (pad 5 t)) (fun t => four m t) bo ri _ rem rfl hrg1 ?_ ?_)
      · intro h0
        subst h0
        rw [List.append_nil] at hperm
        have hbest := least_head HS.out hperm hpos hleast
        have hcnt := hperm.length_eq
        have hbT : best ∈ T := by rw [hbest]; cases T with | nil => simp at hpos | cons a T => simp
        have hblen := HL.out best hbT
        have hHB := Lib.hid hbest
        have hHC := Lib.hid hcnt
        have hz3 : w.heap.size + 1 ≤ wr.heap.size := by have := hQ3.size; simpa using this
        obtain ⟨i, hi, hz, hsz, hby⟩ := info_parts E_int.info
        have hsrc : ∀ j v, (best.map (Value.int .i64))[j]? = some v → wr.cell? ⟨w2.heap.size, 0 + j, none⟩ = some v := by
          intro j v hj
          rw [List.getElem?_map] at hj
          obtain ⟨y, hy, rfl⟩ := Option.map_eq_some_iff.1 hj
          obtain ⟨hlt, rfl⟩ := List.getElem?_eq_some_iff.1 hy
          have hp5 := pad_len 5 best (by omega)
          have := hb1.cell j (by omega)
          rw [Nat.zero_add, this]
          have e := pad_get 5 best j hlt
          rw [List.getElem?_eq_getElem (by omega), List.getElem?_eq_getElem hlt] at e
          rw [Option.some.inj e]
        have hSRC := Lib.hid hsrc
        have hblt := hb1.lt
        have hBL := Lib.hid hblen
        have hsz1 := Lib.hid (show (Try.prog.info? 3).map (·.size) = some 1 by rw [hi]; simp [hsz])
        have hcn := Lib.hid (show (best.map (Value.int .i64)).length = Nat.min 5 m.sums.length by rw [List.length_map, hblen]; exact (Nat.min_eq_right h5).symm)
        have hcsrc := Lib.hid (fun (j : Nat) (v : Value) (hj : (best.map (Value.int .i64))[j]? = some v) => show (wr.alloc (.cells (madeCells #[Value.int .i64 0] m.sums.length) 3)).cell? ((⟨w2.heap.size, 0, none⟩ : Addr).add j) = some v from by rw [Addr.add_lit]; exact (Below.cell (p := ⟨w2.heap.size, 0 + j, none⟩) (Below.alloc (Below.refl wr.heap.size wr) (Nat.le_refl _) _) hb1.lt).trans (hSRC.out j v hj))
        have hcfit := Lib.hid (show 0 + (best.map (Value.int .i64)).length ≤ (madeCells #[Value.int .i64 0] m.sums.length).size by rw [List.length_map, hblen, size_madeCells]; omega)
        have hcone := Lib.hid (show ∀ v ∈ best.map (Value.int .i64), v.oneCell' = true from fun v hv => by obtain ⟨y, _, rfl⟩ := List.mem_map.1 hv; rfl)
        clear hbest hcnt hbT hperm hleast hnil hsrc
        go_wp2_with (first
          | (refine wpList_make_row _ rfl (.tmp 43) (.tmp 43) _ rfl 3 i (.int .i64 0) E_int.und hi hz hsz rfl .i64 .i64 m.sums.length rfl rfl (by rw [hby]; omega) (by omega) ?_; go_frame)
          | (refine wpList_copy_own rfl (.tmp 45) (.tmp 46) _ _ rfl 3 E_int.und hsz1.out wr.heap.size 0 m.sums.length m.sums.length ⟨w2.heap.size, 0, none⟩ 5 5 rfl rfl (madeCells #[Value.int .i64 0] m.sums.length) 3 (blk_new _ _) (best.map (Value.int .i64)) hcn.out hcsrc.out hcfit.out hcone.out ?_; go_frame))
        have hBf : Below (w.heap.size + 1) (w.alloc (.cells #[.slice ac m.claimants.length cc, .slice az m.sums.length cz, .slice aw m.words.length cw, .slice ap m.paid.length cp] 27)) ((wr.alloc (.cells (madeCells #[Value.int .i64 0] m.sums.length) 3)).setRow wr.heap.size (List.take 0 (madeCells #[Value.int .i64 0] m.sums.length).toList ++ (List.map (Value.int .i64) best ++ List.drop (0 + (List.map (Value.int .i64) best).length) (madeCells #[Value.int .i64 0] m.sums.length).toList)).toArray) := below_setRow (hQ3.alloc hz3 _) hz3 _
        have hIf : BlkI ((wr.alloc (.cells (madeCells #[Value.int .i64 0] m.sums.length) 3)).setRow wr.heap.size (List.take 0 (madeCells #[Value.int .i64 0] m.sums.length).toList ++ (List.map (Value.int .i64) best ++ List.drop (0 + (List.map (Value.int .i64) best).length) (madeCells #[Value.int .i64 0] m.sums.length).toList)).toArray) wr.heap.size 3 best := by
          have h := setRow_heap (wr.alloc (.cells (madeCells #[Value.int .i64 0] m.sums.length) 3)) wr.heap.size _ (List.take 0 (madeCells #[Value.int .i64 0] m.sums.length).toList ++ (List.map (Value.int .i64) best ++ List.drop (0 + (List.map (Value.int .i64) best).length) (madeCells #[Value.int .i64 0] m.sums.length).toList)).toArray 3 _ (blk_new _ _)
          have e : (List.take 0 (madeCells #[Value.int .i64 0] m.sums.length).toList ++ (List.map (Value.int .i64) best ++ List.drop (0 + (List.map (Value.int .i64) best).length) (madeCells #[Value.int .i64 0] m.sums.length).toList)) = best.map (Value.int .i64) := by
            rw [List.take_zero, List.nil_append, List.drop_eq_nil_of_le (by rw [Array.length_toList, size_madeCells, List.length_map, hBL.out]; omega), List.append_nil]
          rw [e] at h ⊢
          exact h
        go_ret3
        rw [HE.out]
        refine ⟨.slice (some ⟨wr.heap.size, 0, none⟩) m.sums.length m.sums.length, ?_, ?_, box_old hBf⟩
        · rw [← hHC.out]; rfl
        · dsimp only
          rw [← hHB.out]
          exact ⟨some ⟨wr.heap.size, 0, none⟩, m.sums.length, by rw [hBL.out], ⟨by rw [hBL.out]; omega, by omega, fun h => by cases h⟩, blkI_ints hIf⟩
      · intro x rem' w3 hp hrg3 hg3 hs3 hen
        have hpn : ((pre.length : Int) + 1) ≤ 1024 := by have := hp.length_eq; simp at this; have := HTM.out; have := hPL.out; omega
        have hperm3 := (List.Perm.append_left pre hp).symm.trans hperm
        have hxT : x ∈ T := hperm3.mem_iff.1 (by simp)
        have hxl := HL.out x hxT
        have hxp : x ∉ pre := fun h => by
          have := (hperm3.nodup_iff).2 HD.out
          rw [List.nodup_append] at this
          exact this.2.2 x h x (by simp) rfl
        have hb3 : BlkI w3 w2.heap.size 96 (pad 5 best) := hb1.same (hg3.block _ hb1.lt (fun e => by have := Option.some.inj e; have := HR6.out; omega))
        have hQ4 : Below (w.heap.size + 1) (w.alloc (.cells #[.slice ac m.claimants.length cc, .slice az m.sums.length cz, .slice aw m.words.length cw, .slice ap m.paid.length cp] 27)) w3 := hQ3.grown hg3 (by have := hQ3.size; simpa using this) (fun k e => by have := Option.some.inj e; have := HR6.out; omega)
        have hz3 : w.heap.size + 1 ≤ w3.heap.size := by have := hQ4.size; simpa using this
        have hpx := pad_len 5 x (by omega)
        have hbl : best.length ≤ 5 ∧ (pre ≠ [] → best.length = x.length ∧ best ≠ x) := by
          by_cases hpe : pre = []
          · rw [hnil hpe]; exact ⟨by simp, fun h => absurd hpe h⟩
          · have h1 := (hleast hpe).1
            have h2 := HL.out best (hperm3.mem_iff.1 (by simp [h1]))
            exact ⟨by omega, fun _ => ⟨by omega, fun e => hxp (e ▸ h1)⟩⟩
        have hpb := pad_len 5 best hbl.1
        have hxo := pad_ok (HBD.out x hxT)
        have hbo : ∀ y ∈ pad 5 best, okI y := by
          refine pad_ok fun y hy => ?_
          by_cases hpe : pre = []
          · rw [hnil hpe] at hy; simp at hy
          · exact HBD.out best (hperm3.mem_iff.1 (by simp [(hleast hpe).1])) y hy
        have hne5 : pre ≠ [] → pad 5 best ≠ pad 5 x := fun h => fives_ne hbl.1 (hbl.2 h).1 (hbl.2 h).2
        have hls : pre ≠ [] → less (pad 5 x) (pad 5 best) = less x best := fun h => by
          unfold pad
          rw [(hbl.2 h).1]
          exact less_app _ _ _ (hbl.2 h).1.symm
        obtain ⟨x0, x1, x2, x3, x4, hx5⟩ : ∃ x0 x1 x2 x3 x4 : Int, pad 5 x = [x0, x1, x2, x3, x4] := ⟨_, _, _, _, _, five_of hpx⟩
        obtain ⟨y0, y1, y2, y3, y4, hy5⟩ : ∃ x0 x1 x2 x3 x4 : Int, pad 5 best = [x0, x1, x2, x3, x4] := ⟨_, _, _, _, _, five_of hpb⟩
        have hxf : five (pad 5 x) = .agg #[.int .i64 x0, .int .i64 x1, .int .i64 x2, .int .i64 x3, .int .i64 x4] := by rw [hx5]; rfl
        rw [hxf] at hen ⊢
        rw [hx5] at hxo hne5 hls
        rw [hy5] at hbo hne5 hls hb3
        have hlx : ∀ h : pre ≠ [], less x best = false → Least (pre ++ [x]) best := fun h hl => least_keep h hleast (hbl.2 h).1.symm (fun e => (hbl.2 h).2 e.symm) hl
        have hly : pre ≠ [] → less x best = true → Least (pre ++ [x]) x := fun h hl => least_new h hleast hl
        have hlz : pre = [] → Least (pre ++ [x]) x := fun h => by subst h; exact least_one x
        have HEQ := Lib.hid (fun (h : pre ≠ []) (V : World) => key_ne5 hbo hxo (hne5 h) V)
        have HXF := Lib.hid hx5
        have HYF := Lib.hid hy5
        have HLS := Lib.hid hls
        have HLX := Lib.hid hlx
        have HLY := Lib.hid hly
        have HLZ := Lib.hid hlz
        have hP4 := Lib.hid (show ((pre ++ [x]) ++ rem').Perm T from by simpa using hperm3)
        have hLR := Lib.hid (show rem.length = rem'.length + 1 from by simpa using hp.length_eq)
        clear hxl hxp hbl hperm3 hleast hxT hp hperm hnil hxo hbo hne5 hls hlx hly hlz hxf hx5 hy5 hpx hpb
        go_wp2_with (first | (refine wpList_entry_v rfl (.tmp 20) rfl _ ri rfl hen ?_; go_frame))
        have h7 : BlkI (w3.alloc (.cells #[.int .i64 x0, .int .i64 x1, .int .i64 x2, .int .i64 x3, .int .i64 x4] 96)) w3.heap.size 96 [x0, x1, x2, x3, x4] := blk_new _ _
        rw [hs3] at h7
        have h6 : BlkI (w3.alloc (.cells #[.int .i64 x0, .int .i64 x1, .int .i64 x2, .int .i64 x3, .int .i64 x4] 96)) w2.heap.size 96 [y0, y1, y2, y3, y4] := hb3.same (Below.heap_alloc w3 _ _ hb3.lt)
        have hQ7 := hQ4.alloc hz3 (.cells #[.int .i64 x0, .int .i64 x1, .int .i64 x2, .int .i64 x3, .int .i64 x4] 96)
        have hr7 := hrg3.same (Below.heap_alloc w3 (.cells #[.int .i64 x0, .int .i64 x1, .int .i64 x2, .int .i64 x3, .int .i64 x4] 96) _ hrg3.map.lt) (Below.heap_alloc w3 (.cells #[.int .i64 x0, .int .i64 x1, .int .i64 x2, .int .i64 x3, .int .i64 x4] 96) _ hrg3.lt)
        have hlt6 := hb3.lt
        rw [hs3] at hlt6
        have hs7 : (w3.alloc (.cells #[.int .i64 x0, .int .i64 x1, .int .i64 x2, .int .i64 x3, .int .i64 x4] 96)).heap.size = wr.heap.size + 1 := by simp [hs3]
        generalize (w3.alloc (.cells #[.int .i64 x0, .int .i64 x1, .int .i64 x2, .int .i64 x3, .int .i64 x4] 96)) = W7 at h6 h7 hQ7 hr7 hs7
        have KE : Hid (∀ V, Below W7.heap.size W7 V → (fun V => Below W7.heap.size W7 V ∧ BlkI V wr.heap.size 96 [x0, x1, x2, x3, x4] ∧ BlkI V w2.heap.size 96 [y0, y1, y2, y3, y4] ∧ (V.cell? ⟨wr.heap.size, 0, none⟩ = some (.int .i64 x0) ∧ V.cell? ⟨wr.heap.size, 1, none⟩ = some (.int .i64 x1) ∧ V.cell? ⟨wr.heap.size, 2, none⟩ = some (.int .i64 x2) ∧ V.cell? ⟨wr.heap.size, 3, none⟩ = some (.int .i64 x3) ∧ V.cell? ⟨wr.heap.size, 4, none⟩ = some (.int .i64 x4)) ∧ (V.cell? ⟨w2.heap.size, 0, none⟩ = some (.int .i64 y0) ∧ V.cell? ⟨w2.heap.size, 1, none⟩ = some (.int .i64 y1) ∧ V.cell? ⟨w2.heap.size, 2, none⟩ = some (.int .i64 y2) ∧ V.cell? ⟨w2.heap.size, 3, none⟩ = some (.int .i64 y3) ∧ V.cell? ⟨w2.heap.size, 4, none⟩ = some (.int .i64 y4)) ∧ w2.heap.size < V.heap.size ∧ wr.heap.size < V.heap.size) V) := Lib.hid (fun V h => by
          have a7 := h7.same (h.block _ h7.lt)
          have a6 := h6.same (h.block _ h6.lt)
          exact ⟨h, a7, a6, blkI_five a7, blkI_five a6, a6.lt, a7.lt⟩)
        have CM := Lib.hid (fun (V : World) (h1 : BlkI V wr.heap.size 96 [x0, x1, x2, x3, x4]) (h2 : BlkI V w2.heap.size 96 [y0, y1, y2, y3, y4]) => cmp_five _ _ _ _ _ rfl rfl V h1 h2)
        have hz7 := hQ7.size
        have hz7 : w.heap.size + 1 ≤ W7.heap.size := by simpa using hz7
        have hml := Lib.hid hrg1.left_eq
        have hbne := Lib.hid (show bo ≠ w2.heap.size by omega)
        have hrne := Lib.hid (show ri ≠ w2.heap.size by have := HR6.out; omega)
        clear hrg1 hb1 hQ3 d0 d1 d2 d3 hen hrg3 hb3 hQ4
        by_cases hn0 : pre.length = 0
        · have gn : ((pre.length : Int) + 1 == 1) = true := by simp; omega
          have hpe : pre = [] := List.eq_nil_of_length_eq_zero hn0
          have HLZ := Lib.hid (HLZ.out hpe)
          clear hpe
          apply wp_mid _ (Below W7.heap.size W7)
          · refine wp_region_held_drew (S := (fun V => Below W7.heap.size W7 V ∧ BlkI V wr.heap.size 96 [x0, x1, x2, x3, x4] ∧ BlkI V w2.heap.size 96 [y0, y1, y2, y3, y4] ∧ (V.cell? ⟨wr.heap.size, 0, none⟩ = some (.int .i64 x0) ∧ V.cell? ⟨wr.heap.size, 1, none⟩ = some (.int .i64 x1) ∧ V.cell? ⟨wr.heap.size, 2, none⟩ = some (.int .i64 x2) ∧ V.cell? ⟨wr.heap.size, 3, none⟩ = some (.int .i64 x3) ∧ V.cell? ⟨wr.heap.size, 4, none⟩ = some (.int .i64 x4)) ∧ (V.cell? ⟨w2.heap.size, 0, none⟩ = some (.int .i64 y0) ∧ V.cell? ⟨w2.heap.size, 1, none⟩ = some (.int .i64 y1) ∧ V.cell? ⟨w2.heap.size, 2, none⟩ = some (.int .i64 y2) ∧ V.cell? ⟨w2.heap.size, 3, none⟩ = some (.int .i64 y3) ∧ V.cell? ⟨w2.heap.size, 4, none⟩ = some (.int .i64 y4)) ∧ w2.heap.size < V.heap.size ∧ wr.heap.size < V.heap.size)) (by kernel_rfl) (KE.out _ (below_draw W7)) (fun hHeld => ?_)
            (refine wpAnyH_take (i := 0) (v := ?_) rfl (by kernel_rfl) (by kernel_rfl) (by kernel_rfl) (fun _ _ _ h => h) (Or.inl ⟨by kernel_rfl, ?_⟩) (by assumption) ?_; rotate_left 1; (focus (intro w hSw; (try dsimp only at hSw); go_simp; first | done | with_reducible rfl)); simp only [Act.put, List.getElem_toArray, List.getElem_cons_succ, List.getElem_cons_zero, List.setIfInBounds_toArray, List.set_cons_succ, List.set_cons_zero])
            (refine wpAnyH_take (i := 1) (v := ?_) rfl (by kernel_rfl) (by kernel_rfl) (by kernel_rfl) (fun _ _ _ h => h) (Or.inl ⟨by kernel_rfl, ?_⟩) (by assumption) ?_; rotate_left 1; (focus (intro w hSw; (try dsimp only at hSw); go_simp; first | done | with_reducible rfl)); simp only [Act.put, List.getElem_toArray, List.getElem_cons_succ, List.getElem_cons_zero, List.setIfInBounds_toArray, List.set_cons_succ, List.set_cons_zero])
            (refine wpAnyH_take (i := 2) (v := ?_) rfl (by kernel_rfl) (by kernel_rfl) (by kernel_rfl) (fun _ _ _ h => h) (Or.inl ⟨by kernel_rfl, ?_⟩) (by assumption) ?_; rotate_left 1; (focus (intro w hSw; (try dsimp only at hSw); go_simp; first | done | with_reducible rfl)); simp only [Act.put, List.getElem_toArray, List.getElem_cons_succ, List.getElem_cons_zero, List.setIfInBounds_toArray, List.set_cons_succ, List.set_cons_zero])
            (refine wpAnyH_take (i := 3) (v := undef) rfl (by kernel_rfl) (by kernel_rfl) (by kernel_rfl) (fun _ _ _ h => h) (Or.inr ⟨by kernel_rfl, rfl⟩) (by assumption) ?_; simp only [Act.put, List.getElem_toArray, List.getElem_cons_succ, List.getElem_cons_zero, List.setIfInBounds_toArray, List.set_cons_succ, List.set_cons_zero])
            (refine wpAnyH_take (i := 4) (v := undef) rfl (by kernel_rfl) (by kernel_rfl) (by kernel_rfl) (fun _ _ _ h => h) (Or.inr ⟨by kernel_rfl, rfl⟩) (by assumption) ?_; simp only [Act.put, List.getElem_toArray, List.getElem_cons_succ, List.getElem_cons_zero, List.setIfInBounds_toArray, List.set_cons_succ, List.set_cons_zero])
            (refine wpAnyH_take (i := 5) (v := undef) rfl (by kernel_rfl) (by kernel_rfl) (by kernel_rfl) (fun _ _ _ h => h) (Or.inr ⟨by kernel_rfl, rfl⟩) (by assumption) ?_; simp only [Act.put, List.getElem_toArray, List.getElem_cons_succ, List.getElem_cons_zero, List.setIfInBounds_toArray, List.set_cons_succ, List.set_cons_zero])
            (refine wpAnyH_take (i := 6) (v := undef) rfl (by kernel_rfl) (by kernel_rfl) (by kernel_rfl) (fun _ _ _ h => h) (Or.inr ⟨by kernel_rfl, rfl⟩) (by assumption) ?_; simp only [Act.put, List.getElem_toArray, List.getElem_cons_succ, List.getElem_cons_zero, List.setIfInBounds_toArray, List.set_cons_succ, List.set_cons_zero])
            (refine wpAnyH_take (i := 7) (v := undef) rfl (by kernel_rfl) (by kernel_rfl) (by kernel_rfl) (fun _ _ _ h => h) (Or.inr ⟨by kernel_rfl, rfl⟩) (by assumption) ?_; simp only [Act.put, List.getElem_toArray, List.getElem_cons_succ, List.getElem_cons_zero, List.setIfInBounds_toArray, List.set_cons_succ, List.set_cons_zero])
            (refine wpAnyH_take (i := 8) (v := undef) rfl (by kernel_rfl) (by kernel_rfl) (by kernel_rfl) (fun _ _ _ h => h) (Or.inr ⟨by kernel_rfl, rfl⟩) (by assumption) ?_; simp only [Act.put, List.getElem_toArray, List.getElem_cons_succ, List.getElem_cons_zero, List.setIfInBounds_toArray, List.set_cons_succ, List.set_cons_zero])
            (refine wpAnyH_take (i := 9) (v := undef) rfl (by kernel_rfl) (by kernel_rfl) (by kernel_rfl) (fun _ _ _ h => h) (Or.inr ⟨by kernel_rfl, rfl⟩) (by assumption) ?_; simp only [Act.put, List.getElem_toArray, List.getElem_cons_succ, List.getElem_cons_zero, List.setIfInBounds_toArray, List.set_cons_succ, List.set_cons_zero])
            (refine wpAnyH_take (i := 10) (v := undef) rfl (by kernel_rfl) (by kernel_rfl) (by kernel_rfl) (fun _ _ _ h => h) (Or.inr ⟨by kernel_rfl, rfl⟩) (by assumption) ?_; simp only [Act.put, List.getElem_toArray, List.getElem_cons_succ, List.getElem_cons_zero, List.setIfInBounds_toArray, List.set_cons_succ, List.set_cons_zero])
            (refine wpAnyH_take (i := 11) (v := undef) rfl (by kernel_rfl) (by kernel_rfl) (by kernel_rfl) (fun _ _ _ h => h) (Or.inr ⟨by kernel_rfl, rfl⟩) (by assumption) ?_; simp only [Act.put, List.getElem_toArray, List.getElem_cons_succ, List.getElem_cons_zero, List.setIfInBounds_toArray, List.set_cons_succ, List.set_cons_zero])
            (refine wpAnyH_take (i := 12) (v := ?_) rfl (by kernel_rfl) (by kernel_rfl) (by kernel_rfl) (fun _ _ _ h => h) (Or.inl ⟨by kernel_rfl, ?_⟩) (by assumption) ?_; rotate_left 1; (focus (intro w hSw; (try dsimp only at hSw); go_simp; first | done | with_reducible rfl)); simp only [Act.put, List.getElem_toArray, List.getElem_cons_succ, List.getElem_cons_zero, List.setIfInBounds_toArray, List.set_cons_succ, List.set_cons_zero])
            exact wpAnyH_done (by kernel_rfl) ⟨rfl, below_draw W7⟩ _
          · intro W8 hb8
            have hQ8 := hQ7.trans (hb8.mono hz7)
            have h68 := h6.same (hb8.block _ h6.lt)
            have h78 := h7.same (hb8.block _ h7.lt)
            have hr8 := hr7.same (hb8.block _ hr7.map.lt) (hb8.block _ hr7.lt)
            clear hb8 h6 h7 hr7
            obtain ⟨f0, f1, f2, f3, f4⟩ := blkI_five h78
            obtain ⟨g0, g1', g2, g3, g4⟩ := blkI_five h68
            have fr := fun j => h68.free j
            go_wp2
            go_roundw
            case rel => exact ⟨pre ++ [x], rem', x, by simp, hP4.out, HLZ.out, by simp, (hr8.same (setFive_other hbne.out) (setFive_other hrne.out) : RngV (setFive W8 w2.heap.size x0 x1 x2 x3 x4) _ _ _ _ _ _), by rw [HXF.out]; exact setFive_blk h68 x0 x1 x2 x3 x4, setFive_below hQ8 hz2⟩
            case measure =>
              have e := (hr8.same (setFive_other hbne.out) (setFive_other hrne.out) : RngV (setFive W8 w2.heap.size x0 x1 x2 x3 x4) _ _ _ _ _ _).left_eq
              unfold setFive at e
              rw [e, hml.out]
              have := hLR.out
              simp
              omega
        · have gn : ((pre.length : Int) + 1 == 1) = false := by simp; omega
          have hpe : pre ≠ [] := fun e => hn0 (by rw [e]; rfl)
          have HEQ := Lib.hid (HEQ.out hpe)
          have HLS := HLS.out hpe
          have CM := CM.out
          rw [HLS] at CM
          have HLX := Lib.hid (HLX.out hpe)
          have HLY := Lib.hid (HLY.out hpe)
          clear HLS hpe
          generalize less x best = lt at CM HLX HLY
          have CM := Lib.hid CM
          cases lt
          all_goals
            refine wp_region_held_drew (S := (fun V => Below W7.heap.size W7 V ∧ BlkI V wr.heap.size 96 [x0, x1, x2, x3, x4] ∧ BlkI V w2.heap.size 96 [y0, y1, y2, y3, y4] ∧ (V.cell? ⟨wr.heap.size, 0, none⟩ = some (.int .i64 x0) ∧ V.cell? ⟨wr.heap.size, 1, none⟩ = some (.int .i64 x1) ∧ V.cell? ⟨wr.heap.size, 2, none⟩ = some (.int .i64 x2) ∧ V.cell? ⟨wr.heap.size, 3, none⟩ = some (.int .i64 x3) ∧ V.cell? ⟨wr.heap.size, 4, none⟩ = some (.int .i64 x4)) ∧ (V.cell? ⟨w2.heap.size, 0, none⟩ = some (.int .i64 y0) ∧ V.cell? ⟨w2.heap.size, 1, none⟩ = some (.int .i64 y1) ∧ V.cell? ⟨w2.heap.size, 2, none⟩ = some (.int .i64 y2) ∧ V.cell? ⟨w2.heap.size, 3, none⟩ = some (.int .i64 y3) ∧ V.cell? ⟨w2.heap.size, 4, none⟩ = some (.int .i64 y4)) ∧ w2.heap.size < V.heap.size ∧ wr.heap.size < V.heap.size)) (by kernel_rfl) (KE.out _ (below_draw W7)) (fun hHeld => ?_)
            (refine wpAnyH_take (i := 0) (v := ?_) rfl (by kernel_rfl) (by kernel_rfl) (by kernel_rfl) (fun _ _ _ h => h) (Or.inl ⟨by kernel_rfl, ?_⟩) (by assumption) ?_; rotate_left 1; (focus (intro w hSw; (try dsimp only at hSw); go_simp; first | done | with_reducible rfl)); simp only [Act.put, List.getElem_toArray, List.getElem_cons_succ, List.getElem_cons_zero, List.setIfInBounds_toArray, List.set_cons_succ, List.set_cons_zero])
            (refine wpAnyH_take (i := 1) (v := ?_) rfl (by kernel_rfl) (by kernel_rfl) (by kernel_rfl) (fun _ _ _ h => h) (Or.inl ⟨by kernel_rfl, ?_⟩) (by assumption) ?_; rotate_left 1; (focus (intro w hSw; (try dsimp only at hSw); go_simp; first | done | with_reducible rfl)); simp only [Act.put, List.getElem_toArray, List.getElem_cons_succ, List.getElem_cons_zero, List.setIfInBounds_toArray, List.set_cons_succ, List.set_cons_zero])
            (refine wpAnyH_take (i := 2) (v := ?_) rfl (by kernel_rfl) (by kernel_rfl) (by kernel_rfl) (fun _ _ _ h => h) (Or.inl ⟨by kernel_rfl, ?_⟩) (by assumption) ?_; rotate_left 1; (focus (intro w hSw; (try dsimp only at hSw); go_simp; first | done | with_reducible rfl)); simp only [Act.put, List.getElem_toArray, List.getElem_cons_succ, List.getElem_cons_zero, List.setIfInBounds_toArray, List.set_cons_succ, List.set_cons_zero])
            (refine wpAnyH_take (i := 3) (v := ?_) rfl (by kernel_rfl) (by kernel_rfl) (by kernel_rfl) (fun _ _ _ h => h) (Or.inl ⟨by kernel_rfl, ?_⟩) (by assumption) ?_; rotate_left 1; (focus (intro w hSw; (try dsimp only at hSw); go_simp; first | done | with_reducible rfl)); simp only [Act.put, List.getElem_toArray, List.getElem_cons_succ, List.getElem_cons_zero, List.setIfInBounds_toArray, List.set_cons_succ, List.set_cons_zero])
            (refine wpAnyH_take (i := 4) (v := ?_) rfl (by kernel_rfl) (by kernel_rfl) (by kernel_rfl) (fun _ _ _ h => h) (Or.inl ⟨by kernel_rfl, ?_⟩) (by assumption) ?_; rotate_left 1; (focus (intro w hSw; (try dsimp only at hSw); go_simp; first | done | with_reducible rfl)); simp only [Act.put, List.getElem_toArray, List.getElem_cons_succ, List.getElem_cons_zero, List.setIfInBounds_toArray, List.set_cons_succ, List.set_cons_zero])
            (refine wpAnyH_take (i := 5) (v := .bool true) rfl (by kernel_rfl) (by kernel_rfl) (by kernel_rfl) (fun _ _ _ h => h) (Or.inl ⟨by kernel_rfl, ?_⟩) (by assumption) ?_; (focus (intro w hSw; (try dsimp only at hSw); go_simp; rw [HEQ.out w]; rfl)); simp only [Act.put, List.getElem_toArray, List.getElem_cons_succ, List.getElem_cons_zero, List.setIfInBounds_toArray, List.set_cons_succ, List.set_cons_zero])
            (refine wpAnyH_take (i := 6) (v := ?_) rfl (by kernel_rfl) (by kernel_rfl) (by kernel_rfl) (fun _ _ _ h => h) (Or.inl ⟨by kernel_rfl, ?_⟩) (by assumption) ?_; rotate_left 1; (focus (intro w hSw; (try dsimp only at hSw); go_simp; first | done | with_reducible rfl)); simp only [Act.put, List.getElem_toArray, List.getElem_cons_succ, List.getElem_cons_zero, List.setIfInBounds_toArray, List.set_cons_succ, List.set_cons_zero])
            (refine wpAnyH_take (i := 7) (v := ?_) rfl (by kernel_rfl) (by kernel_rfl) (by kernel_rfl) (fun _ _ _ h => h) (Or.inl ⟨by kernel_rfl, ?_⟩) (by assumption) ?_; rotate_left 1; (focus (intro w hSw; (try dsimp only at hSw); go_simp; first | done | with_reducible rfl)); simp only [Act.put, List.getElem_toArray, List.getElem_cons_succ, List.getElem_cons_zero, List.setIfInBounds_toArray, List.set_cons_succ, List.set_cons_zero])
            (refine wpAnyH_take (i := 8) (v := ?_) rfl (by kernel_rfl) (by kernel_rfl) (by kernel_rfl) (fun _ _ _ h => h) (Or.inl ⟨by kernel_rfl, ?_⟩) (by assumption) ?_; rotate_left 1; (focus (intro w hSw; (try dsimp only at hSw); go_simp; first | done | with_reducible rfl)); simp only [Act.put, List.getElem_toArray, List.getElem_cons_succ, List.getElem_cons_zero, List.setIfInBounds_toArray, List.set_cons_succ, List.set_cons_zero])
            (refine wpAnyH_ready (rs := [9]) (by kernel_rfl) (by simp) ?_; refine AllReadyH.cons rfl (fun K hK => ?_) AllReadyH.nil; go_simp)
            have hS2 := hHeld.2.1
            have hS3 := hHeld.2.2.1
            go_wp2_with (go_at_call 75; go_must (refine (CM.out _ hS2 hS3).mono ?_; rintro e w8 ⟨k, rfl, hk, hw8⟩; obtain rfl := hw8.symm; dsimp only))
            have hk0 := hk.out
            simp only [decide_eq_false_iff_not, decide_eq_true_eq] at hk0
            refine hK.out _ _ (KE.out _ (below_draw W7)) (fun hHeld => ?_)
            (try simp only [Act.put, List.getElem_toArray, List.getElem_cons_succ, List.getElem_cons_zero, List.setIfInBounds_toArray, List.set_cons_succ, List.set_cons_zero])
            clear hK
            (refine wpAnyH_take (i := 10) (v := ?_) rfl (by kernel_rfl) (by kernel_rfl) (by kernel_rfl) (fun _ _ _ h => h) (Or.inl ⟨by kernel_rfl, ?_⟩) (by assumption) ?_; rotate_left 1; (focus (intro w hSw; (try dsimp only at hSw); go_simp; first | done | with_reducible rfl)); simp only [Act.put, List.getElem_toArray, List.getElem_cons_succ, List.getElem_cons_zero, List.setIfInBounds_toArray, List.set_cons_succ, List.set_cons_zero])
            (refine wpAnyH_take (i := 11) (v := ?_) rfl (by kernel_rfl) (by kernel_rfl) (by kernel_rfl) (fun _ _ _ h => h) (Or.inl ⟨by kernel_rfl, ?_⟩) (by assumption) ?_; rotate_left 1; (focus (intro w hSw; (try dsimp only at hSw); go_simp; first | done | with_reducible rfl)); simp only [Act.put, List.getElem_toArray, List.getElem_cons_succ, List.getElem_cons_zero, List.setIfInBounds_toArray, List.set_cons_succ, List.set_cons_zero])
            (refine wpAnyH_take (i := 12) (v := ?_) rfl (by kernel_rfl) (by kernel_rfl) (by kernel_rfl) (fun _ _ _ h => h) (Or.inl ⟨by kernel_rfl, ?_⟩) (by assumption) ?_; rotate_left 1; (focus (intro w hSw; (try dsimp only at hSw); go_simp; first | done | with_reducible rfl)); simp only [Act.put, List.getElem_toArray, List.getElem_cons_succ, List.getElem_cons_zero, List.setIfInBounds_toArray, List.set_cons_succ, List.set_cons_zero])
            refine wpAnyH_done (by kernel_rfl) ?_ _
            have hb8 := below_draw W7
            have hQ8 := hQ7.trans (hb8.mono hz7)
            have h68 := h6.same (hb8.block _ h6.lt)
            have h78 := h7.same (hb8.block _ h7.lt)
            have hr8 := hr7.same (hb8.block _ hr7.map.lt) (hb8.block _ hr7.lt)
            clear hb8 h6 h7 hr7 hS2 hS3 hHeld
            generalize W7.drew = W8 at h68 h78 hQ8 hr8
          · go_wp2
            go_roundw
            case rel => exact ⟨pre ++ [x], rem', best, by simp, hP4.out, (HLX.out trivial), by simp, hr8, by rw [HYF.out]; exact h68, hQ8⟩
            case measure =>
              rw [hr8.left_eq, hml.out]
              have := hLR.out
              simp
              omega
          · obtain ⟨f0, f1, f2, f3, f4⟩ := blkI_five h78
            obtain ⟨g0, g1', g2, g3, g4⟩ := blkI_five h68
            have fr := fun j => h68.free j
            go_wp2
            go_roundw
            case rel => exact ⟨pre ++ [x], rem', x, by simp, hP4.out, (HLY.out trivial), by simp, (hr8.same (setFive_other hbne.out) (setFive_other hrne.out) : RngV (setFive W8 w2.heap.size x0 x1 x2 x3 x4) _ _ _ _ _ _), by rw [HXF.out]; exact setFive_blk h68 x0 x1 x2 x3 x4, setFive_below hQ8 hz2⟩
            case measure =>
              have e := (hr8.same (setFive_other hbne.out) (setFive_other hrne.out) : RngV (setFive W8 w2.heap.size x0 x1 x2 x3 x4) _ _ _ _ _ _).left_eq
              unfold setFive at e
              rw [e, hml.out]
              have := hLR.out
              simp
              omega
  · have g1 := nei_t he
    have HE := Lib.hid (HE.out.trans (if_neg he))
    clear he
    go_enter Try.func18, Try.ntmps18
    go_wp2_with (go_at_call 74; go_must (refine C.out.mono ?_; rintro e w2 ⟨v2, rfl, h2, hb2⟩; have hQ2 := box_on hQ hb2; dsimp only))
    go_ret3
    rw [HE.out]
    exact ⟨_, rfl, ⟨none, 0, rfl, ⟨by simp, by omega, fun _ => rfl⟩, IntsC.nil _ _⟩, box_old hQ2⟩
end Go.Proofs.Ytnlolliankhfmaa
