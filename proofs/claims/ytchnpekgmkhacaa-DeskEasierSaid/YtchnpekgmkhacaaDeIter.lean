/- What is proved here: next, as an iterator. Conditions: the hall is looked at and valid; the stand lies in memory. -/
import Derived.Test.YtchnpekgmkhacaaDeCan
import Derived.Test.YtchnpekgmkhacaaRangeX
set_option linter.unusedVariables false
set_option linter.unusedSimpArgs false
namespace Go.Proofs.Ytchnpekgmkhacaa
open Go Go.RowKit Go.Shelf

theorem bit_zeroD : ∀ c : Nat, c < 64 → ∀ k : Nat, k < 7 → (bits BinOp.and IntKind.i64 ((c : Int) / 2 ^ k) 1 == 0) = !c.testBit k := by decide +kernel
theorem or_bit32 : ∀ c : Nat, c < 32 → ∀ k : Nat, k < 5 → bits BinOp.or .i64 (c : Int) (wrap64 (2 ^ k)) = ((c ||| 2 ^ k : Nat) : Int) := by decide +kernel
theorem stL_next {h : DeH} {x : DeSt} (hx : StOk h x) (c : Nat) (hw : x.writer < 3) : ((stL x).set 1 ((x.done ||| 2 ^ c : Nat) : Int)).set (2 + x.writer) (goD h x c) = stL (nextC h x c) := by
  have hl : x.writer < x.ms.length := by rw [hx.len]; exact hw
  have m0 := nextC_minute h x c 0 hl
  have m1 := nextC_minute h x c 1 hl
  have m2 := nextC_minute h x c 2 hl
  unfold stL
  rw [m0, m1, m2]
  have e1 : (nextC h x c).writer = x.writer := rfl
  have e2 : (nextC h x c).done = x.done ||| 2 ^ c := rfl
  rw [e1, e2]
  have : x.writer = 0 ∨ x.writer = 1 ∨ x.writer = 2 := by omega
  rcases this with e | e | e <;> rw [e] <;> rfl
theorem stL_nextW (x : DeSt) : (stL x).set 0 ((x.writer : Int) + 1) = stL (nextW x) := rfl
theorem blk_five {W : World} {b : Nat} {t : TypeId} {L : List Int} (h : BlkI W b t L) (hl : L.length = 5) (a0 a1 a2 a3 a4 : Int) :
    BlkI (((((W.setCell ⟨b, 0, none⟩ (.int .i64 a0)).setCell ⟨b, 1, none⟩ (.int .i64 a1)).setCell ⟨b, 2, none⟩ (.int .i64 a2)).setCell ⟨b, 3, none⟩ (.int .i64 a3)).setCell ⟨b, 4, none⟩ (.int .i64 a4)) b t [a0, a1, a2, a3, a4] := by
  have := ((((h.set 0 a0).set 1 a1).set 2 a2).set 3 a3).set 4 a4
  match L, hl with
  | [l0, l1, l2, l3, l4], _ => exact this
theorem filter_yesD {p : Nat → Bool} {k : Nat} (h : p k = true) : (List.range (k + 1)).filter p = (List.range k).filter p ++ [k] := by
  rw [List.range_succ, List.filter_append]; simp [h]
theorem filter_noD {p : Nat → Bool} {k : Nat} (h : p k = false) : (List.range (k + 1)).filter p = (List.range k).filter p := by
  rw [List.range_succ, List.filter_append]; simp [h]
theorem filter_preD {p : Nat → Bool} {k n : Nat} (hk : k < n) (h : p k = true) : (List.range k).filter p ++ [k] <+: (List.range n).filter p := by
  rw [← filter_yesD h]
  obtain ⟨m, rfl⟩ : ∃ m, n = (k + 1) + m := ⟨n - (k + 1), by omega⟩
  rw [show List.range (k + 1 + m) = List.range (k + 1) ++ (List.range m).map (k + 1 + ·) from List.range_add, List.filter_append]
  exact List.prefix_append _ _
/-- The stands that can follow, of the first customers. -/
def nextTo (h : DeH) (wm cm : Nat) (x : DeSt) (k : Nat) : List (Int × DeSt) := (-1, nextW x) :: ((List.range k).filter (putB h wm cm x)).map fun (c : Nat) => ((c : Int), nextC h x c)
theorem nextTo_yes {h : DeH} {wm cm : Nat} {x : DeSt} {k : Nat} (hp : putB h wm cm x k = true) : nextTo h wm cm x (k + 1) = nextTo h wm cm x k ++ [((k : Int), nextC h x k)] := by
  unfold nextTo; rw [filter_yesD hp, List.map_append]; rfl
theorem nextTo_no {h : DeH} {wm cm : Nat} {x : DeSt} {k : Nat} (hp : putB h wm cm x k = false) : nextTo h wm cm x (k + 1) = nextTo h wm cm x k := by
  unfold nextTo; rw [filter_noD hp]
theorem nextTo_all {h : DeH} {wm cm : Nat} {x : DeSt} (hx : x.writer ≠ h.writers.length) : nextTo h wm cm x h.customers.length = nextD h wm cm x := by
  unfold nextTo nextD; rw [if_neg hx]
theorem nextTo_pre {h : DeH} {wm cm : Nat} {x : DeSt} (hx : x.writer ≠ h.writers.length) {k : Nat} (hk : k < h.customers.length) (hp : putB h wm cm x k = true) : nextTo h wm cm x k ++ [((k : Int), nextC h x k)] <+: nextD h wm cm x := by
  rw [← nextTo_all hx]
  unfold nextTo
  obtain ⟨t, ht⟩ := filter_preD hk hp
  rw [← ht]
  exact ⟨t.map fun (c : Nat) => ((c : Int), nextC h x c), by simp⟩
theorem nextTo_first {h : DeH} {wm cm : Nat} {x : DeSt} (hx : x.writer ≠ h.writers.length) : [] ++ [((-1 : Int), nextW x)] <+: nextD h wm cm x := by
  unfold nextD; rw [if_neg hx]
  exact ⟨_, rfl⟩

/-- What the iterator needs: the hall, the cell that points to it, and the stand. -/
def ZN (W : World) (bm bo xb rc : Nat) (aw ac : Option Addr) (kw kc : Nat) (h : DeH) (wm cm : Nat) (x : DeSt) : Prop := HallW W bm bo aw ac kw kc h wm cm ∧ StB W xb x ∧ W.heap[rc]? = some (.cells #[.pointer (some ⟨bm, 0, none⟩)] 94 (0, 0))
@[reducible] def encN (y : Int × DeSt) : Array Value := #[.int .i64 y.1, standV y.2]

set_option maxRecDepth 100000 in
set_option maxHeartbeats 4000000 in
theorem DNext1_any (aw ac : Option Addr) (kw kc : Nat) (h : DeH) (bm bo wm cm xb rc l : Nat) (x : DeSt) (hv : DeValid h) (hwm : wm < 8) (hcm : cm < 32) (hx : StOk h x) (B : Nat) (W : World) (hB : B ≤ W.heap.size) (J Jx : List (Int × DeSt) → World → Prop)
    (hJ : ∀ s A A', J s A → Below W.heap.size A A' → J s A')
    (hJZ : ∀ s A, J s A → ZN A bm bo xb rc aw ac kw kc h wm cm x)
    (hY : ∀ (pre : List (Int × DeSt)) (y : Int × DeSt) (W1 : World), J pre W1 → pre ++ [y] <+: nextD h wm cm x → YieldAt Fence.wide 0 Try.prog l (encN y) W1 fun e W' => (e = .returned (.bool true) ∧ J (pre ++ [y]) W' ∧ Above B W1 W') ∨ (e = .returned (.bool false) ∧ Jx (pre ++ [y]) W')) (hj : J [] W) :
    Calls Try.prog 99 #[.func (.yield l) #[] #[], .pointer (some ⟨xb, 0, none⟩), .pointer (some ⟨rc, 0, none⟩)] W fun e W' => (∃ v, e = .returned v) ∧ (J (nextD h wm cm x) W' ∨ ∃ pre, Jx pre W') := by
  have hnw := hv.nw
  have hnc := hv.nc
  have hxw := hx.w
  have hz := hJZ _ _ hj
  have l1 := hz.1.hall.okw.len
  have l1c := hz.1.hall.okw.1
  have l2 := hz.1.hall.okc.len
  have l2c := hz.1.hall.okc.1
  obtain ⟨y0, y1, y2, y3, y4, y5, y6⟩ := hz.1.blk.cells
  obtain ⟨x0, x1, x2, x3, x4, xz⟩ := StB.cells hz.2.1
  have r0 := blk_cell 0 hz.2.2 rfl
  simp only [List.getElem_toArray, List.getElem_cons_zero] at r0
  have rz := lt_of_block hz.2.2
  by_cases hw : x.writer = h.writers.length
  · have g1 := eqn_t hw
    have HN : Hid (nextD h wm cm x = []) := Lib.hid (by unfold nextD; rw [if_pos hw])
    have HJ := Lib.hid (fun A' hb => hJ _ _ A' hj hb)
    clear hw hY hJ hJZ hz hj
    go_enter Try.func99, Try.ntmps99
    go_step3
    go_wp2
    go_quiet (fail)
    go_wp2
    (try simp only [Exit.inBlock, Exit.then])
    rw [Exit.noGoto_ret]
    refine bodyPost_ret (results_none rfl _ _ _) rfl ?_
    rw [HN.out]
    exact ⟨⟨_, rfl⟩, .inl (HJ.out _ (below_draws _ _ _))⟩
  · have g1 := eqn_f hw
    have HW := Lib.hid hw
    have hlt : x.writer < h.writers.length := by omega
    have HBN := Lib.hid (nextTo_first (wm := wm) (cm := cm) hw)
    have HPRE := Lib.hid (fun (k : Nat) (hk : k < h.customers.length) hp => nextTo_pre (wm := wm) (cm := cm) hw hk hp)
    have HALL := Lib.hid (nextTo_all (wm := wm) (cm := cm) hw)
    clear hw
    have HJ := Lib.hid hJ
    have HJZ := Lib.hid hJZ
    have HY := Lib.hid hY
    have hj0 := Lib.hid (fun A' hb => hJ _ _ A' hj hb)
    have HX := Lib.hid hx
    clear hJ hJZ hY hj hz hx
    go_enter Try.func99, Try.ntmps99
    go_step3
    go_wp2
    go_quiet (fail)
    clear y0 y1 y2 y3 y4 y5 y6 x0 x1 x2 x3 x4 xz r0 rz
    have hbU := below_draws W.heap.size W nq
    have hjU := hj0.out _ hbU
    generalize World.drewN W nq = U at hbU hjU ⊢
    clear nq
    have hzU := hbU.size
    have hz := HJZ.out _ _ hjU
    obtain ⟨y0, y1, y2, y3, y4, y5, y6⟩ := hz.1.blk.cells
    obtain ⟨x0, x1, x2, x3, x4, xz⟩ := StB.cells hz.2.1
    have r0 := blk_cell 0 hz.2.2 rfl
    simp only [List.getElem_toArray, List.getElem_cons_zero] at r0
    have rz := lt_of_block hz.2.2
    clear hz
    go_upto_region 3 with (fail)
    obtain ⟨Y, hYe⟩ : ∃ Y : World, Y = U.alloc (.cells #[.int .i64 ((x.writer : Int) + 1), .int .i64 (x.done : Int), .int .i64 (minuteAt x 0), .int .i64 (minuteAt x 1), .int .i64 (minuteAt x 2)] 105) := ⟨_, rfl⟩
    rw [← hYe]
    have hbY : Below W.heap.size W Y := by rw [hYe]; exact hbU.alloc hzU _
    have hYs : StB Y U.heap.size (nextW x) := by rw [hYe]; exact alloc_at _ _ rfl
    have hjY := hj0.out _ hbY
    clear hYe hjU hbU y0 y1 y2 y3 y4 y5 y6 x0 x1 x2 x3 x4 xz r0 rz
    have hBy : B ≤ U.heap.size := Nat.le_trans hB hzU
    have HY0 := HY.out [] (-1, nextW x) Y hjY HBN.out
    obtain ⟨fn, tmps, assign, body, hyr, hR⟩ := HY0
    have HR := Lib.hid hR
    clear hR hjY
    obtain ⟨e0, e1, e2, e3, e4, ez⟩ := StB.cells hYs
    dsimp only [encN, standV] at hyr
    refine (wpIn_wide (n := 0)).1 ?_
    gi_wp2
    refine ⟨rfl, HR.out.mono ?_⟩
    rintro e W2 (⟨rfl, hj2, hab⟩ | ⟨rfl, hq⟩)
    rotate_left 1
    · gi_wp2
      go_wp2
      (try simp only [Exit.inBlock, Exit.then])
      rw [Exit.noGoto_ret]
      exact bodyPost_ret (results_none rfl _ _ _) rfl ⟨⟨_, rfl⟩, .inr ⟨_, hq⟩⟩
    · have hy2 : BlkI W2 U.heap.size 105 (stL (nextW x)) := hYs.same (hab.block _ hBy hYs.lt)
      clear HR hyr e0 e1 e2 e3 e4 ez hab hYs hbY HBN
      have hz := HJZ.out _ _ hj2
      obtain ⟨y0, y1, y2, y3, y4, y5, y6⟩ := hz.1.blk.cells
      obtain ⟨x0, x1, x2, x3, x4, xz⟩ := StB.cells hz.2.1
      have r0 := blk_cell 0 hz.2.2 rfl
      simp only [List.getElem_toArray, List.getElem_cons_zero] at r0
      have rz := lt_of_block hz.2.2
      clear hz
      replace hj2 := Lib.hid (show J (nextTo h wm cm x 0) W2 from hj2)
      gi_wp2
      go_wp2
      go_step3
      go_wp2
      go_loopw [34] (fun i wr => ∃ c : Nat, c ≤ h.customers.length ∧ i = .int .i64 c ∧ Hid (J (nextTo h wm cm x c) wr) ∧ ∃ L : List Int, L.length = 5 ∧ BlkI wr U.heap.size 105 L) (fun i _ => h.customers.length - (intOf i).toNat)
      case atStart => exact ⟨0, Nat.zero_le _, rfl, hj2, _, rfl, hy2⟩
      case round =>
        clear y0 y1 y2 y3 y4 y5 y6 x0 x1 x2 x3 x4 xz r0 rz hj2 hy2
        obtain ⟨c, hc, rfl, hj, L, hL5, hL⟩ := hrel
        have hz := HJZ.out _ _ hj.out
        obtain ⟨y0, y1, y2, y3, y4, y5, y6⟩ := hz.1.blk.cells
        obtain ⟨x0, x1, x2, x3, x4, xz⟩ := StB.cells hz.2.1
        have r0 := blk_cell 0 hz.2.2 rfl
        simp only [List.getElem_toArray, List.getElem_cons_zero] at r0
        have rz := lt_of_block hz.2.2
        have xm := StB.minute hz.2.1 x.writer (by omega)
        by_cases hlc : c < h.customers.length
        · have hcn : (c : Int) < h.customers.length := by omega
          have hx3 : (x.writer : Int) < 3 := by omega
          have CA := Lib.hid (fun (V : World) (hV : HallW V bm bo aw ac kw kc h wm cm) => DCan_any _ _ _ _ h bm bo wm cm x.writer c V hV hv hwm hlt hlc)
          obtain ⟨b3, o3, rfl, -, -, k1, k2, k3, k4⟩ := hz.1.hall.custs c hlc
          have z3 := lt_of_cell k3
          have hcs := customer_ship hv hlc
          have ec : customerAt h c = h.customers[c] := by unfold customerAt; rw [List.getElem?_eq_getElem hlc]; rfl
          have hxm := HX.out.m x.writer
          have hwx := hv.wax
          have hgo : Hid (goD h x c = minuteAt x x.writer + h.customers[c].hi + h.wax) := Lib.hid (by unfold goD; rw [ec]; rfl)
          have HPB : Hid (putB h wm cm x c = (cm.testBit c && !x.done.testBit c && (wm.testBit x.writer && canD h x.writer c) && decide (goD h x c ≤ h.customers[c].ship))) := Lib.hid (by unfold putB; rw [ec])
          rw [hgo.out] at HPB
          rw [ec] at hcs
          clear ec
          generalize h.customers[c].hi = thi at k3 hcs hgo HPB
          generalize hsh : h.customers[c].ship = tsh at k4 hcs HPB
          have HSH := Lib.hid hsh
          clear hsh
          have g2 := bit_zeroD cm (by omega) c (by omega)
          have g3 := bit_and x.done (by have := HX.out.d; have := pow32 hv; omega) c (by omega)
          have hc64 : (c : Int) < 64 := by omega
          have HZ := Lib.hid hz.1
          have HNO := Lib.hid (fun hp => nextTo_no (h := h) (wm := wm) (cm := cm) (x := x) (k := c) hp)
          clear hz
          go_upto_region 8 with (fail)
          go_quiet (fail)
          have hbV := below_draws wr.heap.size wr nq
          have hWw : W.heap.size ≤ wr.heap.size := by have := hL.lt; omega
          have hjV := HJ.out _ _ _ hj.out (hbV.mono hWw)
          have hLV : BlkI (wr.drewN nq) U.heap.size 105 L := hL.same (hbV.block _ hL.lt)
          replace HZ := Lib.hid (HZ.out.below hbV)
          clear y0 y1 y2 y3 y4 y5 y6 x0 x1 x2 x3 x4 xz r0 rz xm k1 k2 k3 k4 z3 hL hj
          generalize World.drewN wr nq = V at hbV hjV hLV HZ ⊢
          clear nq
          have hz := HJZ.out _ _ hjV
          obtain ⟨y0, y1, y2, y3, y4, y5, y6⟩ := hz.1.blk.cells
          obtain ⟨x0, x1, x2, x3, x4, xz⟩ := StB.cells hz.2.1
          have r0 := blk_cell 0 hz.2.2 rfl
          simp only [List.getElem_toArray, List.getElem_cons_zero] at r0
          have rz := lt_of_block hz.2.2
          clear hz
          cases hb1 : cm.testBit c
          · rw [hb1] at g2 HPB
            simp only [Bool.not_false] at g2
            clear hb1
            go_wp2
            go_roundw
            case rel => exact ⟨c + 1, by omega, by go_num, Lib.hid (by rw [HNO.out (by rw [HPB.out]; simp)]; exact hjV), L, hL5, hLV⟩
            case measure => simp [intOf]; omega
          rw [hb1] at g2 HPB
          simp only [Bool.not_true] at g2
          clear hb1
          cases hb2 : x.done.testBit c
          rotate_left 1
          · rw [hb2] at g3 HPB
            clear hb2
            go_wp2
            go_roundw
            case rel => exact ⟨c + 1, by omega, by go_num, Lib.hid (by rw [HNO.out (by rw [HPB.out]; simp)]; exact hjV), L, hL5, hLV⟩
            case measure => simp [intOf]; omega
          rw [hb2] at g3 HPB
          clear hb2
          have CV := CA.out V HZ.out
          generalize (wm.testBit x.writer && canD h x.writer c) = cb at CV HPB
          replace CV := Lib.hid CV
          cases cb
          · go_wp2_with (go_at_call 100; go_must ((with_reducible refine CV.out.mono ?_); rintro e w2 ⟨rfl, nq2, rfl⟩; dsimp only))
            go_roundw
            case rel => exact ⟨c + 1, by omega, by go_num, Lib.hid (by rw [HNO.out (by rw [HPB.out]; simp)]; exact HJ.out _ _ _ hjV ((below_draws _ V nq2).mono (Nat.le_refl _))), L, hL5, hLV.same ((below_draws _ V nq2).block _ hLV.lt)⟩
            case measure => simp [intOf]; omega
          obtain ⟨b3', o3', e3, -, -, -, -, -, k4⟩ := HZ.out.hall.custs c hlc
          cases e3
          rw [HSH.out] at k4
          have z3 := lt_of_cell k4
          by_cases hgt : tsh < minuteAt x x.writer + thi + h.wax
          · go_wp2_with (go_at_call 100; go_must ((with_reducible refine CV.out.mono ?_); rintro e w2 ⟨rfl, nq2, rfl⟩; dsimp only))
            go_roundw
            case rel => exact ⟨c + 1, by omega, by go_num, Lib.hid (by rw [HNO.out (by rw [HPB.out]; simp; omega)]; exact HJ.out _ _ _ hjV ((below_draws _ V nq2).mono (Nat.le_refl _))), L, hL5, hLV.same ((below_draws _ V nq2).block _ hLV.lt)⟩
            case measure => simp [intOf]; omega
          have hle : minuteAt x x.writer + thi + h.wax ≤ tsh := by omega
          have hpb := HPB.out
          rw [decide_eq_true hle] at hpb
          have hpb2 : putB h wm cm x c = true := by rw [hpb]; rfl
          have HYES := Lib.hid (nextTo_yes (h := h) (wm := wm) (cm := cm) (x := x) (k := c) hpb2)
          have HPC := Lib.hid (HPRE.out c hlc hpb2)
          clear hle hpb hpb2 HPB HNO
          go_upto_region 10 with (go_at_call 100; go_must ((with_reducible refine CV.out.mono ?_); rintro e w2 ⟨rfl, nq2, rfl⟩; dsimp only))
          have hb2 := below_draws V.heap.size V nq2
          have hWV : W.heap.size ≤ V.heap.size := by have := hbV.size; omega
          have hj2 := HJ.out _ _ _ hjV (hb2.mono hWV)
          have hL2 : BlkI (V.drewN nq2) U.heap.size 105 L := hLV.same (hb2.block _ hLV.lt)
          clear y0 y1 y2 y3 y4 y5 y6 x0 x1 x2 x3 x4 xz r0 rz k4 z3 hLV hjV CV HZ CA
          generalize World.drewN V nq2 = V2 at hb2 hj2 hL2 ⊢
          clear nq2
          have hz := HJZ.out _ _ hj2
          obtain ⟨x0, x1, x2, x3, x4, xz⟩ := StB.cells hz.2.1
          have f0 := hL2.free 0
          have f1 := hL2.free 1
          have f2 := hL2.free 2
          have f3 := hL2.free 3
          have f4 := hL2.free 4
          have d0 := hL2.cell 0 (by omega)
          have d1 := hL2.cell 1 (by omega)
          have d2 := hL2.cell 2 (by omega)
          have d3 := hL2.cell 3 (by omega)
          have d4 := hL2.cell 4 (by omega)
          have dz := hL2.lt
          clear hz
          go_upto_region 11 with (fail)
          obtain ⟨Z, hZ⟩ : ∃ Z : World, Z = ((((V2.setCell ⟨U.heap.size, 0, none⟩ (.int .i64 (x.writer : Int))).setCell ⟨U.heap.size, 1, none⟩ (.int .i64 (x.done : Int))).setCell ⟨U.heap.size, 2, none⟩ (.int .i64 (minuteAt x 0))).setCell ⟨U.heap.size, 3, none⟩ (.int .i64 (minuteAt x 1))).setCell ⟨U.heap.size, 4, none⟩ (.int .i64 (minuteAt x 2)) := ⟨_, rfl⟩
          rw [← hZ]
          have hZL : BlkI Z U.heap.size 105 (stL x) := by rw [hZ]; exact blk_five hL2 hL5 _ _ _ _ _
          have hbZ : Below W.heap.size V2 Z := by rw [hZ]; exact (((((Below.refl _ _).setCell hzU _).setCell hzU _).setCell hzU _).setCell hzU _).setCell hzU _
          have hjZ := HJ.out _ _ _ hj2 hbZ
          clear hZ x0 x1 x2 x3 x4 xz f0 f1 f2 f3 f4 d0 d1 d2 d3 d4 dz hj2 hL2
          have hdl := HX.out.d
          have hp32 := pow32 hv
          have HOR := Lib.hid (or_bit32 x.done (by omega) c (by omega))
          have HNX := Lib.hid (stL_next HX.out c (by omega))
          rw [hgo.out] at HNX
          have d1 := hZL.cell 1 (by simp)
          simp only [List.getElem_cons_zero, List.getElem_cons_succ] at d1
          have f1 := hZL.free 1
          have dz := hZL.lt
          clear hdl hp32
          apply wp_mid _ (fun Z' => BlkI Z' U.heap.size 105 ((stL x).set 1 ((x.done ||| 2 ^ c : Nat) : Int)) ∧ Below W.heap.size Z Z')
          · (focus go_region)
            all_goals
              rw [HOR.out]
              refine ⟨rfl, ?_, ?_⟩
              · exact hZL.set 1 _
              · exact below_drew' ((Below.refl _ _).setCell hzU _)
          rintro Z1 ⟨hL1, hbZ1⟩
          have hj1 := HJ.out _ _ _ hjZ hbZ1
          clear d1 f1 dz hjZ hZL
          have hz := HJZ.out _ _ hj1
          obtain ⟨x0, x1, x2, x3, x4, xz⟩ := StB.cells hz.2.1
          have dm := hL1.cell (2 + x.writer) (by simp; omega)
          have fm := hL1.free (2 + x.writer)
          have dz := hL1.lt
          clear hz
          go_upto_region 13 with (fail)
          obtain ⟨Z2, hZ2⟩ : ∃ Z2 : World, Z2 = Z1.setCell ⟨U.heap.size, 2 + x.writer, none⟩ (.int .i64 (minuteAt x x.writer + thi + h.wax)) := ⟨_, rfl⟩
          rw [← hZ2]
          have hS2 : StB Z2 U.heap.size (nextC h x c) := by
            have h9 := hL1.set (2 + x.writer) (minuteAt x x.writer + thi + h.wax)
            rw [HNX.out] at h9
            rw [hZ2]
            exact h9
          have hj2 := HJ.out _ _ Z2 hj1 (by rw [hZ2]; exact (Below.refl _ _).setCell hzU _)
          clear hZ2 x0 x1 x2 x3 x4 xz dm fm dz hj1 hL1
          have HY0 := HY.out (nextTo h wm cm x c) ((c : Int), nextC h x c) Z2 hj2 HPC.out
          rw [← HYES.out] at HY0
          obtain ⟨fn, tmps, assign, body, hyr, hR⟩ := HY0
          have HR := Lib.hid hR
          clear hR hj2
          obtain ⟨e0, e1, e2, e3, e4, ez⟩ := StB.cells hS2
          dsimp only [encN, standV] at hyr
          refine (wpIn_wide (n := 0)).1 ?_
          gi_wp2
          refine ⟨rfl, HR.out.mono ?_⟩
          rintro e W3 (⟨rfl, hj3, hab⟩ | ⟨rfl, hq⟩)
          rotate_left 1
          · gi_wp2
            go_wp2
            (try simp only [Exit.inBlock, Exit.then])
            rw [Exit.noGoto_ret]
            exact bodyPost_ret (results_none rfl _ _ _) rfl ⟨⟨_, rfl⟩, .inr ⟨_, hq⟩⟩
          · have hL3 : BlkI W3 U.heap.size 105 (stL (nextC h x c)) := hS2.same (hab.block _ hBy hS2.lt)
            clear HR hyr e0 e1 e2 e3 e4 ez hab hS2
            gi_wp2
            go_wp2
            go_roundw
            case rel => exact ⟨c + 1, by omega, by go_num, Lib.hid hj3, _, rfl, hL3⟩
            case measure => simp [intOf]; omega
        · obtain rfl : c = h.customers.length := by omega
          rw [HALL.out] at hj
          go_wp2
          (try simp only [Exit.noGoto])
          go_end0
          exact ⟨⟨_, rfl⟩, .inl hj.out⟩
/-- next, as an iterator. -/
theorem DNext_seq (aw ac : Option Addr) (kw kc : Nat) (h : DeH) (bm bo wm cm xb rc : Nat) (x : DeSt) (hv : DeValid h) (hwm : wm < 8) (hcm : cm < 32) (hx : StOk h x) (w0 : World) :
    SeqX Try.prog 99 #[.pointer (some ⟨xb, 0, none⟩), .pointer (some ⟨rc, 0, none⟩)] encN w0.heap.size (fun A => ZN A bm bo xb rc aw ac kw kc h wm cm x) (nextD h wm cm x) w0 :=
  fun l J Jx W _ hz hJ hJZ hY hj => callsIn_wide.2 (DNext1_any aw ac kw kc h bm bo wm cm xb rc l x hv hwm hcm hx w0.heap.size W hz J Jx hJ hJZ hY hj)
end Go.Proofs.Ytchnpekgmkhacaa
