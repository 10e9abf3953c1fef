/- What is proved here: the contract of some, of fewest's questions, of Enough and of Away. Conditions: the hall lies in memory. -/
import Derived.Test.YtchnpekgmkhacaaDeOver2
import Derived.Test.YtchnpekgmkhacaaDeEnter
set_option linter.unusedVariables false
set_option linter.unusedSimpArgs false
namespace Go.Proofs.Ytchnpekgmkhacaa
open Go Go.RowKit Go.Shelf

set_option maxRecDepth 100000 in
set_option maxHeartbeats 1000000 in
theorem st_lits (a b c d e : Int) (ha : 0 ≤ a ∧ a < 64000) (hb : 0 ≤ b ∧ b < 64000) (hc : 0 ≤ c ∧ c < 64000) (hd : 0 ≤ d ∧ d < 64000) (he : 0 ≤ e ∧ e < 64000) : Try.prog.keyLits 3 105 (Value.agg #[.int .i64 a, .int .i64 b, .int .i64 c, .int .i64 d, .int .i64 e]).cells.toList = some [.int .i64 a, .int .i64 b, .int .i64 c, .int .i64 d, .int .i64 e] := by
  have h1 : (match Try.prog.underlying 105 with | some (.struct fs) => (fs.toList.map fun f => (f.type, f.offset)) == [(3, 0), (3, 1), (103, 2)] && fs.all (fun f => f.name != "_") | _ => false) = true := by kernel_rfl
  have h4 : Try.prog.underlying 3 = some (.int .i64) := by kernel_rfl
  have h5 : Try.prog.cellsOf 3 = 1 := by kernel_rfl
  have h6 : Try.prog.cellsOf 105 = 5 := by kernel_rfl
  have h8 : Try.prog.cellsOf 103 = 3 := by kernel_rfl
  have e1 : ∀ (m : Nat) (x : Int), 0 ≤ x ∧ x < 64000 → Try.prog.keyLits (m + 1) 3 [.int .i64 x] = some [.int .i64 x] := fun m x hx => by
    unfold Program.keyLits
    simp only [h4, okI_small x hx.1 hx.2, and_self, if_true]
  have e3 : Try.prog.keyLits 2 103 [.int .i64 c, .int .i64 d, .int .i64 e] = some [.int .i64 c, .int .i64 d, .int .i64 e] := min_lits c d e hc hd he
  cases hu : Try.prog.underlying 105 with
  | none => rw [hu] at h1; cases h1
  | some kd =>
    rw [hu] at h1
    cases kd with
    | struct fs =>
      simp only [Bool.and_eq_true, beq_iff_eq] at h1
      obtain ⟨g1, g2⟩ := h1
      show Try.prog.keyLits (2 + 1) 105 [.int .i64 a, .int .i64 b, .int .i64 c, .int .i64 d, .int .i64 e] = _
      unfold Program.keyLits
      rw [hu]
      obtain ⟨L⟩ := fs
      simp only at g1 g2 ⊢
      match L, g1 with
      | [f0, f1, f2], g1 =>
        simp only [List.map_cons, List.map_nil, List.cons.injEq, Prod.mk.injEq, and_true] at g1
        obtain ⟨⟨t0, o0⟩, ⟨t1, o1⟩, t2, o2⟩ := g1
        simp only [h6, List.length_cons, List.length_nil, Nat.zero_add, Nat.reduceAdd, g2, and_self, if_true, List.mapM_cons, List.mapM_nil, t0, o0, t1, o1, t2, o2, h5, h8, List.drop_zero, List.drop_succ_cons, List.take_succ_cons, List.take_zero, e1 1 a ha, e1 1 b hb, e3]
        rfl
    | _ => simp at h1
theorem st_eq (a b c d e a' b' c' d' e' : Int) (ha : 0 ≤ a ∧ a < 64000) (hb : 0 ≤ b ∧ b < 64000) (hc : 0 ≤ c ∧ c < 64000) (hd : 0 ≤ d ∧ d < 64000) (he : 0 ≤ e ∧ e < 64000) (ha' : 0 ≤ a' ∧ a' < 64000) (hb' : 0 ≤ b' ∧ b' < 64000) (hc' : 0 ≤ c' ∧ c' < 64000) (hd' : 0 ≤ d' ∧ d' < 64000) (he' : 0 ≤ e' ∧ e' < 64000) (w : World) :
    (Op.equalIn 10000 105 (.agg #[.int .i64 a, .int .i64 b, .int .i64 c, .int .i64 d, .int .i64 e]) (.agg #[.int .i64 a', .int .i64 b', .int .i64 c', .int .i64 d', .int .i64 e'])).run Try.prog w = .ok (decide (a = a' ∧ b = b' ∧ c = c' ∧ d = d' ∧ e = e')) w := by
  obtain ⟨r, hr, hi⟩ := run_equalIn_deep (P := Try.prog) 9997 3 105 (by kernel_rfl) w 3 3 (.agg #[.int .i64 a, .int .i64 b, .int .i64 c, .int .i64 d, .int .i64 e]) (.agg #[.int .i64 a', .int .i64 b', .int .i64 c', .int .i64 d', .int .i64 e']) _ _ (by kernel_rfl) (by kernel_rfl) (st_lits a b c d e ha hb hc hd he) (st_lits a' b' c' d' e' ha' hb' hc' hd' he')
  have e : r = decide (a = a' ∧ b = b' ∧ c = c' ∧ d = d' ∧ e = e') := by
    rw [Bool.eq_iff_iff, hi]
    simp only [List.cons.injEq, Lit.int.injEq, true_and, and_true, decide_eq_true_eq]
  rw [e] at hr
  exact hr
/-- With no customers there is a plan. -/
theorem over_nobody {h : DeH} (hv : DeValid h) (wm : Nat) : 0 ≤ overB h wm 0 := by
  refine (someM_iff hv.nw (Nat.two_pow_pos _)).2 ⟨List.replicate h.writers.length [], ⟨by simp, by simp, fun c => ?_, fun w l hw c hc => ?_⟩, fun w l hw => ?_⟩
  · simp
  · obtain ⟨_, e⟩ := List.getElem?_eq_some_iff.1 hw
    rw [List.getElem_replicate] at e
    rw [← e] at hc; cases hc
  · obtain ⟨_, e⟩ := List.getElem?_eq_some_iff.1 hw
    rw [List.getElem_replicate] at e
    rw [← e]; trivial
theorem leB_ge (n : Int) : decide (n ≥ 0) = decide (0 ≤ n) := rfl
set_option maxRecDepth 100000 in
set_option maxHeartbeats 2000000 in
theorem DSome_any (aw ac : Option Addr) (kw kc : Nat) (h : DeH) (bm bo wm0 cm0 wm cm : Nat) (w : World) (hm : HallW w bm bo aw ac kw kc h wm0 cm0) (hv : DeValid h) (hwm : wm < 8) (hcm : cm < 32) (hcn : cm < 2 ^ h.customers.length) :
    Calls Try.prog 81 #[.pointer (some ⟨bm, 0, none⟩), .int .i64 (wm : Int), .int .i64 (cm : Int)] w fun e w' => e = .returned (.bool (decide (0 ≤ overB h wm cm))) ∧ Below w.heap.size w w' := by
  obtain ⟨y0, y1, y2, y3, y4, y5, y6⟩ := hm.blk.cells
  have LK := Lib.hid (DLookN_any aw ac kw kc h w hm.hall hv)
  have HN := Lib.hid (fun e : cm = 0 => (show 0 ≤ overB h wm cm by rw [e]; exact over_nobody hv wm))
  have HOV : Hid (ovD h wm cm (beginD h) = overB h wm cm) := Lib.hid rfl
  have hbok := begin_ok hv
  have hH := Lib.hid hm.hall
  obtain ⟨r, hr⟩ : ∃ r, r = overB h wm cm := ⟨_, rfl⟩
  rw [← hr] at HN HOV ⊢
  clear hr
  go_enter Try.func81, Try.ntmps81
  go_upto_region 2 with (go_at_call 73; go_must ((with_reducible refine LK.out.mono ?_); rintro e w2 ⟨b2, o2, rfl, hB2, hM2, hb2, hlo, hlb⟩; dsimp only))
  clear y0 y1 y2 y3 y4 y5 y6 hm LK
  obtain ⟨y0, y1, y2, y3, y4, y5, y6⟩ := hB2.cells
  have f3 := hB2.free 3
  have f4 := hB2.free 4
  have hlo2 := hM2.lt
  have hne : b2 ≠ o2 := by
    intro e
    obtain ⟨es, c, hm9, _⟩ := hM2
    unfold HBlk at hB2
    rw [e, hm9] at hB2
    cases hB2
  obtain ⟨X, hX⟩ : ∃ X : World, X = (w2.setCell ⟨b2, 3, none⟩ (.int .i64 (wm : Int))).setCell ⟨b2, 4, none⟩ (.int .i64 (cm : Int)) := ⟨_, rfl⟩
  have hXb : Below w.heap.size w X := by rw [hX]; exact (hb2.setCell (by simp; omega) _).setCell (by simp; omega) _
  have hXB : HBlk X b2 o2 aw ac kw kc h wm cm := by
    rw [hX]
    unfold HBlk at hB2 ⊢
    rw [blk_set 4 _ (blk_set 3 _ hB2)]
    rfl
  have hXK : HallW X b2 o2 aw ac kw kc h wm cm := ⟨hH.out.mono hXb, hXB, [], by rw [hX]; exact map_set (map_set hM2 _ _ _ (Ne.symm hne)) _ _ _ (Ne.symm hne), memoD_nil h _ _⟩
  go_upto_region 3 with (fail)
  rw [← hX]
  have hXz := hXb.size
  clear hX hb2 hB2 hM2 y0 y1 y2 y3 y4 y5 y6 f3 f4 hXB
  have BG := DBegin_any aw ac kw kc h b2 o2 wm cm X hXK hv
  have OV := DOver_any aw ac kw kc h b2 o2 wm cm hv hwm hcm (leftD h (beginD h)) (beginD h) (Nat.le_refl _) hbok
  unfold OverC at OV
  rw [HOV.out] at OV
  have hbm := hbok.m
  have hbw := hbok.w
  have hbd := hbok.d
  have hp32 := pow32 hv
  have hnw := hv.nw
  generalize beginD h = st at BG OV hbm hbw hbd
  have m0 := hbm 0
  have m1 := hbm 1
  have m2 := hbm 2
  obtain ⟨eb, heq⟩ : ∃ eb, ∀ W : World, (Op.equalIn 10000 105 (.agg #[.int .i64 (st.writer : Int), .int .i64 (st.done : Int), .int .i64 (minuteAt st 0), .int .i64 (minuteAt st 1), .int .i64 (minuteAt st 2)]) (.agg #[.int .i64 0, .int .i64 0, .int .i64 0, .int .i64 0, .int .i64 0])).run Try.prog W = .ok eb W := by
    exact ⟨_, fun W => st_eq _ _ _ _ _ 0 0 0 0 0 (by omega) (by omega) (by omega) (by omega) (by omega) (by omega) (by omega) (by omega) (by omega) (by omega) W⟩
  replace BG := Lib.hid BG
  replace OV := Lib.hid OV
  have hzb : (zeroValue 105).run Try.prog X = .ok (.agg #[.int .i64 0, .int .i64 0, .int .i64 0, .int .i64 0, .int .i64 0]) X := by kernel_rfl
  go_upto_region 4 with (go_at_call 74; go_must ((with_reducible refine BG.out.mono ?_); rintro e w3 ⟨rfl, hb3⟩; dsimp only))
  obtain ⟨Y, hY⟩ : ∃ Y : World, Y = w3.alloc (.cells #[.int .i64 (st.writer : Int), .int .i64 (st.done : Int), .int .i64 (minuteAt st 0), .int .i64 (minuteAt st 1), .int .i64 (minuteAt st 2)] 105) := ⟨_, rfl⟩
  rw [← hY]
  have hYS : StB Y w3.heap.size st := by rw [hY]; exact alloc_at _ _ rfl
  have hYX : Below X.heap.size X Y := by rw [hY]; exact hb3.alloc hb3.size _
  have hYw : Below w.heap.size w Y := hXb.trans (hYX.mono hXz)
  have hYK := hXK.below hYX
  have OVY := Lib.hid (OV.out Y hYK)
  have HGR := Lib.hid (fun (V : World) (hg : Y.grownBy V (some o2)) => (show Below w.heap.size w V from hYw.grown hg hYw.size (fun k e => by have := Option.some.inj e; omega)))
  obtain ⟨x0, x1, x2, x3, x4, xz⟩ := StB.cells hYS
  clear hY hYX hb3 hXK hYK OV BG hzb hYS
  cases eb
  · go_wp2_with (go_at_call 75; go_must ((with_reducible refine OVY.out.mono ?_); rintro e w4 ⟨rfl, hg4, -, -⟩; dsimp only))
    go_ret
    exact ⟨rfl, HGR.out _ hg4⟩
  · by_cases hc0 : cm = 0
    · have g1 : ((cm : Int) == 0) = true := by simp [hc0]
      have hn := HN.out hc0
      have HG := Lib.hid hc0
      clear hc0
      go_wp2
      go_ret
      exact ⟨ret_bool (by simp [hn]), hYw⟩
    · have g1 : ((cm : Int) == 0) = false := by simp [hc0]
      clear hc0
      go_wp2_with (go_at_call 75; go_must ((with_reducible refine OVY.out.mono ?_); rintro e w4 ⟨rfl, hg4, -, -⟩; dsimp only))
      go_ret
      exact ⟨rfl, HGR.out _ hg4⟩
end Go.Proofs.Ytchnpekgmkhacaa
