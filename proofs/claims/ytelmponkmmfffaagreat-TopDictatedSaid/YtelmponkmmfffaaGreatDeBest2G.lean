/- What is proved here: the contract of some, of fewest's questions, of Enough and of Away. Conditions: the hall lies in memory. -/
/- What is proved here: the contracts of Enough and of Away. Conditions: the hall lies in memory. -/
/- What is proved here: the contract of the search for Best's plan. Conditions: the search lies in memory; the hall is valid. -/
import Derived.Test.YtelmponkmmfffaaGreatDeBest1G
import Derived.Test.YtelmponkmmfffaaGreatDeEnterG
import Derived.Sort.CutIn
set_option linter.unusedVariables false
set_option linter.unusedSimpArgs false
namespace Go.Proofs.YtelmponkmmfffaaGreat
open Go Go.RowKit Go.Shelf

set_option maxRecDepth 100000 in
set_option maxHeartbeats 1000000 in
theorem st_lits (a b c d e : Int) (ha : 0 ≤ a ∧ a < 64000) (hb : 0 ≤ b ∧ b < 64000) (hc : 0 ≤ c ∧ c < 64000) (hd : 0 ≤ d ∧ d < 64000) (he : 0 ≤ e ∧ e < 64000) : Tryz.prog.keyLits 3 115 (Value.agg #[.int .i64 a, .int .i64 b, .int .i64 c, .int .i64 d, .int .i64 e]).cells.toList = some [.int .i64 a, .int .i64 b, .int .i64 c, .int .i64 d, .int .i64 e] := by
  have h1 : (match Tryz.prog.underlying 115 with | some (.struct fs) => (fs.toList.map fun f => (f.type, f.offset)) == [(3, 0), (3, 1), (113, 2)] && fs.all (fun f => f.name != "_") | _ => false) = true := by kernel_rfl
  have h4 : Tryz.prog.underlying 3 = some (.int .i64) := by kernel_rfl
  have h5 : Tryz.prog.cellsOf 3 = 1 := by kernel_rfl
  have h6 : Tryz.prog.cellsOf 115 = 5 := by kernel_rfl
  have h8 : Tryz.prog.cellsOf 113 = 3 := by kernel_rfl
  have e1 : ∀ (m : Nat) (x : Int), 0 ≤ x ∧ x < 64000 → Tryz.prog.keyLits (m + 1) 3 [.int .i64 x] = some [.int .i64 x] := fun m x hx => by
    unfold Program.keyLits
    simp only [h4, okI_small x hx.1 hx.2, and_self, if_true]
  have e3 : Tryz.prog.keyLits 2 113 [.int .i64 c, .int .i64 d, .int .i64 e] = some [.int .i64 c, .int .i64 d, .int .i64 e] := min_lits c d e hc hd he
  cases hu : Tryz.prog.underlying 115 with
  | none => rw [hu] at h1; cases h1
  | some kd =>
    rw [hu] at h1
    cases kd with
    | struct fs =>
      simp only [Bool.and_eq_true, beq_iff_eq] at h1
      obtain ⟨g1, g2⟩ := h1
      show Tryz.prog.keyLits (2 + 1) 115 [.int .i64 a, .int .i64 b, .int .i64 c, .int .i64 d, .int .i64 e] = _
      unfold Program.keyLits
      rw [hu]
      obtain ⟨L⟩ := fs
      simp only at g1 g2 ⊢
      match L, g1 with
      | [f0, f1, f2], g1 =>
        simp only [List.map_cons, List.map_nil, List.cons.injEq, Prod.mk.injEq, and_true] at g1
        obtain ⟨⟨t0, o0⟩, ⟨t1, o1⟩, t2, o2⟩ := g1
        simp only [h6, List.length_cons, List.length_nil, Nat.zero_add, Nat.reduceAdd, g2, and_self, if_true, List.mapM_cons, List.mapM_nil, t0, o0, t1, o1, t2, o2, h5, h8, List.drop_zero, List.drop_succ_cons, List.take_succ_cons, List.take_zero, e1 1 a ha, e1 1 b hb, e3]
        rfl
    | _ => simp at h1
theorem st_eq (a b c d e a' b' c' d' e' : Int) (ha : 0 ≤ a ∧ a < 64000) (hb : 0 ≤ b ∧ b < 64000) (hc : 0 ≤ c ∧ c < 64000) (hd : 0 ≤ d ∧ d < 64000) (he : 0 ≤ e ∧ e < 64000) (ha' : 0 ≤ a' ∧ a' < 64000) (hb' : 0 ≤ b' ∧ b' < 64000) (hc' : 0 ≤ c' ∧ c' < 64000) (hd' : 0 ≤ d' ∧ d' < 64000) (he' : 0 ≤ e' ∧ e' < 64000) (w : World) :
    (Op.equalIn 10000 115 (.agg #[.int .i64 a, .int .i64 b, .int .i64 c, .int .i64 d, .int .i64 e]) (.agg #[.int .i64 a', .int .i64 b', .int .i64 c', .int .i64 d', .int .i64 e'])).run Tryz.prog w = .ok (decide (a = a' ∧ b = b' ∧ c = c' ∧ d = d' ∧ e = e')) w := by
  obtain ⟨r, hr, hi⟩ := run_equalIn_deep (P := Tryz.prog) 9997 3 115 (by kernel_rfl) w 3 3 (.agg #[.int .i64 a, .int .i64 b, .int .i64 c, .int .i64 d, .int .i64 e]) (.agg #[.int .i64 a', .int .i64 b', .int .i64 c', .int .i64 d', .int .i64 e']) _ _ (by kernel_rfl) (by kernel_rfl) (st_lits a b c d e ha hb hc hd he) (st_lits a' b' c' d' e' ha' hb' hc' hd' he')
  have e : r = decide (a = a' ∧ b = b' ∧ c = c' ∧ d = d' ∧ e = e') := by
    rw [Bool.eq_iff_iff, hi]
    simp only [List.cons.injEq, Lit.int.injEq, true_and, and_true, decide_eq_true_eq]
  rw [e] at hr
  exact hr
/-- With no customers there is a plan. -/
theorem over_nobody {h : DeH} (hv : DeValid h) (wm : Nat) : 0 ≤ overB h wm 0 := by
  refine (someM_iff hv.nw (Nat.two_pow_pos _)).2 ⟨List.replicate h.writers.length [], ⟨by simp, by simp, fun c => ?_, fun w l hw c hc => ?_⟩, fun w l hw => ?_⟩
  · simp
  · obtain ⟨_, e⟩ := List.getElem?_eq_some_iff.1 hw
    rw [List.getElem_replicate] at e
    rw [← e] at hc; cases hc
  · obtain ⟨_, e⟩ := List.getElem?_eq_some_iff.1 hw
    rw [List.getElem_replicate] at e
    rw [← e]; trivial
set_option maxRecDepth 100000 in
set_option maxHeartbeats 2000000 in
theorem DSome_any (aw ac : Option Addr) (kw kc : Nat) (h : DeH) (bm bo wm0 cm0 wm cm : Nat) (w : World) (hm : HallW w bm bo aw ac kw kc h wm0 cm0) (hv : DeValid h) (hwm : wm < 8) (hcm : cm < 32) (hcn : cm < 2 ^ h.customers.length) :
    Calls Tryz.prog 87 #[.pointer (some ⟨bm, 0, none⟩), .int .i64 (wm : Int), .int .i64 (cm : Int)] w fun e w' => e = .returned (.bool (decide (0 ≤ overB h wm cm))) ∧ Below w.heap.size w w' := by
  obtain ⟨y0, y1, y2, y3, y4, y5, y6⟩ := hm.blk.cells
  have LK := Lib.hid (DLookN_any aw ac kw kc h w hm.hall hv)
  have HN := Lib.hid (fun e : cm = 0 => (show 0 ≤ overB h wm cm by rw [e]; exact over_nobody hv wm))
  have HOV : Hid (ovD h wm cm (beginD h) = overB h wm cm) := Lib.hid rfl
  have hbok := begin_ok hv
  have hH := Lib.hid hm.hall
  obtain ⟨r, hr⟩ : ∃ r, r = overB h wm cm := ⟨_, rfl⟩
  rw [← hr] at HN HOV ⊢
  clear hr
  go_enter Tryz.func87, Tryz.ntmps87
  go_upto_region 2 with (go_at_call 53; go_must ((with_reducible refine LK.out.mono ?_); rintro e w2 ⟨b2, o2, rfl, hB2, hM2, hb2, hlo, hlb⟩; dsimp only))
  clear y0 y1 y2 y3 y4 y5 y6 hm LK
  obtain ⟨y0, y1, y2, y3, y4, y5, y6⟩ := hB2.cells
  have f3 := hB2.free 3
  have f4 := hB2.free 4
  have hlo2 := hM2.lt
  have hne : b2 ≠ o2 := by
    intro e
    obtain ⟨es, c, hm9, _⟩ := hM2
    unfold HBlk at hB2
    rw [e, hm9] at hB2
    cases hB2
  obtain ⟨X, hX⟩ : ∃ X : World, X = (w2.setCell ⟨b2, 3, none⟩ (.int .i64 (wm : Int))).setCell ⟨b2, 4, none⟩ (.int .i64 (cm : Int)) := ⟨_, rfl⟩
  have hXb : Below w.heap.size w X := by rw [hX]; exact (hb2.setCell (by simp; omega) _).setCell (by simp; omega) _
  have hXB : HBlk X b2 o2 aw ac kw kc h wm cm := by
    rw [hX]
    unfold HBlk at hB2 ⊢
    rw [blk_set 4 _ (blk_set 3 _ hB2)]
    rfl
  have hXK : HallW X b2 o2 aw ac kw kc h wm cm := ⟨hH.out.mono hXb, hXB, [], by rw [hX]; exact map_set (map_set hM2 _ _ _ (Ne.symm hne)) _ _ _ (Ne.symm hne), memoD_nil h _ _⟩
  go_upto_region 3 with (fail)
  rw [← hX]
  have hXz := hXb.size
  clear hX hb2 hB2 hM2 y0 y1 y2 y3 y4 y5 y6 f3 f4 hXB
  have BG := DBegin_any aw ac kw kc h b2 o2 wm cm X hXK hv
  have OV := DOver_any aw ac kw kc h b2 o2 wm cm hv hwm hcm (leftD h (beginD h)) (beginD h) (Nat.le_refl _) hbok
  unfold OverC at OV
  rw [HOV.out] at OV
  have hbm := hbok.m
  have hbw := hbok.w
  have hbd := hbok.d
  have hp32 := pow32 hv
  have hnw := hv.nw
  generalize beginD h = st at BG OV hbm hbw hbd
  have m0 := hbm 0
  have m1 := hbm 1
  have m2 := hbm 2
  obtain ⟨eb, heq⟩ : ∃ eb, ∀ W : World, (Op.equalIn 10000 115 (.agg #[.int .i64 (st.writer : Int), .int .i64 (st.done : Int), .int .i64 (minuteAt st 0), .int .i64 (minuteAt st 1), .int .i64 (minuteAt st 2)]) (.agg #[.int .i64 0, .int .i64 0, .int .i64 0, .int .i64 0, .int .i64 0])).run Tryz.prog W = .ok eb W := by
    exact ⟨_, fun W => st_eq _ _ _ _ _ 0 0 0 0 0 (by omega) (by omega) (by omega) (by omega) (by omega) (by omega) (by omega) (by omega) (by omega) (by omega) W⟩
  replace BG := Lib.hid BG
  replace OV := Lib.hid OV
  have hzb : (zeroValue 115).run Tryz.prog X = .ok (.agg #[.int .i64 0, .int .i64 0, .int .i64 0, .int .i64 0, .int .i64 0]) X := by kernel_rfl
  go_upto_region 4 with (go_at_call 54; go_must ((with_reducible refine BG.out.mono ?_); rintro e w3 ⟨rfl, hb3⟩; dsimp only))
  obtain ⟨Y, hY⟩ : ∃ Y : World, Y = w3.alloc (.cells #[.int .i64 (st.writer : Int), .int .i64 (st.done : Int), .int .i64 (minuteAt st 0), .int .i64 (minuteAt st 1), .int .i64 (minuteAt st 2)] 115) := ⟨_, rfl⟩
  rw [← hY]
  have hYS : StB Y w3.heap.size st := by rw [hY]; exact alloc_at _ _ rfl
  have hYX : Below X.heap.size X Y := by rw [hY]; exact hb3.alloc hb3.size _
  have hYw : Below w.heap.size w Y := hXb.trans (hYX.mono hXz)
  have hYK := hXK.below hYX
  have OVY := Lib.hid (OV.out Y hYK)
  have HGR := Lib.hid (fun (V : World) (hg : Y.grownBy V (some o2)) => (show Below w.heap.size w V from hYw.grown hg hYw.size (fun k e => by have := Option.some.inj e; omega)))
  obtain ⟨x0, x1, x2, x3, x4, xz⟩ := StB.cells hYS
  clear hY hYX hb3 hXK hYK OV BG hzb hYS
  cases eb
  · go_wp2_with (go_at_call 55; go_must ((with_reducible refine OVY.out.mono ?_); rintro e w4 ⟨rfl, hg4, -, -⟩; dsimp only))
    go_ret
    exact ⟨rfl, HGR.out _ hg4⟩
  · by_cases hc0 : cm = 0
    · have g1 : ((cm : Int) == 0) = true := by simp [hc0]
      have hn := HN.out hc0
      have HG := Lib.hid hc0
      clear hc0
      go_wp2
      go_ret
      exact ⟨ret_bool (by simp [hn]), hYw⟩
    · have g1 : ((cm : Int) == 0) = false := by simp [hc0]
      clear hc0
      go_wp2_with (go_at_call 55; go_must ((with_reducible refine OVY.out.mono ?_); rintro e w4 ⟨rfl, hg4, -, -⟩; dsimp only))
      go_ret
      exact ⟨rfl, HGR.out _ hg4⟩
end Go.Proofs.YtelmponkmmfffaaGreat
namespace Go.Proofs.YtelmponkmmfffaaGreat
open Go Go.RowKit Go.Shelf

theorem away_bits : ∀ n : Nat, n ≤ 5 → ∀ s : Nat, s < 32 → bits BinOp.andNot IntKind.i64 ((2 ^ n - 1 : Nat) : Int) (s : Int) = ((awayM n s : Nat) : Int) := by decide +kernel
theorem two_pow_le5 {n : Nat} (h : n ≤ 5) : 2 ^ n ≤ 32 := Nat.pow_le_pow_right (n := 2) (by omega) h
theorem two_pow_le3 {n : Nat} (h : n ≤ 3) : 2 ^ n ≤ 8 := Nat.pow_le_pow_right (n := 2) (by omega) h
theorem DEnoughQ_any (aw ac : Option Addr) (kw kc : Nat) (h : DeH) (bm bo q s : Nat) (w : World) (hm : HallW w bm bo aw ac kw kc h (fullW h) (fullC h)) (hv : DeValid h) (hs : s < 2 ^ h.writers.length) (hq : w.cell? ⟨q, 0, none⟩ = some (.pointer (some ⟨bm, 0, none⟩))) :
    Calls Tryz.prog 86 #[.int .i64 (s : Int), .pointer (some ⟨q, 0, none⟩)] w fun e w' => e = .returned (.bool (decide (0 ≤ overB h s (fullC h)))) ∧ Below w.heap.size w w' := by
  have h3 := two_pow_le3 hv.nw
  have h5 := two_pow_le5 hv.nc
  have hpc := pow_pred h.customers.length
  have SM := Lib.hid (fun (W : World) (hb : Below w.heap.size w W) => DSome_any aw ac kw kc h bm bo _ _ s (fullC h) W (hm.below hb) hv (by omega) (by show 2 ^ _ - 1 < 32; omega) hpc)
  have KE : Hid (∀ V, Below w.heap.size w V → (Below w.heap.size w V ∧ V.cell? ⟨bm, 4, none⟩ = some (.int .i64 (fullC h : Nat)) ∧ V.cell? ⟨q, 0, none⟩ = some (.pointer (some ⟨bm, 0, none⟩)) ∧ bm < V.heap.size ∧ q < V.heap.size)) := Lib.hid (fun V hb => by
    obtain ⟨y0, y1, y2, y3, y4, y5, y6⟩ := (hm.below hb).blk.cells
    exact ⟨hb, y4, cell_below hb hq, y6, lt_of_cell (cell_below hb hq)⟩)
  clear hm hq
  generalize fullC h = cm at *
  go_enter Tryz.func86, Tryz.ntmps86
  go_upto_region 1 with (fail)
  have hg0 : Below w.heap.size w w.drew := below_drew' (Below.refl _ _)
  have hs0 := hg0.size
  go_region_held3 (fun V => Below w.heap.size w V ∧ V.cell? ⟨bm, 4, none⟩ = some (.int .i64 (cm : Int)) ∧ V.cell? ⟨q, 0, none⟩ = some (.pointer (some ⟨bm, 0, none⟩)) ∧ bm < V.heap.size ∧ q < V.heap.size) (first | exact KE.out _ hg0 | exact KE.out _ hg1) (first
    | (go_at_call 87; refine (SM.out _ hg0).mono ?_; rintro e w2 ⟨rfl, hgs⟩; have hg1 := hg0.trans (hgs.mono hs0); dsimp only))
  go_wp2
  go_ret
  exact ⟨rfl, hg1⟩
theorem DAwayQ_any (aw ac : Option Addr) (kw kc : Nat) (h : DeH) (bm bo q s : Nat) (w : World) (hm : HallW w bm bo aw ac kw kc h (fullW h) (fullC h)) (hv : DeValid h) (hs : s < 2 ^ h.customers.length) (hq : w.cell? ⟨q, 0, none⟩ = some (.pointer (some ⟨bm, 0, none⟩))) :
    Calls Tryz.prog 88 #[.int .i64 (s : Int), .pointer (some ⟨q, 0, none⟩)] w fun e w' => e = .returned (.bool (decide (0 ≤ overB h (fullW h) (awayM h.customers.length s)))) ∧ Below w.heap.size w w' := by
  have h3 := two_pow_le3 hv.nw
  have h5 := two_pow_le5 hv.nc
  have hpw := pow_pred h.writers.length
  have hal := awayM_lt h.customers.length s
  have hbt := away_bits h.customers.length hv.nc s (by omega)
  have SM := Lib.hid (fun (W : World) (hb : Below w.heap.size w W) => DSome_any aw ac kw kc h bm bo _ _ (fullW h) (awayM h.customers.length s) W (hm.below hb) hv (by show 2 ^ _ - 1 < 8; omega) (by omega) hal)
  have KE : Hid (∀ V, Below w.heap.size w V → (Below w.heap.size w V ∧ V.cell? ⟨bm, 3, none⟩ = some (.int .i64 (fullW h : Nat)) ∧ V.cell? ⟨bm, 4, none⟩ = some (.int .i64 ((2 ^ h.customers.length - 1 : Nat) : Int)) ∧ V.cell? ⟨q, 0, none⟩ = some (.pointer (some ⟨bm, 0, none⟩)) ∧ bm < V.heap.size ∧ q < V.heap.size)) := Lib.hid (fun V hb => by
    obtain ⟨y0, y1, y2, y3, y4, y5, y6⟩ := (hm.below hb).blk.cells
    exact ⟨hb, y3, y4, cell_below hb hq, y6, lt_of_cell (cell_below hb hq)⟩)
  clear hm hq hal
  generalize awayM h.customers.length s = am at *
  generalize 2 ^ h.customers.length - 1 = cm at *
  generalize fullW h = wm at *
  go_enter Tryz.func88, Tryz.ntmps88
  go_upto_region 1 with (fail)
  have hg0 : Below w.heap.size w w.drew := below_drew' (Below.refl _ _)
  have hs0 := hg0.size
  go_region_held3 (fun V => Below w.heap.size w V ∧ V.cell? ⟨bm, 3, none⟩ = some (.int .i64 (wm : Int)) ∧ V.cell? ⟨bm, 4, none⟩ = some (.int .i64 (cm : Int)) ∧ V.cell? ⟨q, 0, none⟩ = some (.pointer (some ⟨bm, 0, none⟩)) ∧ bm < V.heap.size ∧ q < V.heap.size) (first | exact KE.out _ hg0 | exact KE.out _ hg1) (first
    | (go_at_call 87; refine (SM.out _ hg0).mono ?_; rintro e w2 ⟨rfl, hgs⟩; have hg1 := hg0.trans (hgs.mono hs0); dsimp only))
  go_wp2
  go_ret
  exact ⟨rfl, hg1⟩
set_option maxRecDepth 100000 in
set_option maxHeartbeats 2000000 in
theorem DEnough_any (aw ac : Option Addr) (kw kc : Nat) (h : DeH) (w : World) (hm : HallC w aw ac kw kc h) :
    Calls Tryz.prog 38 #[(.agg #[.int .i64 h.wax, .slice aw h.writers.length kw, .slice ac h.customers.length kc])] w fun e w' => ∃ v, e = .returned (.tuple #[v, .int .i64 (deEnough h).2]) ∧ IntsV w' v (deEnough h).1 ∧ Below w.heap.size w w' := by
  have hQ := Below.refl (w.heap.size + 1) (w.alloc (.cells #[.int .i64 h.wax, .slice aw h.writers.length kw, .slice ac h.customers.length kc] 28))
  have hbX := box_old hQ
  have CK := DCheck_any aw ac kw kc h (w.alloc (.cells #[.int .i64 h.wax, .slice aw h.writers.length kw, .slice ac h.customers.length kc] 28)) (hm.mono hbX)
  have HV := Lib.hid (fun h : deErr h = 0 => deValid_of h)
  have HNO := Lib.hid (fun (e : deErr h ≠ 0) => show deEnough h = ([], deErr h) by unfold deEnough; rw [if_neg e])
  have HYES := Lib.hid (fun (he : deErr h = 0) (best : List Int) (found : Bool) hf => enough_found (h := h) he (best := best) (found := found) hf)
  have e0 : (deCheck h).2.2 = deErr h := rfl
  rw [e0] at CK
  generalize (deCheck h).1 = q1 at CK
  generalize (deCheck h).2.1 = q2 at CK
  generalize deErr h = er at CK HV HNO HYES
  clear e0
  generalize deEnough h = res at HNO HYES ⊢
  replace CK := Lib.hid CK
  have x0 := box_cell hQ 0 _ rfl
  have x1 := box_cell hQ 1 _ rfl
  have x2 := box_cell hQ 2 _ rfl
  have xz := box_size hQ
  by_cases her : er = 0
  · have hv := HV.out her
    replace HYES := Lib.hid (fun (best : List Int) (found : Bool) hf => HYES.out her best found hf)
    have g1 := nei_f her
    clear her HV HNO
    have hnw := hv.nw
    have hnc := hv.nc
    have LK := Lib.hid (fun (W : World) (hb : Below w.heap.size w W) => DLook_any aw ac kw kc h W (hm.mono hb) hv)
    go_enter Tryz.func38, Tryz.ntmps38
    go_upto_region 5 with (first
      | (go_at_call 53; go_must ((with_reducible refine (LK.out _ (box_old hQ2)).mono ?_); rintro e w3 ⟨bm, bo, rfl, hK, hb3, hbo, hbm⟩; dsimp only))
      | (go_at_call 52; go_must ((with_reducible refine CK.out.mono ?_); rintro e w2 ⟨rfl, hb2⟩; have hQ2 := hQ.trans (hb2.mono (by simp)); have x0 := box_cell hQ2 0 _ rfl; have x1 := box_cell hQ2 1 _ rfl; have x2 := box_cell hQ2 2 _ rfl; have xz := box_size hQ2; dsimp only)))
    obtain ⟨Y, hY⟩ : ∃ Y : World, Y = w3.alloc (.cells #[.pointer (some ⟨bm, 0, none⟩)] 109) := ⟨_, rfl⟩
    rw [← hY]
    have hz2 := (box_old hQ2).size
    have hb3Y : Below w2.heap.size w2 Y := by rw [hY]; exact hb3.alloc hb3.size _
    have hQY := box_on hQ2 hb3Y
    have hYq : Y.cell? ⟨w3.heap.size, 0, none⟩ = some (.pointer (some ⟨bm, 0, none⟩)) := by rw [hY]; exact blk_cell 0 (alloc_at _ _ rfl) rfl
    have hYK := hK.below (show Below w3.heap.size w3 Y by rw [hY]; exact (Below.refl _ _).alloc (Nat.le_refl _) _)
    have FW := MFewest_any h.writers.length 86 (by omega) #[.pointer (some ⟨w3.heap.size, 0, none⟩)] (fun s => decide (0 ≤ overB h s (fullC h))) Y (enters_of Tryz.func86 (by kernel_rfl) rfl)
      (fun s W hs hW => DEnoughQ_any aw ac kw kc h bm bo w3.heap.size s W (hYK.below hW) hv hs (cell_below hW hYq))
    replace FW := Lib.hid FW
    have x0 := box_cell hQY 0 _ rfl
    have x1 := box_cell hQY 1 _ rfl
    have x2 := box_cell hQY 2 _ rfl
    have xz := box_size hQY
    clear hY hYK hYq hK
    go_upto_region 6 with (go_at_call 85; go_must ((with_reducible refine FW.out.mono ?_); rintro e w4 ⟨v4, best, found, rfl, hI4, hF4, hb4⟩; dsimp only))
    have hbw := box_old (box_on hQY hb4)
    have hr := HYES.out best found hF4.out
    cases found
    · go_wp2
      go_ret2
      subst hr
      exact ⟨.slice none 0 0, rfl, ⟨none, 0, rfl, ⟨by simp, by omega, fun _ => rfl⟩, IntsC.nil _ _⟩, hbw⟩
    · go_wp2
      go_ret2
      subst hr
      exact ⟨v4, rfl, hI4, hbw⟩
  · replace HNO := HNO.out her
    have g1 := nei_t her
    clear her HV HYES
    go_enter Tryz.func38, Tryz.ntmps38
    go_wp2_with (go_at_call 52; go_must ((with_reducible refine CK.out.mono ?_); rintro e w2 ⟨rfl, hb2⟩; have hQ2 := hQ.trans (hb2.mono (by simp)); dsimp only))
    go_ret2
    subst HNO
    exact ⟨.slice none 0 0, rfl, ⟨none, 0, rfl, ⟨by simp, by omega, fun _ => rfl⟩, IntsC.nil _ _⟩, box_old hQ2⟩
set_option maxRecDepth 100000 in
set_option maxHeartbeats 2000000 in
theorem DAway_any (aw ac : Option Addr) (kw kc : Nat) (h : DeH) (w : World) (hm : HallC w aw ac kw kc h) :
    Calls Tryz.prog 39 #[(.agg #[.int .i64 h.wax, .slice aw h.writers.length kw, .slice ac h.customers.length kc])] w fun e w' => ∃ v, e = .returned (.tuple #[v, .int .i64 (deAway h).2]) ∧ IntsV w' v (deAway h).1 ∧ Below w.heap.size w w' := by
  have hQ := Below.refl (w.heap.size + 1) (w.alloc (.cells #[.int .i64 h.wax, .slice aw h.writers.length kw, .slice ac h.customers.length kc] 28))
  have hbX := box_old hQ
  have CK := DCheck_any aw ac kw kc h (w.alloc (.cells #[.int .i64 h.wax, .slice aw h.writers.length kw, .slice ac h.customers.length kc] 28)) (hm.mono hbX)
  have HV := Lib.hid (fun h : deErr h = 0 => deValid_of h)
  have HNO := Lib.hid (fun (e : deErr h ≠ 0) => show deAway h = ([], deErr h) by unfold deAway; rw [if_neg e])
  have HYES := Lib.hid (fun (he : deErr h = 0) (best : List Int) (found : Bool) hf => away_found (h := h) he (best := best) (found := found) hf)
  have e0 : (deCheck h).2.2 = deErr h := rfl
  rw [e0] at CK
  generalize (deCheck h).1 = q1 at CK
  generalize (deCheck h).2.1 = q2 at CK
  generalize deErr h = er at CK HV HNO HYES
  clear e0
  generalize deAway h = res at HNO HYES ⊢
  replace CK := Lib.hid CK
  have x0 := box_cell hQ 0 _ rfl
  have x1 := box_cell hQ 1 _ rfl
  have x2 := box_cell hQ 2 _ rfl
  have xz := box_size hQ
  by_cases her : er = 0
  · have hv := HV.out her
    replace HYES := Lib.hid (fun (best : List Int) (found : Bool) hf => HYES.out her best found hf)
    have g1 := nei_f her
    clear her HV HNO
    have hnw := hv.nw
    have hnc := hv.nc
    have LK := Lib.hid (fun (W : World) (hb : Below w.heap.size w W) => DLook_any aw ac kw kc h W (hm.mono hb) hv)
    go_enter Tryz.func39, Tryz.ntmps39
    go_upto_region 5 with (first
      | (go_at_call 53; go_must ((with_reducible refine (LK.out _ (box_old hQ2)).mono ?_); rintro e w3 ⟨bm, bo, rfl, hK, hb3, hbo, hbm⟩; dsimp only))
      | (go_at_call 52; go_must ((with_reducible refine CK.out.mono ?_); rintro e w2 ⟨rfl, hb2⟩; have hQ2 := hQ.trans (hb2.mono (by simp)); have x0 := box_cell hQ2 0 _ rfl; have x1 := box_cell hQ2 1 _ rfl; have x2 := box_cell hQ2 2 _ rfl; have xz := box_size hQ2; dsimp only)))
    obtain ⟨Y, hY⟩ : ∃ Y : World, Y = w3.alloc (.cells #[.pointer (some ⟨bm, 0, none⟩)] 109) := ⟨_, rfl⟩
    rw [← hY]
    have hz2 := (box_old hQ2).size
    have hb3Y : Below w2.heap.size w2 Y := by rw [hY]; exact hb3.alloc hb3.size _
    have hQY := box_on hQ2 hb3Y
    have hYq : Y.cell? ⟨w3.heap.size, 0, none⟩ = some (.pointer (some ⟨bm, 0, none⟩)) := by rw [hY]; exact blk_cell 0 (alloc_at _ _ rfl) rfl
    have hYK := hK.below (show Below w3.heap.size w3 Y by rw [hY]; exact (Below.refl _ _).alloc (Nat.le_refl _) _)
    have FW := MFewest_any h.customers.length 88 (by omega) #[.pointer (some ⟨w3.heap.size, 0, none⟩)] (fun s => decide (0 ≤ overB h (fullW h) (awayM h.customers.length s))) Y (enters_of Tryz.func88 (by kernel_rfl) rfl)
      (fun s W hs hW => DAwayQ_any aw ac kw kc h bm bo w3.heap.size s W (hYK.below hW) hv hs (cell_below hW hYq))
    replace FW := Lib.hid FW
    have x0 := box_cell hQY 0 _ rfl
    have x1 := box_cell hQY 1 _ rfl
    have x2 := box_cell hQY 2 _ rfl
    have xz := box_size hQY
    clear hY hYK hYq hK
    go_upto_region 6 with (go_at_call 85; go_must ((with_reducible refine FW.out.mono ?_); rintro e w4 ⟨v4, best, found, rfl, hI4, hF4, hb4⟩; dsimp only))
    have hbw := box_old (box_on hQY hb4)
    have hr := HYES.out best found hF4.out
    go_wp2
    go_ret2
    subst hr
    exact ⟨v4, rfl, hI4, hbw⟩
  · replace HNO := HNO.out her
    have g1 := nei_t her
    clear her HV HYES
    go_enter Tryz.func39, Tryz.ntmps39
    go_wp2_with (go_at_call 52; go_must ((with_reducible refine CK.out.mono ?_); rintro e w2 ⟨rfl, hb2⟩; have hQ2 := hQ.trans (hb2.mono (by simp)); dsimp only))
    go_ret2
    subst HNO
    exact ⟨.slice none 0 0, rfl, ⟨none, 0, rfl, ⟨by simp, by omega, fun _ => rfl⟩, IntsC.nil _ _⟩, box_old hQ2⟩
end Go.Proofs.YtelmponkmmfffaaGreat
namespace Go.Proofs.YtelmponkmmfffaaGreat
open Go Go.RowKit Go.Shelf
attribute [local go_sem] Oper.semAt_some

def FindC (w0 : World) (B : FiB) (aw ac : Option Addr) (kw kc : Nat) (h : DeH) (over : Int) (x : DeSt) : Prop := ∀ (W : World) (v : Value) (L : List Int), L.length + leftD h x ≤ 1000 → FindI w0 W B (B.fp + 1) aw ac kw kc h over v L →
  Calls Tryz.prog 56 #[standV x, .pointer (some ⟨B.cb, 0, none⟩), .pointer (some ⟨B.hp, 0, none⟩), .pointer (some ⟨B.op, 0, none⟩), .pointer (some ⟨B.ap, 0, none⟩), .pointer (some ⟨B.fp, 0, none⟩)] W fun e W' => (∃ b, e = .returned (.bool b)) ∧ (∃ v', FindI w0 W' B (B.fp + 1) aw ac kw kc h over v' (L ++ fD h (fullW h) (fullC h) over x)) ∧ FindFr (B.fp + 1) v W W'
set_option maxRecDepth 100000 in
set_option maxHeartbeats 8000000 in
theorem DFind_end (aw ac : Option Addr) (kw kc : Nat) (h : DeH) (w0 : World) (hm : HallC w0 aw ac kw kc h) (B : FiB) (over : Int) (x : DeSt) (hw : x.writer = h.writers.length) : FindC w0 B aw ac kw kc h over x := fun W v L hl k => by
  have l1 := hm.okw.len
  have e0 : fD h (fullW h) (fullC h) over x = [] := fD_none (by omega) (fun z hz => by unfold nextD at hz; rw [if_pos hw] at hz; cases hz)
  rw [e0, List.append_nil]
  have g1 := eqn_t hw
  have hK := k.hall hm
  have HF := Lib.hid (fun (A : World) (hb : Below W.heap.size W A) => (⟨⟨v, k.grow hb⟩, .of_below hb⟩ : (∃ v', FindI w0 A B (B.fp + 1) aw ac kw kc h over v' L) ∧ FindFr (B.fp + 1) v W A))
  obtain ⟨Y, hY⟩ : ∃ Y : World, Y = (W.alloc (.cells #[.int .i64 (x.writer : Int), .int .i64 (x.done : Int), .int .i64 (minuteAt x 0), .int .i64 (minuteAt x 1), .int .i64 (minuteAt x 2)] 115)).alloc (.cells #[.bool false] 4) := ⟨_, rfl⟩
  have hYb : Below W.heap.size W Y := by rw [hY]; exact ((Below.refl _ _).alloc (Nat.le_refl _) _).alloc (by simp) _
  have hYx : StB Y W.heap.size x := by rw [hY]; exact (heap_alloc_old _ _ (by simp)).trans (alloc_at _ _ rfl)
  have hYr : Y.heap[W.heap.size + 1]? = some (.cells #[.bool false] 4 (0, 0)) := by rw [hY]; exact alloc_at _ _ (by simp)
  have hYs : Y.heap.size = W.heap.size + 1 + 1 := by rw [hY]; simp
  obtain ⟨x0, x1, x2, x3, x4, xz⟩ := StB.cells hYx
  have kY := k.grow hYb
  obtain ⟨y0, y1, y2, y3, y4, y5, y6⟩ := kY.blk.cells
  have c1 := blk_cell 1 kY.c rfl
  have cz := lt_of_block kY.c
  have h0 := blk_cell 0 kY.hc rfl
  have hz := lt_of_block kY.hc
  have b0 := blk_cell 0 hYr rfl
  have bf := blk_free 0 hYr
  have bz := lt_of_block hYr
  simp only [List.getElem_toArray, List.getElem_cons_zero, List.getElem_cons_succ] at c1 h0 b0
  clear k kY hK hw e0 hYx hYr
  generalize fullC h = cm at *
  go_enter Tryz.func56, Tryz.ntmps56
  go_upto_region 1 with (fail)
  rw [← hY]
  clear hY
  go_upto_region 2 with (fail)
  (focus go_region)
  all_goals
    go_wp2
    (try simp only [Exit.inBlock, Exit.then])
    refine bodyPost_ret (v := .bool ((x.done : Int) == (cm : Int))) ?_ rfl ⟨⟨_, rfl⟩, HF.out _ ?_⟩
    · rw [results_one rfl]
      go_simp
    · exact (by (repeat' (first | assumption | exact Below.refl _ _ | refine below_drew' ?_ | refine Below.setCell ?_ (by first | omega | (simp <;> omega)) _ | refine Below.alloc ?_ (by first | omega | (simp <;> omega)) _)))

set_option maxRecDepth 100000 in
set_option maxHeartbeats 8000000 in
theorem DFind_step (aw ac : Option Addr) (kw kc : Nat) (h : DeH) (w0 : World) (hm : HallC w0 aw ac kw kc h) (hv : DeValid h) (B : FiB) (over : Int) (x : DeSt) (hx : StOk h x) (hw : x.writer ≠ h.writers.length) (IH : ∀ y ∈ nextD h (fullW h) (fullC h) x, FindC w0 B aw ac kw kc h over y.2) : FindC w0 B aw ac kw kc h over x := fun W v L hl k => by
  have l1 := hm.okw.len
  have g1 := eqn_f hw
  have hw8 := two_pow_le3 hv.nw
  have hc32 := two_pow_le5 hv.nc
  have hpw := pow_pred h.writers.length
  have hpc := pow_pred h.customers.length
  have hwm : fullW h < 8 := by show 2 ^ _ - 1 < 8; omega
  have hcm : fullC h < 32 := by show 2 ^ _ - 1 < 32; omega
  have hord := k.ord
  unfold FiB.ok at hord
  have hzw := k.below.size
  have hfp := k.base_le
  have hvW : ∀ b, v.ownBlock = some b → b < W.heap.size := fun b e => (k.own.lt b e).2
  obtain ⟨Y, hY⟩ : ∃ Y : World, Y = (W.alloc (.cells #[.int .i64 (x.writer : Int), .int .i64 (x.done : Int), .int .i64 (minuteAt x 0), .int .i64 (minuteAt x 1), .int .i64 (minuteAt x 2)] 115)).alloc (.cells #[.bool false] 4) := ⟨_, rfl⟩
  have hYb : Below W.heap.size W Y := by rw [hY]; exact ((Below.refl _ _).alloc (Nat.le_refl _) _).alloc (by simp) _
  have hYx : StB Y W.heap.size x := by rw [hY]; exact (heap_alloc_old _ _ (by simp)).trans (alloc_at _ _ rfl)
  have hYr : Y.heap[W.heap.size + 1]? = some (.cells #[.bool false] 4 (0, 0)) := by rw [hY]; exact alloc_at _ _ (by simp)
  have hYs : Y.heap.size = W.heap.size + 1 + 1 := by rw [hY]; simp
  obtain ⟨x0, x1, x2, x3, x4, xz⟩ := StB.cells hYx
  have kY := k.grow hYb
  have c1 := blk_cell 1 kY.c rfl
  have cz := lt_of_block kY.c
  have h0 := blk_cell 0 kY.hc rfl
  have hz := lt_of_block kY.hc
  simp only [List.getElem_toArray, List.getElem_cons_zero, List.getElem_cons_succ] at c1 h0
  have NX := Lib.hid (fun W : World => DNext_any B.bm x W)
  have KY := Lib.hid kY
  clear k kY
  refine (callsIn_wide (n := 0)).1 ?_
  refine callsIn_of_wp_marks Tryz.func56 rfl trivial ?_ rfl
  simp only [Tryz.ntmps56, List.size_toArray, List.length_cons, List.length_nil, Nat.reduceAdd, Nat.reduceSub, Array.replicate_succ, Array.replicate_zero, List.push_toArray, List.append_toArray, List.nil_append, List.cons_append]
  refine (wpIn_wide (n := 0)).2 ?_
  go_upto_region 1 with (fail)
  rw [← hY]
  clear hY
  replace hYs := Lib.hid hYs
  go_wp2_with (go_at_call 57; go_must ((with_reducible refine (NX.out _).mono ?_); rintro e w3 ⟨rfl, rfl⟩; dsimp only))
  obtain ⟨N, hN⟩ : ∃ N : World, N = (Y.alloc (.cells #[.pointer (some ⟨B.bm, 0, none⟩)] 109)).alloc (.cells ((stL x).map (Value.int .i64)).toArray 115) := ⟨_, rfl⟩
  rw [← hN]
  have hNs : N.heap.size = Y.heap.size + 1 + 1 := by rw [hN]; simp
  have hNb : Below Y.heap.size Y N := by rw [hN]; exact ((Below.refl _ _).alloc (Nat.le_refl _) _).alloc (by simp) _
  have hNr : N.heap[Y.heap.size]? = some (.cells #[.pointer (some ⟨B.bm, 0, none⟩)] 109 (0, 0)) := by rw [hN]; exact (heap_alloc_old _ _ (by simp)).trans (alloc_at _ _ rfl)
  have hNx : StB N (Y.heap.size + 1) x := by rw [hN]; exact alloc_at _ _ (by simp)
  have hNR : N.heap[W.heap.size + 1]? = some (.cells #[.bool false] 4 (0, 0)) := (hNb.block _ (lt_of_block hYr)).trans hYr
  have hNk := KY.out.grow hNb
  have hNf : FindFr (B.fp + 1) v W N := .of_below (hYb.trans (hNb.mono hYb.size))
  have hSE := DNext_seq aw ac kw kc h B.bm B.bo (fullW h) (fullC h) (Y.heap.size + 1) Y.heap.size x hv hwm hcm hx N
  have hYz := hYs.out
  clear hN hNb x0 x1 x2 x3 x4 xz c1 cz h0 hz KY hYx hYr NX hYs
  replace hNs := Lib.hid hNs
  have hNz : Y.heap.size + 1 < N.heap.size := hNx.lt
  refine (wpIn_wide (n := 0)).1 ?_
  refine wpIn_rangeFunc_X (gf := 109) (lb := #[.pointer (some ⟨Y.heap.size + 1, 0, none⟩), .pointer (some ⟨Y.heap.size, 0, none⟩)]) (by go_simp) (enters_of Tryz.func109 (by kernel_rfl) rfl) hSE (Below.refl _ _) (Nat.le_refl _) (fun _ => rfl)
    (fun (pre : List (Int × DeSt)) A => FindI w0 A B (B.fp + 1) aw ac kw kc h over v L ∧ FindFr (B.fp + 1) v W A ∧ A.heap[W.heap.size + 1]? = some (.cells #[.bool false] 4 (0, 0)) ∧ A.heap[Y.heap.size]? = some (.cells #[.pointer (some ⟨B.bm, 0, none⟩)] 109 (0, 0)) ∧ StB A (Y.heap.size + 1) x ∧ ∀ z ∈ pre, ovD h (fullW h) (fullC h) z.2 ≠ over)
    (fun c (_ : List (Int × DeSt)) A => c = .ret ∧ FindFr (B.fp + 1) v W A ∧ ∃ v' b, FindI w0 A B (B.fp + 1) aw ac kw kc h over v' (L ++ fD h (fullW h) (fullC h) over x) ∧ A.heap[W.heap.size + 1]? = some (.cells #[.bool b] 4 (0, 0)))
    (fun s A A' q hb => ⟨q.1.belowB hb (by omega) (fun b e => by have := hvW b e; omega), q.2.1.below hb (by omega), (hb.block _ (by omega)).trans q.2.2.1, (hb.block _ (by omega)).trans q.2.2.2.1, q.2.2.2.2.1.same (hb.block _ hNz), q.2.2.2.2.2⟩)
    (fun c s A o lp q hl => by
      obtain ⟨q0, q1, v', b, q2, q3⟩ := q
      refine ⟨q0, q1.put (by omega), v', b, q2.put (fun cs t x e => by rw [hl] at e; cases e) (fun es c e => by rw [hl] at e; cases e) (by omega), (World.putObj_heap_other (by omega)).trans q3⟩)
    (fun s A q => ⟨q.1.hall hm, q.2.2.2.2.1, q.2.2.2.1⟩)
    ⟨hNk, hNf, hNR, hNr, hNx, fun z hz => by cases hz⟩ ?round ?done ?stop
  case round =>
    intro l pre y W2 hl1 hl2 hI hpre
    gi_wp2
    obtain ⟨q1, q2, q3, q4, q5, q6⟩ := hI
    have hal := (Below.refl W2.heap.size W2).alloc (Nat.le_refl _) (.cells #[.int .i64 (y.2.writer : Int), .int .i64 (y.2.done : Int), .int .i64 (minuteAt y.2 0), .int .i64 (minuteAt y.2 1), .int .i64 (minuteAt y.2 2)] 115)
    have hYa : StB (W2.alloc (.cells #[.int .i64 (y.2.writer : Int), .int .i64 (y.2.done : Int), .int .i64 (minuteAt y.2 0), .int .i64 (minuteAt y.2 1), .int .i64 (minuteAt y.2 2)] 115)) W2.heap.size y.2 := alloc_at _ _ rfl
    refine ⟨Above.of_below hal, ⟨q1.grow hal, q2.trans (.of_below hal) (.inl rfl), (hal.block _ (lt_of_block q3)).trans q3, (hal.block _ (lt_of_block q4)).trans q4, q5.same (hal.block _ q5.lt), q6⟩, ?_⟩
    intro Wb hs2 hblk hIb
    have hYb : StB Wb W2.heap.size y.2 := hYa.same (hblk _ (by omega))
    obtain ⟨q1, q2, q3, q4, q5, q6⟩ := hIb
    have hmem : y ∈ nextD h (fullW h) (fullC h) x := hpre.subset (by simp)
    have hyo := next_ok hv hx hmem
    have hC := Lib.hid (DOver_any aw ac kw kc h B.bm B.bo (fullW h) (fullC h) hv hwm hcm _ y.2 (Nat.le_refl _) hyo Wb.drew ((q1.grow (below_drew' (Below.refl _ _))).hall hm))
    have hIH := Lib.hid (IH y hmem)
    have hlf := (next_left hx.w hmem).1
    have hfs := Lib.hid (fD_some (over := over) hx.w hpre q6)
    have hno := Lib.hid (fun (e : ovD h (fullW h) (fullC h) y.2 ≠ over) (z : Int × DeSt) (hz : z ∈ pre ++ [y]) => (show ovD h (fullW h) (fullC h) z.2 ≠ over from (List.mem_append.1 hz).elim (q6 z) fun e2 => by rw [List.mem_singleton.1 e2]; exact e))
    obtain ⟨t0, t1, t2, t3, t4, tz⟩ := StB.cells hYb
    have h0 := blk_cell 0 q1.hc rfl
    have hz0 := lt_of_block q1.hc
    have o0 := blk_cell 0 q1.oc rfl
    have oz0 := lt_of_block q1.oc
    simp only [List.getElem_toArray, List.getElem_cons_zero] at h0 o0
    have HO := Lib.hid (fun (V : World) (hg : Wb.grownBy V (some B.bo)) => (show V.cell? ⟨B.op, 0, none⟩ = some (.int .i64 over) from by have hb := blk_cell 0 (grown_keep hg q1.oc ((q1.hall hm).other q1.oc)) rfl; simpa using hb))
    have HQ := Lib.hid (⟨q1, q2, q3, q4, q5⟩ : FindI w0 Wb B (B.fp + 1) aw ac kw kc h over v L ∧ FindFr (B.fp + 1) v W Wb ∧ _ ∧ _ ∧ _)
    clear q1 q2 q3 q4 q5 q6 hal hYa hblk
    gi_wp2
    apply wpIn_mid _ (fun V => Wb.grownBy V (some B.bo) ∧ HallW V B.bm B.bo aw ac kw kc h (fullW h) (fullC h))
    · (focus gi_region_with (refine ⟨trivial, rfl, ((CallsIn.inRound l (callsIn_wide.2 hC.out)).mono ?_)⟩; rintro e w2 ⟨rfl, hg2', hR2, hz2⟩; have hg2 : Wb.grownBy w2 (some B.bo) := ⟨hg2'.os, hg2'.tape, hg2'.output, hg2'.size, hg2'.block⟩; have o2 := HO.out w2 hg2; dsimp only))
      all_goals exact ⟨rfl, by assumption, by assumption⟩
    rintro V ⟨hg2, hR2⟩
    obtain ⟨k1, k2, k3, k4, k5⟩ := HQ.out
    have hWk := k1.hall hm
    have kV := k1.step hm hg2 hR2
    have fV : FindFr (B.fp + 1) v W V := k2.trans (.of_grown hg2 (by omega)) (.inl rfl)
    have RV := grown_keep hg2 k3 (hWk.other k3)
    have nV := grown_keep hg2 k4 (hWk.other k4)
    have xV : StB V (Y.heap.size + 1) x := grown_keep hg2 k5 (hWk.other k5)
    have yV : StB V W2.heap.size y.2 := grown_keep hg2 hYb (hWk.other hYb)
    have hNB : B.bo < N.heap.size := by omega
    have abV : Above N.heap.size Wb V := Above.of_grown hg2 (fun r e => by have := Option.some.inj e; omega)
    clear HQ k1 k2 k3 k4 k5 hWk hYb t0 t1 t2 t3 t4 tz h0 hz0 o0 oz0 HO hC hR2 hSE hNk hNf hNR hNr hNx
    by_cases hq : ovD h (fullW h) (fullC h) y.2 = over
    · have hF : L ++ fD h (fullW h) (fullC h) over x = (L ++ [y.1]) ++ fD h (fullW h) (fullC h) over y.2 := by rw [hfs.out hq, List.append_assoc]; rfl
      replace hF := Lib.hid hF
      have hne : (ovD h (fullW h) (fullC h) y.2 == over) = true := by simpa using hq
      have a0 := blk_cell 0 kV.ac rfl
      have az := lt_of_block kV.ac
      simp only [List.getElem_toArray, List.getElem_cons_zero] at a0
      have HV := Lib.hid (⟨kV, fV, RV, yV⟩ : FindI w0 V B (B.fp + 1) aw ac kw kc h over v L ∧ FindFr (B.fp + 1) v W V ∧ _ ∧ _)
      have HOW := Lib.hid kV.own
      have hVz : B.fp + 1 ≤ V.heap.size := by have := kV.base_le; omega
      have hyl : W.heap.size ≤ W2.heap.size := by omega
      have hVN : N.heap.size ≤ V.heap.size := by have := hg2.size; have e9 := hs2; simp at e9; omega
      clear kV fV RV nV xV yV hno hfs
      obtain ⟨i, hi, hz, hsz, hby⟩ := info_parts E_int.info
      gi_upto_region 8 with (gi_at_builtin; refine wpListIn_append_own_at _ rfl _ _ 35 rfl (B.fp + 1) 3 i (.int .i64 0) 1 8 E_int.und hi hz hsz hby rfl (by decide) _ _ _ rfl (HOW.out.alloc (.cells #[.int .i64 y.1] 3)) ⟨V.heap.size, 0, none⟩ 1 1 [.int .i64 y.1] rfl rfl (by intro j u hj; match j, hj with | 0, hj => simp at hj; subst hj; simp [Addr.add]) (by intro u hu; simp at hu; subst hu; rfl) (by unfold maxLen; omega) (by omega) (by simp; omega) ?_; intro v3 w3 hown3 hg3 hnil3 hat3; obtain ⟨g3, cap3, rfl⟩ := ownsRow_succ hown3; have hA3 : w3.heap[B.ap]? = some (.cells #[v] 35 (0, 0)) := (hg3.block _ (by simp; omega) (fun e => by have := (HOW.out.lt _ e.symm).1; omega)).trans ((heap_alloc_old _ _ (by omega)).trans HV.out.1.ac); have a1 := blk_cell 0 hA3 rfl; have a2 := blk_free 0 hA3; have a3 := lt_of_block hA3; go_frame)
      obtain ⟨Z, hZ⟩ : ∃ Z : World, Z = w3.setCell ⟨B.ap, 0, none⟩ (.slice (some ⟨g3, 0, none⟩) (L.length + 1) cap3) := ⟨_, rfl⟩
      rw [← hZ]
      obtain ⟨kV, fV, RV, yV⟩ := HV.out
      have kZ : FindI w0 Z B (B.fp + 1) aw ac kw kc h over (.slice (some ⟨g3, 0, none⟩) (L.length + 1) cap3) (L ++ [y.1]) := by rw [hZ]; exact kV.app rfl hown3 hg3
      have fVZ : FindFr (B.fp + 1) v V Z := (FindFr.trans (u := v) (.of_below ((Below.refl _ _).alloc (Nat.le_refl _) _)) (.of_row hg3) (.inl rfl)).trans (u := v) (.of_set (by simp only; omega) hZ) (.inl rfl)
      have RZ := fVZ.keep (by omega) (fun e => by have := hvW _ e; omega) RV
      have yZ : StB Z W2.heap.size y.2 := fVZ.keep (by omega) (fun e => by have := hvW _ e; omega) yV
      have hCF := Lib.hid (hIH.out Z _ (L ++ [y.1]) (by simp; omega) kZ)
      have fZ := fV.trans fVZ (.inl rfl)
      have hu3 : (Value.slice (some ⟨g3, 0, none⟩) (L.length + 1) cap3).ownBlock = v.ownBlock ∨ ∀ b, (Value.slice (some ⟨g3, 0, none⟩) (L.length + 1) cap3).ownBlock = some b → V.heap.size ≤ b := hat3.imp id (fun e b e2 => by rw [e] at e2; have := Option.some.inj e2; simp at this; omega)
      obtain ⟨t0, t1, t2, t3, t4, tz⟩ := StB.cells yZ
      have p0 := blk_cell 0 kZ.fc rfl
      have pz := lt_of_block kZ.fc
      simp only [List.getElem_toArray, List.getElem_cons_zero] at p0
      replace kZ := Lib.hid kZ
      clear a0 az a1 a2 a3 hA3 hown3 hnil3 HV HOW kV fV RV yV hi hz hsz hby hne hZ hat3
      unfold FiB.caps at p0
      gi_wp2_with (refine ⟨trivial, rfl, ((CallsIn.inRound l (callsIn_wide.2 hCF.out)).mono ?_)⟩; rintro e Z2 ⟨⟨b, rfl⟩, ⟨v4, kE⟩, fE⟩; have hE1 := fE.keep (by omega) (fun e => hu3.elim (fun e3 => by rw [e3] at e; have := hvW _ e; omega) (fun e3 => by have := e3 _ e; omega)) RZ; have e1 := blk_free 0 hE1; have e2 := blk_cell 0 hE1 rfl; have e3 := lt_of_block hE1; dsimp only)
      have fVE := fVZ.trans fE hu3
      have kE2 := kE.set (by omega) hE1 (by decide) (.bool b)
      rw [← hF.out] at kE2
      exact ⟨(abV.trans (fVE.above (by omega) (fun b e => by have := hvW b e; omega))).trans ⟨rfl, rfl, rfl, by simp, fun b h1 h2 => Below.heap_setCell _ _ _ _ (by simp only; omega)⟩, rfl,
        (fZ.trans fE (hu3.imp id (fun e b e2 => by have := e b e2; omega))).below (below_set _ (W.heap.size + 1) (W.heap.size + 1) 0 _ (Nat.le_refl _)) (by omega), v4, b, kE2, blk_set 0 _ hE1⟩
    · have hqn := hno.out hq
      have hne : (ovD h (fullW h) (fullC h) y.2 == over) = false := by simpa using hq
      gi_wp2
      exact ⟨abV, ⟨kV, fV, RV, nV, xV, hqn⟩⟩
  case done =>
    intro D A hD hI hK
    obtain ⟨q1, q2, q3, q4, q5, q6⟩ := hI
    have e0 : L ++ fD h (fullW h) (fullC h) over x = L := by rw [fD_none hx.w q6, List.append_nil]
    replace e0 := Lib.hid e0
    have f0 := blk_free 0 q3
    have b0 := blk_cell 0 q3 rfl
    simp only [List.getElem_toArray, List.getElem_cons_zero] at b0
    have bz := lt_of_block q3
    have hDW : W.heap.size + 1 < D := by omega
    obtain ⟨Z, hZ⟩ : ∃ Z : World, Z = A.setCell ⟨W.heap.size + 1, 0, none⟩ (.bool false) := ⟨_, rfl⟩
    have hZk : FindI w0 Z B (B.fp + 1) aw ac kw kc h over v L := by rw [hZ]; exact q1.belowB (below_set A (W.heap.size + 1) (W.heap.size + 1) 0 _ (Nat.le_refl _)) (by omega) (fun b e => by have := hvW b e; omega)
    have hZK : Z.heap[D]? = some (.deferred (some [])) := by rw [hZ]; exact (Below.heap_setCell _ _ _ _ (by simp only; omega)).trans hK
    have hZr : Z.heap[W.heap.size + 1]? = some (.cells #[.bool false] 4 (0, 0)) := by rw [hZ]; exact blk_set 0 _ q3
    have hZf : FindFr (B.fp + 1) v W Z := by rw [hZ]; exact q2.below (below_set A (W.heap.size + 1) (W.heap.size + 1) 0 _ (Nat.le_refl _)) (by omega)
    clear q1 q2 q3 q4 q5 q6 hK
    go_wp2
    rw [← hZ]
    clear hZ
    refine ⟨by simp, .inl ⟨_, _, rfl, run_takeDeferred hZK, ?_⟩⟩
    have c1 : (Z.putObj D (.deferred none)).cell? ⟨W.heap.size + 1, 0, none⟩ = some (.bool false) := blk_cell 0 ((World.putObj_heap_other (by omega)).trans hZr) rfl
    refine ⟨.bool false, ?_, ⟨_, rfl⟩, ⟨v, by rw [e0.out]; exact hZk.put (fun cs t x e => by rw [hZK] at e; cases e) (fun es c e => by rw [hZK] at e; cases e) (by omega)⟩, hZf.put (by omega)⟩
    rw [results_one rfl]
    go_simp
  case stop =>
    intro D c pre A hD hI hK
    obtain ⟨rfl, q1, v', b, q2, q3⟩ := hI
    have hDW : W.heap.size + 1 < D := by omega
    gi_wp2
    refine ⟨by simp, .inl ⟨_, _, rfl, run_takeDeferred hK, ?_⟩⟩
    have c1 : (A.putObj D (.deferred none)).cell? ⟨W.heap.size + 1, 0, none⟩ = some (.bool b) := blk_cell 0 ((World.putObj_heap_other (by omega)).trans q3) rfl
    refine ⟨.bool b, ?_, ⟨_, rfl⟩, ⟨v', q2.put (fun cs t x e => by rw [hK] at e; cases e) (fun es c e => by rw [hK] at e; cases e) (by omega)⟩, q1.put (by omega)⟩
    rw [results_one rfl]
    go_simp

theorem DFind_any (aw ac : Option Addr) (kw kc : Nat) (h : DeH) (w0 : World) (hm : HallC w0 aw ac kw kc h) (hv : DeValid h) (B : FiB) (over : Int) : ∀ (n : Nat) (x : DeSt), leftD h x ≤ n → StOk h x → FindC w0 B aw ac kw kc h over x
  | n, x, hl, hx => by
    by_cases hw : x.writer = h.writers.length
    · exact DFind_end aw ac kw kc h w0 hm B over x hw
    · cases n with
      | zero => exact absurd hw (by have := hx.w; unfold leftD at hl; omega)
      | succ n => exact DFind_step aw ac kw kc h w0 hm hv B over x hx hw fun y hy => DFind_any aw ac kw kc h w0 hm hv B over n y.2 (by have := (next_left hx.w hy).1; omega) (next_ok hv hx hy)
end Go.Proofs.YtelmponkmmfffaaGreat
