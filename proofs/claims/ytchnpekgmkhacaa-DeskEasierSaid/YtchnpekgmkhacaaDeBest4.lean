/- What is proved here: the contract of Best. Condition: the hall lies in memory. -/
import Derived.Test.YtchnpekgmkhacaaDeBest3
import Derived.Deep.OwnRows
set_option linter.unusedVariables false
set_option linter.unusedSimpArgs false
namespace Go.Proofs.Ytchnpekgmkhacaa
open Go Go.RowKit Go.Shelf
attribute [local go_sem] store_fnD
attribute [local go_sem] Oper.semAt_some
theorem results_tct {fn : Func} {p q u : Tmp} {tz : TypeId} (h : fn.results = #[.tmp p, .cell q tz, .tmp u]) (tmps : Array Value) (P : Program) (w : World) :
    (results fn tmps).run P w =
      ((asAddr (tmps.getD q undef)).run P w).andThen fun b w₃ => ((loadVar tz b).run P w₃).andThen fun y w₄ => .ok (.tuple #[tmps.getD p undef, y, tmps.getD u undef]) w₄ := by
  simp only [results, h]
  simp [Sem.run_bind, Result.andThen]
theorem left_le {h : DeH} (hv : DeValid h) (x : DeSt) : leftD h x ≤ 8 := by
  unfold leftD
  have := List.countP_le_length (p := fun c => !x.done.testBit c) (l := List.range h.customers.length)
  have h1 := hv.nw
  have h2 := hv.nc
  simp only [List.length_range] at this
  omega
theorem overB_ge {h : DeH} (wm cm : Nat) : -1 ≤ overB h wm cm := over_ge (h := h) (wm := wm) (cm := cm) (x := beginD h) (Nat.zero_le _)
set_option maxRecDepth 100000 in
set_option maxHeartbeats 8000000 in
theorem DBest_any (aw ac : Option Addr) (kw kc : Nat) (h : DeH) (w : World) (hm : HallC w aw ac kw kc h) :
    Calls Try.prog 26 #[(.agg #[.int .i64 h.wax, .slice aw h.writers.length kw, .slice ac h.customers.length kc])] w fun e w' => ∃ v, e = .returned (.tuple #[v, .int .i64 (deBest h).2.1, .int .i64 (deBest h).2.2]) ∧ RowsV w' v (deBest h).1 ∧ Below w.heap.size w w' := by
  obtain ⟨Q, hQ⟩ : ∃ Q : World, Q = (w.alloc (.cells #[.int .i64 h.wax, .slice aw h.writers.length kw, .slice ac h.customers.length kc] 25)).alloc (.cells #[.int .i64 0] 3) := ⟨_, rfl⟩
  have hQb : Below w.heap.size w Q := by rw [hQ]; exact (by (repeat' (first | assumption | exact Below.refl _ _ | refine below_drew' ?_ | refine Below.setCell ?_ (by first | omega | (simp <;> omega)) _ | refine Below.alloc ?_ (by first | omega | (simp <;> omega)) _)))
  have hQs : Q.heap.size = w.heap.size + 1 + 1 := by rw [hQ]; simp
  have hQ0 : Q.heap[w.heap.size]? = some (.cells #[.int .i64 h.wax, .slice aw h.writers.length kw, .slice ac h.customers.length kc] 25 (0, 0)) := by rw [hQ]; exact (heap_alloc_old _ _ (by simp)).trans (alloc_at _ _ rfl)
  have hQ1 : Q.heap[w.heap.size + 1]? = some (.cells #[.int .i64 0] 3 (0, 0)) := by rw [hQ]; exact alloc_at _ _ (by simp)
  have CK := DCheck_any aw ac kw kc h Q (hm.mono hQb)
  have HV := Lib.hid (fun h : deErr h = 0 => deValid_of h)
  have HNO := Lib.hid (fun (e : deErr h ≠ 0) => show deBest h = ([], 0, deErr h) by unfold deBest; rw [if_neg e])
  have HNF := Lib.hid (fun (e : deErr h = 0) (hv : DeValid h) (e2 : overB h (fullW h) (fullC h) = -1) => show deBest h = ([], 0, 9) by unfold deBest; rw [if_pos e, best_none hv e2])
  have HFD := Lib.hid (fun (e : deErr h = 0) (hv : DeValid h) (e2 : 0 ≤ overB h (fullW h) (fullC h)) => show ∃ q, PlanOk h h.customers.length q ∧ seqOf q = fD h (fullW h) (fullC h) (overB h (fullW h) (fullC h)) (beginD h) ∧ deBest h = (q, overB h (fullW h) (fullC h), 0) by
    obtain ⟨q, h1, _, h3, h4⟩ := best_some hv e2
    exact ⟨q, h1, h3, by unfold deBest; rw [if_pos e, h4]⟩)
  have e0 : (deCheck h).2.2 = deErr h := rfl
  rw [e0] at CK
  generalize (deCheck h).1 = q1 at CK
  generalize (deCheck h).2.1 = q2 at CK
  obtain ⟨er, her0⟩ : ∃ er, er = deErr h := ⟨_, rfl⟩
  rw [← her0] at CK HV HNO HNF HFD
  clear her0 e0
  generalize deBest h = res at HNO HNF HFD ⊢
  replace CK := Lib.hid CK
  have x0 := blk_cell 0 hQ0 rfl
  have x1 := blk_cell 1 hQ0 rfl
  have x2 := blk_cell 2 hQ0 rfl
  have xz := lt_of_block hQ0
  simp only [List.getElem_toArray, List.getElem_cons_zero, List.getElem_cons_succ] at x0 x1 x2
  replace hQs := Lib.hid hQs
  by_cases her : er = 0
  · have hv := HV.out her
    replace HNF := Lib.hid (HNF.out her hv)
    replace HFD := Lib.hid (HFD.out her hv)
    have g1 := nei_f her
    have hHer := Lib.hid her
    clear her HV HNO
    have hnw := hv.nw
    have hnc := hv.nc
    have hbok := begin_ok hv
    have hlf := left_le hv (beginD h)
    have LK := Lib.hid (fun (W : World) (hb : Below w.heap.size w W) => DLook_any aw ac kw kc h W (hm.mono hb) hv)
    go_enter Try.func26, Try.ntmps26
    go_upto_region 1 with (fail)
    rw [← hQ]
    clear hQ
    go_upto_region 4 with (go_at_call 16; go_must ((with_reducible refine CK.out.mono ?_); rintro e w2 ⟨rfl, hb2⟩; dsimp only))
    have hw2 : Below w.heap.size w w2 := hQb.trans (hb2.mono hQb.size)
    have h20 := (hb2.block _ (lt_of_block hQ0)).trans hQ0
    have h21 := (hb2.block _ (lt_of_block hQ1)).trans hQ1
    have hz2 := hb2.size
    clear x0 x1 x2 xz
    have x0 := blk_cell 0 h20 rfl
    have x1 := blk_cell 1 h20 rfl
    have x2 := blk_cell 2 h20 rfl
    have xz := lt_of_block h20
    simp only [List.getElem_toArray, List.getElem_cons_zero, List.getElem_cons_succ] at x0 x1 x2
    go_upto_region 7 with (go_at_call 73; go_must ((with_reducible refine (LK.out _ hw2).mono ?_); rintro e w3 ⟨bm, bo, rfl, hK, hb3, hbo, hbm⟩; dsimp only))
    have hz3 := hb3.size
    obtain ⟨Y, hY⟩ : ∃ Y : World, Y = ((w3.alloc (.cells #[.pointer (some ⟨bm, 0, none⟩)] 94)).alloc (.cells #[.slice none 0 0] 42)).alloc (.cells #[.nilFunc] 101) := ⟨_, rfl⟩
    rw [← hY]
    have hYb : Below w3.heap.size w3 Y := by rw [hY]; exact (by (repeat' (first | assumption | exact Below.refl _ _ | refine below_drew' ?_ | refine Below.setCell ?_ (by first | omega | (simp <;> omega)) _ | refine Below.alloc ?_ (by first | omega | (simp <;> omega)) _)))
    have hYs : Y.heap.size = w3.heap.size + 1 + 1 + 1 := by rw [hY]; simp
    have hYh : Y.heap[w3.heap.size]? = some (.cells #[.pointer (some ⟨bm, 0, none⟩)] 94 (0, 0)) := by rw [hY]; exact (heap_alloc_old _ _ (by simp <;> omega)).trans ((heap_alloc_old _ _ (by simp)).trans (alloc_at _ _ rfl))
    have hYa : Y.heap[w3.heap.size + 1]? = some (.cells #[.slice none 0 0] 42 (0, 0)) := by rw [hY]; exact (heap_alloc_old _ _ (by simp)).trans (alloc_at _ _ (by simp))
    have hYf : Y.heap[w3.heap.size + 1 + 1]? = some (.cells #[.nilFunc] 101 (0, 0)) := by rw [hY]; exact alloc_at _ _ (by simp)
    clear hY
    have hb2Y : Below w2.heap.size w2 Y := hb3.trans (hYb.mono hz3)
    have hY0 := (hb2Y.block _ (lt_of_block h20)).trans h20
    have hY1 := (hb2Y.block _ (lt_of_block h21)).trans h21
    have hwY : Below w.heap.size w Y := hw2.trans (hb2Y.mono hw2.size)
    have hYK := hK.below hYb
    have kbm := hK.bm_lt
    have kbo := hK.bo_lt
    have l20 := lt_of_block h20
    have l21 := lt_of_block h21
    have hwz := hw2.size
    clear hb2 hb3 hK h20 h21 hQ0 hQ1 hQb hQs x0 x1 x2 xz hYb hb2Y CK LK hw2
    have BG := Lib.hid (DBegin_any aw ac kw kc h bm bo _ _ Y hYK hv)
    have y0 := blk_cell 0 hYh rfl
    have yz := lt_of_block hYh
    simp only [List.getElem_toArray, List.getElem_cons_zero] at y0
    replace hYs := Lib.hid hYs
    go_upto_region 8 with (go_at_call 74; go_must ((with_reducible refine BG.out.mono ?_); rintro e w4 ⟨rfl, hb4⟩; dsimp only))
    obtain ⟨X, hX⟩ : ∃ X : World, X = w4.alloc (.cells #[.int .i64 ((beginD h).writer : Int), .int .i64 ((beginD h).done : Int), .int .i64 (minuteAt (beginD h) 0), .int .i64 (minuteAt (beginD h) 1), .int .i64 (minuteAt (beginD h) 2)] 105) := ⟨_, rfl⟩
    rw [← hX]
    have hXS : StB X w4.heap.size (beginD h) := by rw [hX]; exact alloc_at _ _ rfl
    have hXb : Below Y.heap.size Y X := by rw [hX]; exact hb4.alloc hb4.size _
    have hXs : X.heap.size = w4.heap.size + 1 := by rw [hX]; simp
    have h4z := hb4.size
    have hXK := hYK.below hXb
    have hX0 := (hXb.block _ (lt_of_block hY0)).trans hY0
    have hX1 := (hXb.block _ (lt_of_block hY1)).trans hY1
    have hXh := (hXb.block _ (lt_of_block hYh)).trans hYh
    have hXa := (hXb.block _ (lt_of_block hYa)).trans hYa
    have hXf := (hXb.block _ (lt_of_block hYf)).trans hYf
    have hwX : Below w.heap.size w X := hwY.trans (hXb.mono hwY.size)
    have eY := hYs.out
    clear hX hb4 hY0 hY1 hYh hYa hYf y0 yz BG hYK hwY hYs hXb
    have y0 := blk_cell 0 hXh rfl
    have yz := lt_of_block hXh
    simp only [List.getElem_toArray, List.getElem_cons_zero] at y0
    have hwmx : fullW h < 8 := by have := two_pow_le3 hnw; have := pow_pred h.writers.length; show 2 ^ _ - 1 < 8; omega
    have hcmx : fullC h < 32 := by have := two_pow_le5 hnc; have := pow_pred h.customers.length; show 2 ^ _ - 1 < 32; omega
    have OV := Lib.hid (DOver_any aw ac kw kc h bm bo (fullW h) (fullC h) hv hwmx hcmx _ (beginD h) (Nat.le_refl _) hbok X hXK)
    have HG5 := Lib.hid (fun (V : World) (hg : X.grownBy V (some bo)) => (show V.heap[w.heap.size + 1]? = some (.cells #[.int .i64 0] 3 (0, 0)) from grown_keep hg hX1 (hXK.other hX1)))
    obtain ⟨x0, x1, x2, x3, x4, xz⟩ := StB.cells hXS
    have hov : ovD h (fullW h) (fullC h) (beginD h) = overB h (fullW h) (fullC h) := rfl
    rw [hov] at OV
    have hge := overB_ge (h := h) (fullW h) (fullC h)
    obtain ⟨n, hn⟩ : ∃ n, n = overB h (fullW h) (fullC h) := ⟨_, rfl⟩
    rw [← hn] at OV hge HNF HFD
    replace hn := Lib.hid hn
    clear hov
    go_upto_region 9 with (go_at_call 75; go_must ((with_reducible refine OV.out.mono ?_); rintro e w5 ⟨rfl, hg5, hK5, -⟩; have h51 := HG5.out _ hg5; have z0 := blk_cell 0 h51 rfl; have zf := blk_free 0 h51; have zz := lt_of_block h51; dsimp only))
    have hgz := hg5.size
    have k0 := grown_keep hg5 hX0 (hXK.other hX0)
    have kh := grown_keep hg5 hXh (hXK.other hXh)
    have ka := grown_keep hg5 hXa (hXK.other hXa)
    have kf := grown_keep hg5 hXf (hXK.other hXf)
    have kS : StB w5 w4.heap.size (beginD h) := grown_keep hg5 hXS (hXK.other hXS)
    have hw5 : Below w.heap.size w w5 := hwX.grown hg5 hwX.size (fun j e => by have := Option.some.inj e; omega)
    clear hg5 OV HG5 hXK hX0 hX1 hXh hXa hXf hwX x0 x1 x2 x3 x4 xz y0 yz z0 zf zz hXS
    obtain ⟨V, hV⟩ : ∃ V : World, V = w5.setCell ⟨w.heap.size + 1, 0, none⟩ (.int .i64 n) := ⟨_, rfl⟩
    rw [← hV]
    have hVo : ∀ b, b ≠ w.heap.size + 1 → V.heap[b]? = w5.heap[b]? := fun b hb => by rw [hV]; exact Below.heap_setCell _ _ _ _ hb
    have hV1 : V.heap[w.heap.size + 1]? = some (.cells #[.int .i64 n] 3 (0, 0)) := by rw [hV]; exact blk_set 0 _ h51
    have hVs : V.heap.size = w5.heap.size := by rw [hV]; simp
    have hwV : Below w.heap.size w V := by rw [hV]; exact hw5.setCell (by simp) _
    clear hV
    have z0 := blk_cell 0 hV1 rfl
    have zf := blk_free 0 hV1
    have zz := lt_of_block hV1
    simp only [List.getElem_toArray, List.getElem_cons_zero] at z0
    by_cases hneg : n < 0
    · have e1 : n = -1 := by omega
      have hr := HNF.out e1
      subst hr
      clear HNF HFD
      go_wp2
      (try simp only [Exit.inBlock, Exit.then])
      refine bodyPost_ret (v := .tuple #[.slice none 0 0, .int .i64 0, .int .i64 9]) ?_ rfl ⟨.slice none 0 0, rfl, ⟨none, 0, rfl, ⟨by simp, by omega, fun _ => rfl⟩, RowsC.nil _ _⟩, hwV.setCell (by simp) _⟩
      rw [results_tct rfl]
      go_simp
    · obtain ⟨q, hq, hqs, hres⟩ := HFD.out (by omega)
      subst hres
      clear HNF HFD hge
      have hZf0 := (hVo (w3.heap.size + 1 + 1) (by omega)).trans kf
      have p0 := blk_free 0 hZf0
      have p1 := blk_cell 0 hZf0 rfl
      have pz := lt_of_block hZf0
      simp only [List.getElem_toArray, List.getElem_cons_zero] at p1
      go_upto_region 12 with (fail)
      obtain ⟨Z, hZ⟩ : ∃ Z : World, Z = V.setCell ⟨w3.heap.size + 1 + 1, 0, none⟩ (.func (.func 76) #[] #[.pointer (some ⟨w.heap.size, 0, none⟩), .pointer (some ⟨w3.heap.size, 0, none⟩), .pointer (some ⟨w.heap.size + 1, 0, none⟩), .pointer (some ⟨w3.heap.size + 1, 0, none⟩), .pointer (some ⟨w3.heap.size + 1 + 1, 0, none⟩)]) := ⟨_, rfl⟩
      rw [← hZ]
      have hZo : ∀ b, b ≠ w.heap.size + 1 → b ≠ w3.heap.size + 1 + 1 → Z.heap[b]? = w5.heap[b]? := fun b h1 h2 => by rw [hZ]; exact (Below.heap_setCell _ _ _ _ h2).trans (hVo b h1)
      have hZ1 : Z.heap[w.heap.size + 1]? = some (.cells #[.int .i64 n] 3 (0, 0)) := by rw [hZ]; exact (Below.heap_setCell _ _ _ _ (by simp only; omega)).trans hV1
      have hZf : Z.heap[w3.heap.size + 1 + 1]? = some (.cells #[.func (.func 76) #[] #[.pointer (some ⟨w.heap.size, 0, none⟩), .pointer (some ⟨w3.heap.size, 0, none⟩), .pointer (some ⟨w.heap.size + 1, 0, none⟩), .pointer (some ⟨w3.heap.size + 1, 0, none⟩), .pointer (some ⟨w3.heap.size + 1 + 1, 0, none⟩)]] 101 (0, 0)) := by rw [hZ]; exact blk_set 0 _ hZf0
      have hwZ : Below w.heap.size w Z := by rw [hZ]; exact hwV.setCell (by simp only; omega) _
      have hZs : Z.heap.size = w5.heap.size := by rw [hZ]; simpa using hVs
      clear hZ hVo hV1 hwV z0 zf zz p0 p1 pz hZf0
      obtain ⟨B, hB⟩ : ∃ B : FiB, B = ⟨w.heap.size, w.heap.size + 1, bm, bo, w3.heap.size, w3.heap.size + 1, w3.heap.size + 1 + 1⟩ := ⟨_, rfl⟩
      have hZ0 := (hZo w.heap.size (by omega) (by omega)).trans k0
      have hZh := (hZo w3.heap.size (by omega) (by omega)).trans kh
      have hZa := (hZo (w3.heap.size + 1) (by omega) (by omega)).trans ka
      have hZB := hK5.blk.same (hZo bm (by omega) (by omega))
      have hZM : ∃ T, MapV Z Try.prog 105 bo T ∧ MemoD h (fullW h) (fullC h) T := by
        obtain ⟨T, hT, hM⟩ := hK5.map
        exact ⟨T, hT.same (hZo bo (by omega) (by omega)), hM⟩
      have kZ : FindI w Z B (B.fp + 1) aw ac kw kc h n (.slice none 0 0) [] := by
        subst hB
        refine ⟨?_, hwZ, hZM, hZB, hZ0, hZh, hZ1, hZa, hZf, World.ownsRow_nil _ _ _ _⟩
        unfold FiB.ok
        simp only
        omega
      have hFC := (DFind_any aw ac kw kc h w hm hv B n _ (beginD h) (Nat.le_refl _) hbok Z _ [] (by simp only [List.length_nil]; omega) kZ)
      have hZS : StB Z w4.heap.size (beginD h) := kS.same (hZo _ (by omega) (by omega))
      clear kZ k0 kh ka kf kS hw5 hK5 hZo hZ1 h51 hZ0 hZh hZa hZB hZM
      have f0 := blk_cell 0 hZf rfl
      have fz := lt_of_block hZf
      simp only [List.getElem_toArray, List.getElem_cons_zero] at f0
      obtain ⟨x0, x1, x2, x3, x4, xz⟩ := StB.cells hZS
      rw [hB] at hFC
      simp only [standV] at hFC
      replace hFC := Lib.hid hFC
      go_upto_region 13 with ((with_reducible refine hFC.out.mono ?_); rintro e w6 ⟨⟨b, rfl⟩, ⟨v6, hI6⟩, hF6⟩; dsimp only)
      rw [List.nil_append, ← hqs] at hI6
      have h60 := hI6.c
      have h61 := hI6.oc
      have h6a := hI6.ac
      have hw6 := hI6.below
      obtain ⟨a6, c6, rfl, hs6, hc6⟩ := IntsV.of_own hI6.own
      simp only at h60 h61 h6a
      clear hI6 hF6 hFC x0 x1 x2 x3 x4 xz f0 fz hZf hB hZS
      have x1 := blk_cell 1 h60 rfl
      have xz := lt_of_block h60
      have n0 := blk_cell 0 h61 rfl
      have nf := blk_free 0 h61
      have nz := lt_of_block h61
      have a0 := blk_cell 0 h6a rfl
      have az := lt_of_block h6a
      simp only [List.getElem_toArray, List.getElem_cons_zero, List.getElem_cons_succ] at x1 n0 a0
      obtain ⟨i, hi, hz, hsz, hby⟩ := info_parts E_ints.info
      go_upto_region 14 with (refine wpList_make_row _ rfl (.tmp 36) (.tmp 36) _ rfl 42 i (.slice none 0 0) E_ints.und hi hz hsz rfl .i64 .i64 h.writers.length rfl rfl (by rw [hby]; omega) (by omega) ?_; go_frame)
      obtain ⟨N, hN⟩ : ∃ N : World, N = w6.alloc (.cells (madeCells #[.slice none 0 0] h.writers.length) 42) := ⟨_, rfl⟩
      rw [← hN]
      have hNG : N.heap[w6.heap.size]? = some (.cells (madeCells #[.slice none 0 0] h.writers.length) 42 (0, 0)) := by rw [hN]; exact alloc_at _ _ rfl
      have hNb : Below w6.heap.size w6 N := by rw [hN]; exact (by (repeat' (first | assumption | exact Below.refl _ _ | refine below_drew' ?_ | refine Below.setCell ?_ (by first | omega | (simp <;> omega)) _ | refine Below.alloc ?_ (by first | omega | (simp <;> omega)) _)))
      have hPN := PlI.start hNG
      have hl6 : (seqOf q).length ≤ 8 := by rw [hqs]; exact Nat.le_trans (fD_len (leftD h (beginD h)) (beginD h) hbok.w (Nat.le_refl _)) hlf
      have hq0 : ∀ c ∈ q.flatten, 0 ≤ c := fun c hc => ((hq.mem c).1 hc).1
      have hql := hq.len
      replace hqs := Lib.hid hqs
      have HB6 := Lib.hid (fun (V : World) (hb : Below w6.heap.size w6 V) => (⟨blk_cell 0 ((hb.block _ az).trans h6a) rfl, blk_cell 0 ((hb.block _ nz).trans h61) rfl, blk_free 0 ((hb.block _ nz).trans h61), Nat.lt_of_lt_of_le nz hb.size⟩ : V.cell? ⟨w3.heap.size + 1, 0, none⟩ = some (.slice a6 (seqOf q).length c6) ∧ V.cell? ⟨w.heap.size + 1, 0, none⟩ = some (.int .i64 n) ∧ V.frozen? ⟨w.heap.size + 1, 0, none⟩ = false ∧ w.heap.size + 1 < V.heap.size))
      have a1 := (HB6.out N hNb).1
      have az1 : w3.heap.size + 1 < N.heap.size := lt_of_cell a1
      clear hN x1 xz n0 nf nz a0 hi hz hsz hby hZs hNG
      go_wp2
      go_loopw [9, 40] (fun r i wr => ∃ k : Nat, k ≤ (seqOf q).length ∧ i = .int .i64 k ∧ r = .int .i64 ((placeAt q k).2 : Int) ∧ (∃ vs, PlI wr w6.heap.size vs (placeAt q k).1) ∧ Below w6.heap.size w6 wr) (fun _ i _ => (seqOf q).length - (intOf i).toNat)
      case atStart => exact ⟨0, Nat.zero_le _, rfl, by rw [placeAt_zero]; rfl, ⟨_, by rw [placeAt_zero, hql]; exact hPN⟩, hNb⟩
      case round =>
        clear a1 az1 hPN hNb
        obtain ⟨k, hk, rfl, rfl, ⟨vs, hP⟩, hb⟩ := hrel
        obtain ⟨a1, n0, nf, nz⟩ := HB6.out wr hb
        have hvl : vs.length = h.writers.length := by rw [hP.len, placeAt_len, hql]
        by_cases hlk : k < (seqOf q).length
        · have h8 := placeAt_two_le q k
          have hst := Lib.hid (placeAt_succ q hlk)
          obtain ⟨b6, o6, rfl, hb6, hci⟩ := hc6.mono hb k hlk
          have hci2 := hci
          generalize hcv : (seqOf q)[k] = c at hci hst
          by_cases hneg2 : c < 0
          · have hst2 : Hid (placeAt q (k + 1) = ((placeAt q k).1, (placeAt q k).2 + 1)) := Lib.hid (by rw [hst.out]; unfold placeStep; rw [if_pos hneg2])
            go_wp2
            go_roundw
            case rel => exact ⟨k + 1, by omega, by go_num, by rw [hst2.out]; go_num, ⟨vs, by rw [hst2.out]; exact hP⟩, hb⟩
            case measure => simp [intOf]; omega
          · have hlt := placeAt_lt q hq0 hlk (by rw [hcv]; omega)
            have hsh := placeAt_short q k
            have hpl := placeAt_len q k
            have hst2 : Hid (placeAt q (k + 1) = ((placeAt q k).1.modify (placeAt q k).2 (· ++ [c]), (placeAt q k).2)) := Lib.hid (by rw [hst.out]; unfold placeStep; rw [if_neg hneg2])
            clear hst
            generalize placeAt q k = pa at hst2 hlt hsh hpl h8 hP ⊢
            obtain ⟨rows, j⟩ := pa
            simp only at hst2 hlt hsh hpl h8 hP
            have hjv : j < vs.length := by omega
            have hjr : j < rows.length := by omega
            have hrl := hsh _ (List.getElem_mem hjr)
            have hown := hP.own j hjv hjr
            have g0 := blk_cell j hP.blk (v := vs[j]) (by simp [hjv])
            have gf := blk_free j hP.blk
            have gz := lt_of_block hP.blk
            have hPP := Lib.hid hP
            have hBZ := hb.size
            have hjn : j < h.writers.length := by omega
            have HAP := Lib.hid (fun (V2 : World) (v2 : Value) hn2 hg2 hat => (hP.alloc _).app (A := wr) (W := wr.alloc (.cells #[.int .i64 c] 3)) (W' := V2) (v' := v2) hjv hjr rfl hP hn2 hg2 hat)
            clear hP hown
            go_wp2_with (at_builtin; go_must (refine wpList_app (.tmp 53) (.tmp 55) E_int rfl rfl rfl rfl (w6.heap.size + 1) rows[j].length 1 (rows[j].map (Value.int .i64)) [.int .i64 c] ((hPP.out.own j hjv hjr).alloc _) (SrcAt.one _ _ _ rfl) (by omega) (by decide) (by have := hPP.out.blk; simp; omega) ?_; intro v2 w7 ho2 hg2 hat; (obtain ⟨g7, cap7, rfl⟩ := ownsRow_succ ho2); have hG7 := (hg2.block w6.heap.size (by simp; omega) (fun e => by have := ((hPP.out.own j hjv hjr).lt _ e.symm).1; omega)).trans ((heap_alloc_old _ _ gz).trans hPP.out.blk); have q0 := blk_cell j hG7 (v := vs[j]) (by simp [hjv]); have qf := blk_free j hG7; have qz := lt_of_block hG7; simp only [Act.put, List.setIfInBounds_toArray, List.set_cons_succ, List.set_cons_zero]))
            go_roundw
            case rel => exact ⟨k + 1, by omega, by go_num, by rw [hst2.out], ⟨vs.set j (.slice (some ⟨g7, 0, none⟩) (rows[j].length + 1) cap7), by rw [hst2.out]; exact HAP.out _ _ ho2 hg2 hat⟩, ((hb.alloc hb.size _).grown hg2 (by simp; omega) (fun l e => by have := ((hPP.out.own j hjv hjr).lt _ e).1; omega)).setCell (by simp) _⟩
            case measure => simp [intOf]; omega
        · obtain rfl : k = (seqOf q).length := by omega
          have e9 := placeAt_all q hq0
          rw [e9] at hP ⊢
          have hR := Lib.hid (fun (V : World) (hV : ∀ b, w6.heap.size ≤ b → V.heap[b]? = wr.heap[b]?) => (hP.same hV).rows h.writers.length h.writers.length hql.symm ⟨Nat.le_refl _, by omega⟩)
          have hwr : Below w.heap.size w wr := hw6.trans (hb.mono hw6.size)
          clear hP hvl
          go_upto_region 22 with (fail)
          (focus go_region)
          all_goals
            go_wp2
            (try simp only [Exit.inBlock, Exit.then])
            refine bodyPost_ret (v := .tuple #[.slice (some ⟨w6.heap.size, 0, none⟩) h.writers.length h.writers.length, .int .i64 n, .int .i64 0]) ?_ rfl ⟨_, rfl, hR.out _ ?_, (by (repeat' (first | assumption | exact Below.refl _ _ | refine below_drew' ?_ | refine Below.setCell ?_ (by first | omega | (simp <;> omega)) _ | refine Below.alloc ?_ (by first | omega | (simp <;> omega)) _)))⟩
            · rw [results_tct rfl]
              go_simp
            · intro b hb
              exact Below.heap_setCell _ _ _ _ (by simp only; omega)
  · replace HNO := HNO.out her
    subst HNO
    have g1 := nei_t her
    clear her HV HNF HFD
    go_enter Try.func26, Try.ntmps26
    go_upto_region 1 with (fail)
    rw [← hQ]
    clear hQ
    go_wp2_with (go_at_call 16; go_must ((with_reducible refine CK.out.mono ?_); rintro e w2 ⟨rfl, hb2⟩; have h21 := (hb2.block _ (lt_of_block hQ1)).trans hQ1; have hw2 : Below w.heap.size w w2 := hQb.trans (hb2.mono hQb.size); have z0 := blk_cell 0 h21 rfl; have zf := blk_free 0 h21; have zz := lt_of_block h21; dsimp only))
    (try simp only [Exit.inBlock, Exit.then])
    refine bodyPost_ret (v := .tuple #[.slice none 0 0, .int .i64 0, .int .i64 er]) ?_ rfl ⟨.slice none 0 0, rfl, ⟨none, 0, rfl, ⟨by simp, by omega, fun _ => rfl⟩, RowsC.nil _ _⟩, hw2.setCell (by simp) _⟩
    rw [results_tct rfl]
    go_simp
end Go.Proofs.Ytchnpekgmkhacaa
