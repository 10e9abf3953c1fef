/- What is proved here: the contract of Later. Conditions: the hall lies in memory. -/
/- What is proved here: the contract of the reference's Best of layer 9. Condition: the hall lies in memory. -/
/- What is proved here: the contract of the reference's But of layer 9. Conditions: the hall lies in memory; few customers. -/
import Derived.Test.YtelmponkmmfffaaGreatDeBest2G
import Derived.Test.YtelmponkmmfffaaGreatDeFlatG
set_option linter.unusedVariables false
set_option linter.unusedSimpArgs false
namespace Go.Proofs.YtelmponkmmfffaaGreat
open Go Go.RowKit Go.Shelf

set_option maxRecDepth 100000 in
set_option maxHeartbeats 1000000 in
theorem DClone_any (ad : Addr) (l : List DeC) (c : Nat) (w : World) (hl : l.length ≤ 1000) (hi : CustsC w (some ad) l) :
    Calls Tryz.prog 90 #[.slice (some ad) l.length c] w fun e w' => ∃ v, e = .returned v ∧ w'.ownsRow w.heap.size 39 5 v l.length (flatC custCells l) ∧ Below w.heap.size w w' := by
  have hbin : (binOp BinOp.eql 26 (.slice (some ad) l.length c) (.slice none 0 0)).run Tryz.prog w = .ok (.bool false) w := by
    generalize l.length = n
    kernel_rfl
  go_enter Tryz.func90, Tryz.ntmps90
  go_wp2_with (at_builtin; go_must (refine wpList_app (.tmp 5) (.tmp 6) E_cust rfl rfl rfl rfl w.heap.size 0 l.length [] (flatC custCells l) (made_row w _ 5) (SrcAt.custs (fun e => by cases e) (hi.mono ((Below.refl _ _).alloc (Nat.le_refl _) _))) (by omega) (by decide) (by simp) ?_; intro v2 w3 ho2 hg2 _; (have hb3 := app_fresh hg2); (simp only [Nat.zero_add, List.nil_append] at ho2); clear hg2; simp only [Act.put, List.setIfInBounds_toArray, List.set_cons_succ, List.set_cons_zero]))
  go_ret
  exact ⟨_, rfl, ho2, hb3⟩

theorem modify_names (l : List DeC) (c : Nat) (m : Int) : ∀ x ∈ l.modify c (fun x => { x with ship := m }), ∃ y ∈ l, x.name = y.name := fun x hx => by
  obtain ⟨i, hi, rfl⟩ := List.getElem_of_mem hx
  rw [List.getElem_modify]
  refine ⟨l[i]'(by simpa using hi), List.getElem_mem _, ?_⟩
  split <;> rfl
/-- What lies in memory while Later asks. -/
structure LaterI (w0 W : World) (aw : Option Addr) (kw : Nat) (h : DeH) (c hb sp g cap : Nat) (m : Int) : Prop where
  box : W.heap[hb]? = some (.cells #[.int .i64 h.wax, .slice aw h.writers.length kw, .slice (some ⟨g, 0, none⟩) h.customers.length cap] 28 (0, 0))
  ptr : W.heap[sp]? = some (.cells #[.pointer (some ⟨g, c * 5 + 4, none⟩)] 165 (0, 0))
  own : W.ownsRow w0.heap.size 39 5 (.slice (some ⟨g, 0, none⟩) h.customers.length cap) h.customers.length (flatC custCells (h.customers.modify c fun x => { x with ship := m }))
  ne : hb ≠ g ∧ sp ≠ g
  below : Below w0.heap.size w0 W
  at0 : w0.heap.size ≤ g
theorem LaterI.grow {w0 W W' : World} {aw : Option Addr} {kw : Nat} {h : DeH} {c hb sp g cap : Nat} {m : Int} (k : LaterI w0 W aw kw h c hb sp g cap m) (hB : Below W.heap.size W W') : LaterI w0 W' aw kw h c hb sp g cap m :=
  ⟨(hB.block _ (lt_of_block k.box)).trans k.box, (hB.block _ (lt_of_block k.ptr)).trans k.ptr, own_below k.own hB, k.ne, k.below.trans (hB.mono k.below.size), k.at0⟩
theorem LaterI.store {w0 W : World} {aw : Option Addr} {kw : Nat} {h : DeH} {c hb sp g cap : Nat} {m : Int} (k : LaterI w0 W aw kw h c hb sp g cap m) (hc : c < h.customers.length) (v : Int) : LaterI w0 (W.setCell ⟨g, c * 5 + 4, none⟩ (.int .i64 v)) aw kw h c hb sp g cap v := by
  refine ⟨(Below.heap_setCell _ _ _ _ k.ne.1).trans k.box, (Below.heap_setCell _ _ _ _ k.ne.2).trans k.ptr, ?_, k.ne, k.below.setCell (by exact k.at0) _, k.at0⟩
  have h1 := (k.own.stored (c * 5 + 4) (.int .i64 v)).1
  rw [custs_ship _ c (by simpa using hc), modify_twice] at h1
  exact h1
theorem LaterI.hall {w0 W : World} {aw ac : Option Addr} {kw kc : Nat} {h : DeH} {c hb sp g cap : Nat} {m : Int} (k : LaterI w0 W aw kw h c hb sp g cap m) (hm : HallC w0 aw ac kw kc h) : HallC W aw (some ⟨g, 0, none⟩) kw cap (shippedD h c m) := by
  have hm2 := hm.mono k.below
  obtain ⟨_, a, c', h2, h3, h4⟩ := custs_own k.own
  obtain ⟨rfl, -, rfl⟩ := Value.slice.inj h2
  refine ⟨hm2.okw, h3, hm2.writers, h4, hm2.wsize, fun x hx => ?_⟩
  obtain ⟨y, hy, e⟩ := modify_names h.customers c m x hx
  rw [e]
  exact hm2.csize _ hy

set_option maxRecDepth 100000 in
set_option maxHeartbeats 2000000 in
theorem DDoes_any (aw ac : Option Addr) (kw kc : Nat) (h : DeH) (w0 : World) (hm : HallC w0 aw ac kw kc h) (hv : DeValid h) (c hb sp g cap : Nat) (hc : c < h.customers.length) (m0 m : Int) (h0 : 0 ≤ m) (h1 : m ≤ 240) (w : World) (k : LaterI w0 w aw kw h c hb sp g cap m0) :
    Calls Tryz.prog 91 #[.int .i64 m, .pointer (some ⟨sp, 0, none⟩), .pointer (some ⟨hb, 0, none⟩)] w fun e w' => e = .returned (.bool (doesAt h c m)) ∧ LaterI w0 w' aw kw h c hb sp g cap m := by
  have k2 := k.store hc m
  have hv2 := ship_valid (c := c) hv h0 h1
  have hH := k2.hall hm
  have hsl := ship_len (h := h) (c := c) (m := m)
  have hw8 := two_pow_le3 hv.nw
  have hc32 := two_pow_le5 hv.nc
  have hpw := pow_pred h.writers.length
  have hpc := pow_pred h.customers.length
  obtain ⟨X, hX⟩ : ∃ X : World, X = w.setCell ⟨g, c * 5 + 4, none⟩ (.int .i64 m) := ⟨_, rfl⟩
  rw [← hX] at k2 hH
  have LK : Calls Tryz.prog 53 #[.agg #[.int .i64 h.wax, .slice aw h.writers.length kw, .slice (some ⟨g, 0, none⟩) h.customers.length cap]] X fun e w' => ∃ bm bo : Nat, e = .returned (.pointer (some ⟨bm, 0, none⟩)) ∧ HallW w' bm bo aw (some ⟨g, 0, none⟩) kw cap (shippedD h c m) (fullW h) (fullC h) ∧ Below X.heap.size X w' := by
    have := DLook_any aw (some ⟨g, 0, none⟩) kw cap (shippedD h c m) X hH hv2
    rw [hsl] at this
    refine this.mono fun e w' ⟨bm, bo, g1, g2, g3, _, _⟩ => ⟨bm, bo, g1, ?_, g3⟩
    rw [show fullC (shippedD h c m) = fullC h by unfold fullC; rw [hsl]] at g2
    exact g2
  have SM : ∀ (bm bo : Nat) (V : World), HallW V bm bo aw (some ⟨g, 0, none⟩) kw cap (shippedD h c m) (fullW h) (fullC h) → Calls Tryz.prog 87 #[.pointer (some ⟨bm, 0, none⟩), .int .i64 (fullW h : Nat), .int .i64 (fullC h : Nat)] V fun e w' => e = .returned (.bool (doesAt h c m)) ∧ Below V.heap.size V w' := fun bm bo V hV =>
    DSome_any aw (some ⟨g, 0, none⟩) kw cap (shippedD h c m) bm bo _ _ (fullW h) (fullC h) V hV hv2 (by show 2 ^ _ - 1 < 8; omega) (by show 2 ^ _ - 1 < 32; omega) (by rw [hsl]; exact hpc)
  have s0 := blk_cell 0 k.ptr rfl
  simp only [List.getElem_toArray, List.getElem_cons_zero] at s0
  have sz := lt_of_block k.ptr
  have gf := k.own.frozenAt (c * 5 + 4)
  have gc := k.own.cellAt (c * 5 + 4) (by omega)
  have hgl : c * 5 + 4 < (flatC custCells (h.customers.modify c fun x => { x with ship := m0 })).length := by rw [flatC_len custCells_len]; simp; omega
  rw [List.getElem?_eq_getElem hgl] at gc
  have gz := lt_of_cell gc
  generalize (flatC custCells (h.customers.modify c fun x => { x with ship := m0 }))[c * 5 + 4] = gv at gc
  clear hgl hw8 hc32 hpw hpc hsl hH k
  generalize doesAt h c m = r at *
  have LK := Lib.hid LK
  have SM := Lib.hid SM
  go_enter Tryz.func91, Tryz.ntmps91
  go_upto_region 2 with (fail)
  rw [← hX]
  clear hX s0 sz gf gc gz
  have b0 := blk_cell 0 k2.box rfl
  have b1 := blk_cell 1 k2.box rfl
  have b2 := blk_cell 2 k2.box rfl
  simp only [List.getElem_toArray, List.getElem_cons_zero, List.getElem_cons_succ] at b0 b1 b2
  have bz := lt_of_block k2.box
  have K2 := Lib.hid k2
  clear k2
  go_upto_region 3 with (go_at_call 53; go_must ((with_reducible refine LK.out.mono ?_); rintro e w2 ⟨bm, bo, rfl, hK, hb2⟩; dsimp only))
  have K3 := Lib.hid (K2.out.grow hb2)
  have KE : Hid (∀ V, Below w2.heap.size w2 V → (Below w2.heap.size w2 V ∧ V.cell? ⟨bm, 3, none⟩ = some (.int .i64 (fullW h : Nat)) ∧ V.cell? ⟨bm, 4, none⟩ = some (.int .i64 (fullC h : Nat)) ∧ bm < V.heap.size)) := Lib.hid (fun V hb => by
    obtain ⟨y0, y1, y2, y3, y4, y5, y6⟩ := (hK.below hb).blk.cells
    exact ⟨hb, y3, y4, y6⟩)
  have SM2 := Lib.hid (fun V (hb : Below w2.heap.size w2 V) => SM.out bm bo V (hK.below hb))
  clear hK b0 b1 b2 bz SM K2 LK
  generalize fullW h = wm at *
  generalize fullC h = cm at *
  have hg0 : Below w2.heap.size w2 w2.drew := below_drew' (Below.refl _ _)
  have hs0 := hg0.size
  go_region_held3 (fun V => Below w2.heap.size w2 V ∧ V.cell? ⟨bm, 3, none⟩ = some (.int .i64 (wm : Int)) ∧ V.cell? ⟨bm, 4, none⟩ = some (.int .i64 (cm : Int)) ∧ bm < V.heap.size) (first | exact KE.out _ hg0 | exact KE.out _ hg1) (first
    | (go_at_call 87; refine (SM2.out _ hg0).mono ?_; rintro e w4 ⟨rfl, hgs⟩; have hg1 := hg0.trans (hgs.mono hs0); dsimp only))
  go_wp2
  go_ret
  exact ⟨rfl, K3.out.grow hg1⟩

theorem box_free {w W : World} {cs : Array Value} {t : TypeId} (h : Below (w.heap.size + 1) (w.alloc (.cells cs t)) W) (j : Nat) : W.frozen? ⟨w.heap.size, j, none⟩ = false := blk_free j ((h.block _ (by omega)).trans (heap_alloc_new w _))
theorem own_pos {w : World} {base : Nat} {e : TypeId} {size n : Nat} {v : Value} {xs : List Value} (h : w.ownsRow base e size v n xs) (hn : 0 < n) : ∃ g cap, v = .slice (some ⟨g, 0, none⟩) n cap ∧ base ≤ g ∧ g < w.heap.size ∧ n ≤ cap := by
  rcases h.2 with ⟨_, h0⟩ | ⟨g, cap, cur, h1, h2, h3, h4, _⟩
  · omega
  · exact ⟨g, cap, h1, h2, (Array.getElem?_eq_some_iff.1 h3).1, h4⟩
set_option maxRecDepth 100000 in
set_option maxHeartbeats 4000000 in
theorem DLater_any (aw ac : Option Addr) (kw kc : Nat) (h : DeH) (cu : Int) (w : World) (hm : HallC w aw ac kw kc h) :
    Calls Tryz.prog 40 #[(.agg #[.int .i64 h.wax, .slice aw h.writers.length kw, .slice ac h.customers.length kc]), .int .i64 cu] w fun e w' => e = .returned (.tuple #[.int .i64 (deLater h cu).1, .int .i64 (deLater h cu).2]) ∧ Below w.heap.size w w' := by
  have hQ := Below.refl (w.heap.size + 1) (w.alloc (.cells #[.int .i64 h.wax, .slice aw h.writers.length kw, .slice ac h.customers.length kc] 28))
  have hbX := box_old hQ
  have CK := DCheck_any aw ac kw kc h (w.alloc (.cells #[.int .i64 h.wax, .slice aw h.writers.length kw, .slice ac h.customers.length kc] 28)) (hm.mono hbX)
  have HV := Lib.hid (fun h : deErr h = 0 => deValid_of h)
  have HNO := Lib.hid (fun (e : deErr h ≠ 0) => show deLater h cu = (0, deErr h) by rw [later_err (by unfold laterErr; rw [if_neg e]; exact e)]; unfold laterErr; rw [if_neg e])
  have HOU := Lib.hid (fun (e : deErr h = 0) (e2 : inB cu 0 ((h.customers.length : Int) - 1) = false) => show deLater h cu = (0, 4) by
    have : laterErr h cu = 4 := by unfold laterErr; rw [if_pos e, e2]; rfl
    rw [later_err (by rw [this]; decide), this])
  have HNE := Lib.hid (fun (he : deErr h = 0) (c : Nat) (hc : c < h.customers.length) hd => later_never (h := h) (c := c) he hc hd)
  have HIS := Lib.hid (fun (he : deErr h = 0) (c : Nat) (hc : c < h.customers.length) (m : Int) g0 g1 hd hno => later_is (h := h) (c := c) he hc (m := m) g0 g1 hd hno)
  have e0 : (deCheck h).2.2 = deErr h := rfl
  rw [e0] at CK
  generalize (deCheck h).1 = q1 at CK
  generalize (deCheck h).2.1 = q2 at CK
  generalize deErr h = er at CK HV HNO HOU HNE HIS
  clear e0
  replace CK := Lib.hid CK
  have x0 := box_cell hQ 0 _ rfl
  have x1 := box_cell hQ 1 _ rfl
  have x2 := box_cell hQ 2 _ rfl
  have xz := box_size hQ
  by_cases her : er = 0
  · have hv := HV.out her
    replace HOU := Lib.hid (fun e2 => HOU.out her e2)
    replace HNE := Lib.hid (fun c hc hd => HNE.out her c hc hd)
    replace HIS := Lib.hid (fun c hc m g0 g1 hd hno => HIS.out her c hc m g0 g1 hd hno)
    have g1 := nei_f her
    clear her HV HNO
    have hnc := hv.nc
    have l2c := hm.okc.1
    have B1 := fun (a : Nat) (W : World) hc => MBeyondOne_any cu 0 ((h.customers.length : Int) - 1) a W hc
    obtain ⟨ib, hib⟩ : ∃ ib, ib = inB cu 0 ((h.customers.length : Int) - 1) := ⟨_, rfl⟩
    rw [← hib] at HOU B1
    have HIB := Lib.hid hib
    clear hib
    replace B1 := Lib.hid B1
    cases ib
    · have hr := HOU.out rfl
      go_enter Tryz.func40, Tryz.ntmps40
      go_wp2_with (first
        | (go_at_call 89; have hh := hQ2; go_must ((with_reducible refine (B1.out _ _ ?_).mono ?_); (simp); rintro e w3 ⟨rfl, hb3⟩; dsimp only))
        | (go_at_call 52; go_must ((with_reducible refine CK.out.mono ?_); rintro e w2 ⟨rfl, hb2⟩; have hQ2 := hQ.trans (hb2.mono (by simp)); have x0 := box_cell hQ2 0 _ rfl; have x1 := box_cell hQ2 1 _ rfl; have x2 := box_cell hQ2 2 _ rfl; have xz := box_size hQ2; dsimp only)))
      go_ret2
      (try rw [hr])
      exact ⟨rfl, (box_old hQ2).trans (((Below.refl _ _).alloc (Nat.le_refl _) (.cells #[.int .i64 cu] 3)).trans (hb3.mono (by simp)) |>.mono (box_old hQ2).size)⟩
    · have hi := inB_iff.1 HIB.out.symm
      obtain ⟨c, rfl⟩ : ∃ c : Nat, cu = c := ⟨cu.toNat, by omega⟩
      have hc : c < h.customers.length := by omega
      have hci : (c : Int) < h.customers.length := by omega
      clear hi HIB HOU
      replace HNE := Lib.hid (HNE.out c hc)
      replace HIS := Lib.hid (HIS.out c hc)
      have DO := Lib.hid (fun (hb sp g cap : Nat) (m0 m : Int) h0 h1 (W : World) k => DDoes_any aw ac kw kc h w hm hv c hb sp g cap hc m0 m h0 h1 W k)
      have hsh := customer_ship hv hc
      have ec : customerAt h c = h.customers[c] := by unfold customerAt; rw [List.getElem?_eq_getElem hc]; rfl
      have HMS := Lib.hid (modify_same h.customers c hc)
      rw [ec] at hsh HIS
      clear ec
      obtain ⟨bc, oc, rfl, -⟩ := hm.custs c hc
      have CL := Lib.hid (fun (W : World) (hb : Below w.heap.size w W) => DClone_any ⟨bc, oc, none⟩ h.customers kc W (by omega) (hm.custs.mono hb))
      generalize deLater h c = res at HNE HIS ⊢
      have hn0 : 0 < h.customers.length := by omega
      have hwlen : h.customers.length ≤ 1000 := by omega
      have okw' := hm.okw
      go_enter Tryz.func40, Tryz.ntmps40
      go_upto_region 7 with (first
        | (go_at_call 90; have hh := hQ3; go_must ((with_reducible refine (CL.out _ (box_old hQ3)).mono ?_); rintro e w4 ⟨v4, rfl, ho4, hb4⟩; obtain ⟨g, cap, rfl, hg1, hg2, hg3⟩ := own_pos ho4 hn0; have hQ4 := box_on hQ3 hb4; have xf := box_free hQ4 2; have x2 := box_cell hQ4 2 _ rfl; have xz := box_size hQ4; dsimp only))
        | (go_at_call 89; have hh := hQ2; go_must ((with_reducible refine (B1.out _ _ ?_).mono ?_); (simp); rintro e w3 ⟨rfl, hb3⟩; have hQ3 := box_on hQ2 (((Below.refl _ _).alloc (Nat.le_refl _) (.cells #[.int .i64 (c : Int)] 3)).trans (hb3.mono (by simp))); have x0 := box_cell hQ3 0 _ rfl; have x1 := box_cell hQ3 1 _ rfl; have x2 := box_cell hQ3 2 _ rfl; have xz := box_size hQ3; dsimp only))
        | (go_at_call 52; go_must ((with_reducible refine CK.out.mono ?_); rintro e w2 ⟨rfl, hb2⟩; have hQ2 := hQ.trans (hb2.mono (by simp)); have x0 := box_cell hQ2 0 _ rfl; have x1 := box_cell hQ2 1 _ rfl; have x2 := box_cell hQ2 2 _ rfl; have xz := box_size hQ2; dsimp only)))
      have hw3 := (box_old hQ3).size
      have hgw : w.heap.size < g := by have := box_size hQ3; omega
      have hbx4 : w4.heap[w.heap.size]? = some (.cells #[.int .i64 h.wax, .slice aw h.writers.length kw, .slice (some ⟨bc, oc, none⟩) h.customers.length kc] 28 (0, 0)) := (hQ4.block _ (by omega)).trans (heap_alloc_new w _)
      obtain ⟨Z, hZ⟩ : ∃ Z : World, Z = w4.setCell ⟨w.heap.size, 2, none⟩ (.slice (some ⟨g, 0, none⟩) h.customers.length cap) := ⟨_, rfl⟩
      rw [← hZ]
      have hZx : Z.heap[w.heap.size]? = some (.cells #[.int .i64 h.wax, .slice aw h.writers.length kw, .slice (some ⟨g, 0, none⟩) h.customers.length cap] 28 (0, 0)) := by rw [hZ]; exact blk_set 2 _ hbx4
      have hZw : Below w.heap.size w Z := by rw [hZ]; exact (box_old hQ4).setCell (Nat.le_refl _) _
      have hZo : Z.ownsRow w.heap.size 39 5 (.slice (some ⟨g, 0, none⟩) h.customers.length cap) h.customers.length (flatC custCells h.customers) := by
        rw [hZ]; exact ownsRow_setCell_other (own_base ho4 hw3) (fun e => by have := Option.some.inj e; simp only at this; omega) _
      have hZs : g < Z.heap.size := by rw [hZ]; simpa using hg2
      clear hZ hbx4 hQ4 hQ3 hQ2 hQ hbX ho4 hb4 x0 x1 x2 xz xf CL CK B1
      have c2 := blk_cell 2 hZx rfl
      simp only [List.getElem_toArray, List.getElem_cons_zero, List.getElem_cons_succ] at c2
      have cz := lt_of_block hZx
      have hccap : (c : Int) < cap := by omega
      obtain ⟨Y, hY⟩ : ∃ Y : World, Y = Z.alloc (.cells #[.pointer (some ⟨g, c * 5 + 4, none⟩)] 165) := ⟨_, rfl⟩
      have hKY : LaterI w Y aw kw h c w.heap.size Z.heap.size g cap h.customers[c].ship := by
        rw [hY]
        refine ⟨(heap_alloc_old _ _ cz).trans hZx, alloc_at _ _ rfl, ?_, ⟨by omega, by omega⟩, hZw.alloc hZw.size _, by omega⟩
        rw [HMS.out]
        exact own_below hZo ((Below.refl _ _).alloc (Nat.le_refl _) _)
      go_upto_region 8 with (fail)
      rw [← hY]
      clear hY hZx hZw hZo hZs c2 cz
      generalize h.customers[c].ship = sh at hKY hsh HIS
      have p0 := blk_cell 0 hKY.ptr rfl
      simp only [List.getElem_toArray, List.getElem_cons_zero] at p0
      have pz := lt_of_block hKY.ptr
      have gc := hKY.own.cellAt (c * 5 + 4) (by omega)
      have gz := lt_of_cell (gc.trans (by rw [flatC_get custCells_len _ c (by simpa using hc) 4 (by omega), List.getElem_modify]; simp [custCells] ; rfl))
      have gv : Y.cell? ⟨g, c * 5 + 4, none⟩ = some (.int .i64 sh) := gc.trans (by rw [flatC_get custCells_len _ c (by simpa using hc) 4 (by omega), List.getElem_modify]; simp [custCells])
      clear gc
      have D0 := DO.out w.heap.size Z.heap.size g cap sh 240 (by omega) (by omega) Y hKY
      obtain ⟨d0, hd0⟩ : ∃ d, d = doesAt h c 240 := ⟨_, rfl⟩
      rw [← hd0] at D0 HNE
      replace D0 := Lib.hid D0
      clear hKY
      cases d0
      · have hr := Lib.hid (HNE.out rfl)
        clear HNE HIS hd0
        go_wp2_with (go_at_call 91; go_must ((with_reducible refine D0.out.mono ?_); rintro e w5 ⟨rfl, hK5⟩; dsimp only))
        go_ret2
        have hr := hr.out
        subst hr
        exact ⟨rfl, hK5.below⟩
      · have HD0 := Lib.hid hd0
        clear HNE hd0
        go_wp2_with (go_at_call 91; go_must ((with_reducible refine D0.out.mono ?_); rintro e w5 ⟨rfl, hK5⟩; dsimp only))
        go_loopw [12, 13] (fun a b wr => ∃ lo hi : Int, sh ≤ lo ∧ lo ≤ hi ∧ hi ≤ 240 ∧ a = .int .i64 lo ∧ b = .int .i64 hi ∧ Hid (doesAt h c hi = true) ∧ Hid (sh < lo → doesAt h c (lo - 1) = false) ∧ ∃ m, LaterI w wr aw kw h c w.heap.size Z.heap.size g cap m) (fun a b _ => (intOf b - intOf a).toNat)
        case atStart => exact ⟨sh, 240, Int.le_refl _, by omega, Int.le_refl _, rfl, rfl, Lib.hid HD0.out.symm, Lib.hid (fun e => absurd e (by omega)), _, hK5⟩
        case round =>
          clear hK5
          obtain ⟨lo, hi, h1, h2, h3, rfl, rfl, HA, HB, m0, hK⟩ := hrel
          by_cases hlt : lo < hi
          · go_upto_region 15 with (fail)
            obtain ⟨mid, hmid⟩ : ∃ mid, mid = (lo + hi) / 2 := ⟨_, rfl⟩
            rw [← hmid]
            have hm1 : lo ≤ mid ∧ mid < hi := by omega
            clear hmid
            have DM := DO.out w.heap.size Z.heap.size g cap m0 mid (by omega) (by omega) wr hK
            obtain ⟨d, hd⟩ : ∃ d, d = doesAt h c mid := ⟨_, rfl⟩
            rw [← hd] at DM
            have HD := Lib.hid hd
            replace DM := Lib.hid DM
            clear hd hK
            cases d
            · go_wp2_with (go_at_call 91; go_must ((with_reducible refine DM.out.mono ?_); rintro e w6 ⟨rfl, hK6⟩; dsimp only))
              go_roundw
              case rel => exact ⟨mid + 1, hi, by omega, by omega, h3, rfl, rfl, HA, Lib.hid (fun _ => by rw [show mid + 1 - 1 = mid by omega]; exact HD.out.symm), _, hK6⟩
              case measure => simp [intOf]; omega
            · go_wp2_with (go_at_call 91; go_must ((with_reducible refine DM.out.mono ?_); rintro e w6 ⟨rfl, hK6⟩; dsimp only))
              go_roundw
              case rel => exact ⟨lo, mid, by omega, by omega, by omega, rfl, rfl, Lib.hid HD.out.symm, HB, _, hK6⟩
              case measure => simp [intOf]; omega
          · obtain rfl : lo = hi := by omega
            have hr := HIS.out lo h1 h3 HA.out HB.out
            go_wp2
            go_ret2
            subst hr
            exact ⟨rfl, hK.below⟩
  · replace HNO := HNO.out her
    have g1 := nei_t her
    clear her HV HOU HNE HIS
    generalize deLater h cu = res at HNO ⊢
    go_enter Tryz.func40, Tryz.ntmps40
    go_wp2_with (go_at_call 52; go_must ((with_reducible refine CK.out.mono ?_); rintro e w2 ⟨rfl, hb2⟩; have hQ2 := hQ.trans (hb2.mono (by simp)); dsimp only))
    go_ret2
    subst HNO
    exact ⟨rfl, box_old hQ2⟩
end Go.Proofs.YtelmponkmmfffaaGreat
namespace Go.Proofs.YtelmponkmmfffaaGreat
open Go Go.RowKit Go.Shelf

end Go.Proofs.YtelmponkmmfffaaGreat
namespace Go.Proofs.YtelmponkmmfffaaGreat
open Go Go.RowKit Go.Shelf

theorem results_cell1 {fn : Func} {p : Tmp} {ty : TypeId} (h : fn.results = #[.cell p ty]) (tmps : Array Value) (P : Program) (w : World) :
    (results fn tmps).run P w = ((asAddr (tmps.getD p undef)).run P w).andThen fun a w₁ => ((loadVar ty a).run P w₁) := by
  simp only [results, h]
  simp [Sem.run_bind, Result.andThen]
end Go.Proofs.YtelmponkmmfffaaGreat
