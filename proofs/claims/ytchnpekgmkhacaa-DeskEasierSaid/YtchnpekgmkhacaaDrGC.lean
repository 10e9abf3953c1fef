/- What is proved here: the contract of the reference's But of layer 9. Conditions: the hall lies in memory; few customers. -/
/- What is proved here: the contract of the reference's Shipped of layer 9. Conditions: the hall lies in memory; few customers; the customer is one. -/
/- What is proved here: the contract of the reference's Only of layer 9. Conditions: the hall lies in memory; few numbers, which are writers'. -/
/- What is proved here: contracts of the reference of layer 9: Away. Condition: the hall lies in memory. -/
/- What is proved here: contracts of the reference of layer 9: Enough. Condition: the hall lies in memory. -/
import Derived.Test.YtchnpekgmkhacaaDrGB
import Derived.Test.YtchnpekgmkhacaaDeFlat
import Derived.Test.YtchnpekgmkhacaaDeLaterW
import Derived.Test.YtchnpekgmkhacaaStepG
set_option linter.unusedVariables false
set_option linter.unusedSimpArgs false
namespace Go.Proofs.Ytchnpekgmkhacaa
open Go Go.RowKit Go.Shelf

theorem results_cell1 {fn : Func} {p : Tmp} {ty : TypeId} (h : fn.results = #[.cell p ty]) (tmps : Array Value) (P : Program) (w : World) :
    (results fn tmps).run P w = ((asAddr (tmps.getD p undef)).run P w).andThen fun a w₁ => ((loadVar ty a).run P w₁) := by
  simp only [results, h]
  simp [Sem.run_bind, Result.andThen]
def butTo (h : DeH) (l : List Int) (j : Nat) : List DeC := (List.range j).filterMap fun (i : Nat) => if hasB l (i : Int) then none else h.customers[i]?
theorem butTo_succ (h : DeH) (l : List Int) (j : Nat) (hj : j < h.customers.length) : butTo h l (j + 1) = butTo h l j ++ if hasB l (j : Int) then [] else [h.customers[j]] := by
  unfold butTo
  rw [List.range_succ, List.filterMap_append]
  congr 1
  rw [List.filterMap_cons, List.filterMap_nil, List.getElem?_eq_getElem hj]
  cases hasB l (j : Int) <;> rfl
theorem butTo_len (h : DeH) (l : List Int) (j : Nat) : (butTo h l j).length ≤ j := by
  unfold butTo
  refine Nat.le_trans (List.length_filterMap_le _ _) ?_
  rw [List.length_range]; exact Nat.le_refl j
theorem butTo_mem {h : DeH} {l : List Int} {j : Nat} {x : DeC} (hx : x ∈ butTo h l j) : x ∈ h.customers := by
  unfold butTo at hx
  obtain ⟨i, _, hi⟩ := List.mem_filterMap.1 hx
  by_cases e : hasB l (i : Int) = true
  · rw [if_pos e] at hi; cases hi
  · rw [if_neg e] at hi
    exact List.mem_of_getElem? hi
set_option maxRecDepth 100000 in
set_option maxHeartbeats 4000000 in
theorem DRBut_any (aw ac : Option Addr) (kw kc : Nat) (h : DeH) (ab : Option Addr) (l : List Int) (cb : Nat) (w : World) (hm : HallC w aw ac kw kc h) (hn : h.customers.length ≤ 5) (hsb : SlOk ab l.length cb) (hib : IntsC w ab l) :
    Calls Try.prog 49 #[(.agg #[.int .i64 h.wax, .slice aw h.writers.length kw, .slice ac h.customers.length kc]), .slice ab l.length cb] w fun e w' => ∃ b5 d5, e = .returned (.agg #[.int .i64 h.wax, .slice aw h.writers.length kw, .slice b5 (butD h l).customers.length d5]) ∧ HallC w' aw b5 kw d5 (butD h l) ∧ Below w.heap.size w w' := by
  have l5 := hm.okc.len
  have l5c := hm.okc.1
  obtain ⟨Y, hY⟩ : ∃ Y : World, Y = (w.alloc (.cells #[.int .i64 h.wax, .slice aw h.writers.length kw, .slice ac h.customers.length kc] 25)).alloc (.cells #[.int .i64 0, .slice none 0 0, .slice none 0 0] 25) := ⟨_, rfl⟩
  have hYs : Y.heap.size = w.heap.size + 2 := by rw [hY]; simp
  have hB0 : Below (w.heap.size + 1) (w.alloc (.cells #[.int .i64 h.wax, .slice aw h.writers.length kw, .slice ac h.customers.length kc] 25)) Y := by rw [hY]; exact (Below.refl _ _).alloc (by simp) _
  have hX0 : Y.heap[w.heap.size]? = some (.cells #[.int .i64 h.wax, .slice aw h.writers.length kw, .slice ac h.customers.length kc] 25 (0, 0)) := by rw [hY]; exact (heap_alloc_old _ _ (by simp)).trans (alloc_at _ _ rfl)
  have hX1 : Y.heap[w.heap.size + 1]? = some (.cells #[.int .i64 0, .slice none 0 0, .slice none 0 0] 25 (0, 0)) := by rw [hY]; exact alloc_at _ _ (by simp)
  have hbY := box_old hB0
  have HA := Lib.hid (fun V (h : Below Y.heap.size Y V) n => Has_any ab l cb n V hsb.len (hib.mono (hbY.trans (h.mono hbY.size))))
  go_enter Try.func49, Try.ntmps49
  go_upto_region 1 with (fail)
  rw [← hY]
  clear hY
  go_wp2
  go_loopw [5, 6] (fun o i wr => ∃ j : Nat, j ≤ h.customers.length ∧ i = .int .i64 j ∧ wr.ownsRow Y.heap.size 55 5 o (butTo h l j).length (flatC custCells (butTo h l j)) ∧ Below Y.heap.size Y wr) (fun _ i _ => h.customers.length - (intOf i).toNat)
  case atStart => exact ⟨0, Nat.zero_le _, rfl, World.ownsRow_nil _ _ _ _, Below.refl _ _⟩
  case round =>
    obtain ⟨j, hj, rfl, hown, hbw⟩ := hrel
    have hR := (hbw.block _ (lt_of_block hX0)).trans hX0
    have x4 := blk_cell 2 hR rfl
    simp only [List.getElem_toArray, List.getElem_cons_zero, List.getElem_cons_succ] at x4
    have hz := hbw.size
    have z0 : w.heap.size < wr.heap.size := by omega
    have hbO := hbY.trans (hbw.mono hbY.size)
    by_cases hlt : j < h.customers.length
    · obtain ⟨b, off, ha5, hb, h0, h1, h2, h3, h4⟩ := (hm.mono hbO).custs j hlt
      have hst := Lib.hid (butTo_succ h l j hlt)
      have hbl := butTo_len h l j
      generalize h.customers[j] = x at h0 h1 h2 h3 h4 hst
      generalize butTo h l j = L at hown hst hbl
      have A := HA.out wr hbw j
      (try simp only at hst)
      generalize hasB l (j : Int) = hb2 at A hst
      replace A := Lib.hid A
      obtain ⟨xn, xk, xlo, xhi, xs⟩ := x
      simp only at h0 h1 h2 h3 h4
      have hjn : (j : Int) < kc := by omega
      rw [ha5] at x4
      have HH := Lib.hid ha5
      clear ha5
      cases hb2
      · go_wp2_with (first
          | (at_builtin; go_must (refine wpList_app (.tmp 18) (.tmp 24) E_cust rfl rfl rfl rfl Y.heap.size L.length 1 (flatC custCells L) (custCells ⟨xn, xk, xlo, xhi, xs⟩) (hown.alloc _) (SrcAt.box _ (custCells_one _) _) (by omega) (by decide) (by simp; omega) ?_; intro v2 w7 ho2 hg7 _; (have hb7 := app_next hbw (Nat.le_refl _) (Nat.le_refl _) hown hg7); clear hg7; simp only [Act.put, List.setIfInBounds_toArray, List.set_cons_succ, List.set_cons_zero]))
          | (go_at_call 87; (with_reducible refine A.out.mono ?_); rintro e w5 ⟨rfl, hw5⟩; obtain rfl := hw5.symm; dsimp only))
        go_roundw
        case rel => exact ⟨j + 1, by omega, by go_num, by rw [hst.out]; simpa [flatC_snoc] using ho2, hb7⟩
        case measure => simp [intOf]; omega
      · go_wp2_with (go_at_call 87; (with_reducible refine A.out.mono ?_); rintro e w5 ⟨rfl, hw5⟩; obtain rfl := hw5.symm; dsimp only)
        go_roundw
        case rel => exact ⟨j + 1, by omega, by go_num, by rw [hst.out]; simpa using hown, hbw⟩
        case measure => simp [intOf]; omega
    · obtain rfl : j = h.customers.length := by omega
      have hH : butTo h l h.customers.length = (butD h l).customers := rfl
      rw [hH] at hown
      clear hH
      have hR1 := (hbw.block _ (lt_of_block hX1)).trans hX1
      have x0 := blk_cell 0 hR rfl
      have x1 := blk_cell 1 hR rfl
      have y0 := blk_cell 0 hR1 rfl
      have y1 := blk_cell 1 hR1 rfl
      have y2 := blk_cell 2 hR1 rfl
      simp only [List.getElem_toArray, List.getElem_cons_zero, List.getElem_cons_succ] at x0 x1 y0 y1 y2
      have f2 := blk_free 2 hR
      have g0 := blk_free 0 hR1
      have g1 := blk_free 1 hR1
      have g2 := blk_free 2 hR1
      have z1 := lt_of_block hR1
      obtain ⟨-, b5, d5, rfl, -, -⟩ := custs_own hown
      have hne0 : (Value.slice b5 (butD h l).customers.length d5).ownBlock ≠ some w.heap.size := fun e => by have := (hown.lt _ e).1; omega
      have hne1 : (Value.slice b5 (butD h l).customers.length d5).ownBlock ≠ some (w.heap.size + 1) := fun e => by have := (hown.lt _ e).1; omega
      have HFIN := Lib.hid (fun (V : World) (hbF : Below w.heap.size w V) (ho : V.ownsRow Y.heap.size 55 5 (.slice b5 (butD h l).customers.length d5) (butD h l).customers.length (flatC custCells (butD h l).customers)) => show HallC V aw b5 kw d5 (butD h l) by
        have hM := hm.mono hbF
        obtain ⟨-, b6, d6, e6, hs6, hh6⟩ := custs_own ho
        cases e6
        exact ⟨hM.okw, hs6, hM.writers, hh6, hM.wsize, fun x hx => hM.csize x (butTo_mem (show x ∈ butTo h l h.customers.length from hx))⟩)
      have HBL := Lib.hid hbO
      have HOW := Lib.hid hown
      go_wp2
      (try simp only [Exit.inBlock, Exit.then])
      refine bodyPost_ret (v := .agg #[.int .i64 h.wax, .slice aw h.writers.length kw, .slice b5 (butD h l).customers.length d5]) ?_ rfl ⟨b5, d5, rfl, HFIN.out _ ?_ ?_, ?_⟩
      · rw [results_cell1 rfl]
        go_simp
      · exact (((hbO.setCell (by simp) _).setCell (by simp) _).setCell (by simp) _).setCell (by simp) _
      · exact ownsRow_setCell_other (ownsRow_setCell_other (ownsRow_setCell_other (ownsRow_setCell_other hown (a := ⟨w.heap.size, 2, none⟩) hne0 _) (a := ⟨w.heap.size + 1, 0, none⟩) hne1 _) (a := ⟨w.heap.size + 1, 1, none⟩) hne1 _) (a := ⟨w.heap.size + 1, 2, none⟩) hne1 _
      · exact (((hbO.setCell (by simp) _).setCell (by simp) _).setCell (by simp) _).setCell (by simp) _
end Go.Proofs.Ytchnpekgmkhacaa
namespace Go.Proofs.Ytchnpekgmkhacaa
open Go Go.RowKit Go.Shelf

theorem set_self {xs : List Value} {i : Nat} {v : Value} (h : xs[i]? = some v) : xs.set i v = xs := by
  obtain ⟨hi, rfl⟩ := List.getElem?_eq_some_iff.1 h
  exact List.set_getElem_self hi
set_option maxRecDepth 100000 in
set_option maxHeartbeats 4000000 in
theorem DRShipped_any (aw ac : Option Addr) (kw kc : Nat) (h : DeH) (c : Nat) (m : Int) (w : World) (hm : HallC w aw ac kw kc h) (hn : h.customers.length ≤ 5) (hc : c < h.customers.length) :
    Calls Try.prog 52 #[(.agg #[.int .i64 h.wax, .slice aw h.writers.length kw, .slice ac h.customers.length kc]), .int .i64 (c : Int), .int .i64 m] w fun e w' => ∃ b5 d5, e = .returned (.agg #[.int .i64 h.wax, .slice aw h.writers.length kw, .slice b5 (shippedD h c m).customers.length d5]) ∧ HallC w' aw b5 kw d5 (shippedD h c m) ∧ Below w.heap.size w w' := by
  have l5 := hm.okc.len
  have l5c := hm.okc.1
  have hsl : (shippedD h c m).customers.length = h.customers.length := ship_len h c m
  rw [hsl]
  obtain ⟨Y, hY⟩ : ∃ Y : World, Y = (w.alloc (.cells #[.int .i64 h.wax, .slice aw h.writers.length kw, .slice ac h.customers.length kc] 25)).alloc (.cells #[.int .i64 0, .slice none 0 0, .slice none 0 0] 25) := ⟨_, rfl⟩
  have hYs : Y.heap.size = w.heap.size + 1 + 1 := by rw [hY]; simp
  have hB0 : Below (w.heap.size + 1) (w.alloc (.cells #[.int .i64 h.wax, .slice aw h.writers.length kw, .slice ac h.customers.length kc] 25)) Y := by rw [hY]; exact (Below.refl _ _).alloc (by simp) _
  have hX0 : Y.heap[w.heap.size]? = some (.cells #[.int .i64 h.wax, .slice aw h.writers.length kw, .slice ac h.customers.length kc] 25 (0, 0)) := by rw [hY]; exact (heap_alloc_old _ _ (by simp)).trans (alloc_at _ _ rfl)
  have hX1 : Y.heap[w.heap.size + 1]? = some (.cells #[.int .i64 0, .slice none 0 0, .slice none 0 0] 25 (0, 0)) := by rw [hY]; exact alloc_at _ _ (by simp)
  have hbY := box_old hB0
  have HSR := Lib.hid (SrcAt.custs (c := kc) hm.okc.2.2 ((hm.mono hbY).custs.mono ((Below.refl _ _).alloc (Nat.le_refl _) (.cells #[] 55))))
  have x2 := blk_cell 2 hX0 rfl
  have f2 := blk_free 2 hX0
  have xz := lt_of_block hX0
  simp only [List.getElem_toArray, List.getElem_cons_zero, List.getElem_cons_succ] at x2
  replace hYs := Lib.hid hYs
  go_enter Try.func52, Try.ntmps52
  go_upto_region 1 with (fail)
  rw [← hY]
  clear hY
  go_upto_region 2 with (at_builtin; go_must (refine wpList_app (.tmp 8) (.tmp 10) E_cust rfl rfl rfl rfl Y.heap.size 0 h.customers.length [] (flatC custCells h.customers) (made_row Y _ 5) HSR.out (by omega) (by decide) (by simp) ?_; intro v2 w3 ho2 hg2 _; (have hb3 := app_fresh hg2); (simp only [Nat.zero_add, List.nil_append] at ho2); (obtain ⟨g, cap, rfl⟩ := ownsRow_pos (by omega) ho2); have h30 := (hb3.block _ xz).trans hX0; have x2 := blk_cell 2 h30 rfl; have f2 := blk_free 2 h30; have xz3 := lt_of_block h30; clear hg2; simp only [Act.put, List.setIfInBounds_toArray, List.set_cons_succ, List.set_cons_zero]))
  have hgY := (ho2.lt g rfl).1
  have eY := hYs.out
  have h31 := (hb3.block _ (lt_of_block hX1)).trans hX1
  obtain ⟨Z, hZ⟩ : ∃ Z : World, Z = w3.setCell ⟨w.heap.size, 2, none⟩ (.slice (some ⟨g, 0, none⟩) h.customers.length cap) := ⟨_, rfl⟩
  rw [← hZ]
  have hZ0 : Z.heap[w.heap.size]? = some (.cells #[.int .i64 h.wax, .slice aw h.writers.length kw, .slice (some ⟨g, 0, none⟩) h.customers.length cap] 25 (0, 0)) := by rw [hZ]; exact blk_set 2 _ h30
  have hZ1 : Z.heap[w.heap.size + 1]? = some (.cells #[.int .i64 0, .slice none 0 0, .slice none 0 0] 25 (0, 0)) := by rw [hZ]; exact (Below.heap_setCell _ _ _ _ (by simp)).trans h31
  have hoZ : Z.ownsRow Y.heap.size 55 5 (.slice (some ⟨g, 0, none⟩) h.customers.length cap) h.customers.length (flatC custCells h.customers) := by rw [hZ]; exact ownsRow_setCell_other ho2 (fun e => by have := Option.some.inj e; simp only at this; omega) _
  have hbZ : Below w.heap.size w Z := by rw [hZ]; exact (hbY.trans (hb3.mono hbY.size)).setCell (Nat.le_refl _) _
  clear hZ x2 f2 xz xz3 h30 h31 ho2 hX0 hX1 HSR hYs
  have hgl := (hoZ.lt g rfl).2
  have hci : (c : Int) < cap := by
    rcases hoZ.2 with ⟨h9, _⟩ | ⟨g', cap', cur, h9, _, _, h4, _⟩
    · cases h9
    · cases h9; omega
  have hci2 : (c : Int) < h.customers.length := by omega
  have hG := fun (r : Nat) (hr : r < 5) => flatC_get custCells_len h.customers c hc r hr
  have hx : custCells h.customers[c] = custCells h.customers[c] := rfl
  obtain ⟨x, hxe⟩ : ∃ x, x = h.customers[c] := ⟨_, rfl⟩
  rw [← hxe] at hG
  have HXE := Lib.hid hxe
  clear hxe hx
  obtain ⟨xn, xk, xlo, xhi, xs⟩ := x
  have g0 := hG 0 (by omega)
  have g1 := hG 1 (by omega)
  have g2 := hG 2 (by omega)
  have g3 := hG 3 (by omega)
  have g4 := hG 4 (by omega)
  simp only [custCells, List.getElem?_cons_zero, List.getElem?_cons_succ] at g0 g1 g2 g3 g4
  have G4 := Lib.hid (⟨g0, g1, g2, g3⟩ : _ ∧ _ ∧ _ ∧ _)
  have hcl : ∀ (V : World) (r : Nat) (u : Value), V.ownsRow Y.heap.size 55 5 (.slice (some ⟨g, 0, none⟩) h.customers.length cap) h.customers.length (flatC custCells h.customers) → (flatC custCells h.customers)[c * 5 + r]? = some u → V.cell? ⟨g, c * 5 + r, none⟩ = some u := fun V r u ho hu => by
    have := ho.cells (g := g) rfl (c * 5 + r) u hu
    simpa [Addr.add_lit] using this
  have HCLL := Lib.hid hcl
  clear hcl hG
  have d0 := HCLL.out Z 0 _ hoZ g0
  have d1 := HCLL.out Z 1 _ hoZ g1
  have d2 := HCLL.out Z 2 _ hoZ g2
  have d3 := HCLL.out Z 3 _ hoZ g3
  have d4 := HCLL.out Z 4 _ hoZ g4
  rw [Nat.add_zero] at d0
  have x2 := blk_cell 2 hZ0 rfl
  have xz := lt_of_block hZ0
  simp only [List.getElem_toArray, List.getElem_cons_zero, List.getElem_cons_succ] at x2
  go_upto_region 4 with (fail)
  obtain ⟨X, hX⟩ : ∃ X : World, X = Z.alloc (.cells #[.string xn, .int .i64 xk, .int .i64 xlo, .int .i64 xhi, .int .i64 m] 55) := ⟨_, rfl⟩
  rw [← hX]
  have hXb : Below Z.heap.size Z X := by rw [hX]; exact (Below.refl _ _).alloc (Nat.le_refl _) _
  have hXc : X.heap[Z.heap.size]? = some (.cells #[.string xn, .int .i64 xk, .int .i64 xlo, .int .i64 xhi, .int .i64 m] 55 (0, 0)) := by rw [hX]; exact alloc_at Z _ rfl
  clear hX d0 d1 d2 d3 d4 x2 xz
  have hX0 := (hXb.block _ (lt_of_block hZ0)).trans hZ0
  have hX1 := (hXb.block _ (lt_of_block hZ1)).trans hZ1
  have hoX := own_below hoZ hXb
  have hbX : Below w.heap.size w X := hbZ.trans (hXb.mono hbZ.size)
  clear hZ0 hZ1 hoZ hbZ hXb
  have d0 := HCLL.out X 0 _ hoX g0
  have d1 := HCLL.out X 1 _ hoX g1
  have d2 := HCLL.out X 2 _ hoX g2
  have d3 := HCLL.out X 3 _ hoX g3
  have d4 := HCLL.out X 4 _ hoX g4
  have e0 := hoX.frozenAt (c * 5)
  have e1 := hoX.frozenAt (c * 5 + 1)
  have e2 := hoX.frozenAt (c * 5 + 2)
  have e3 := hoX.frozenAt (c * 5 + 3)
  have e4 := hoX.frozenAt (c * 5 + 4)
  have dz := lt_of_cell d0
  rw [Nat.add_zero] at d0
  have t0 := blk_cell 0 hXc rfl
  have t1 := blk_cell 1 hXc rfl
  have t2 := blk_cell 2 hXc rfl
  have t3 := blk_cell 3 hXc rfl
  have t4 := blk_cell 4 hXc rfl
  have tz := lt_of_block hXc
  have x2 := blk_cell 2 hX0 rfl
  have xz := lt_of_block hX0
  simp only [List.getElem_toArray, List.getElem_cons_zero, List.getElem_cons_succ] at x2 t0 t1 t2 t3 t4
  go_upto_region 5 with (fail)
  obtain ⟨U, hU⟩ : ∃ U : World, U = ((((X.setCell ⟨g, c * 5, none⟩ (.string xn)).setCell ⟨g, c * 5 + 1, none⟩ (.int .i64 xk)).setCell ⟨g, c * 5 + 2, none⟩ (.int .i64 xlo)).setCell ⟨g, c * 5 + 3, none⟩ (.int .i64 xhi)).setCell ⟨g, c * 5 + 4, none⟩ (.int .i64 m) := ⟨_, rfl⟩
  rw [← hU]
  have hgw : w.heap.size ≠ g := by omega
  have hgw1 : w.heap.size + 1 ≠ g := by omega
  have hUo : ∀ b, b ≠ g → U.heap[b]? = X.heap[b]? := fun b hb => by
    rw [hU]
    exact (Below.heap_setCell _ _ _ _ hb).trans ((Below.heap_setCell _ _ _ _ hb).trans ((Below.heap_setCell _ _ _ _ hb).trans ((Below.heap_setCell _ _ _ _ hb).trans (Below.heap_setCell _ _ _ _ hb))))
  have hU0 := (hUo _ hgw).trans hX0
  have hU1 := (hUo _ hgw1).trans hX1
  have hwg : w.heap.size ≤ g := by omega
  have hbU : Below w.heap.size w U := by rw [hU]; exact ((((hbX.setCell hwg _).setCell hwg _).setCell hwg _).setCell hwg _).setCell hwg _
  have hoU : U.ownsRow Y.heap.size 55 5 (.slice (some ⟨g, 0, none⟩) h.customers.length cap) h.customers.length (flatC custCells (h.customers.modify c fun x => { x with ship := m })) := by
    have k1 := (hoX.stored (c * 5) (.string xn)).1
    rw [set_self (by simpa using g0)] at k1
    have k2 := (k1.stored (c * 5 + 1) (.int .i64 xk)).1
    rw [set_self g1] at k2
    have k3 := (k2.stored (c * 5 + 2) (.int .i64 xlo)).1
    rw [set_self g2] at k3
    have k4 := (k3.stored (c * 5 + 3) (.int .i64 xhi)).1
    rw [set_self g3] at k4
    have k5 := (k4.stored (c * 5 + 4) (.int .i64 m)).1
    rw [custs_ship _ c hc] at k5
    rw [hU]
    exact k5
  clear hU hUo d0 d1 d2 d3 d4 e0 e1 e2 e3 e4 dz t0 t1 t2 t3 t4 tz x2 xz hX0 hX1 hoX hbX g0 g1 g2 g3 g4 G4 HCLL HXE
  have x0 := blk_cell 0 hU0 rfl
  have x1 := blk_cell 1 hU0 rfl
  have x2 := blk_cell 2 hU0 rfl
  have y0 := blk_cell 0 hU1 rfl
  have y1 := blk_cell 1 hU1 rfl
  have y2 := blk_cell 2 hU1 rfl
  simp only [List.getElem_toArray, List.getElem_cons_zero, List.getElem_cons_succ] at x0 x1 x2 y0 y1 y2
  have g0 := blk_free 0 hU1
  have g1 := blk_free 1 hU1
  have g2 := blk_free 2 hU1
  have z0 := lt_of_block hU0
  have z1 := lt_of_block hU1
  have HFIN := Lib.hid (fun (V : World) (hbF : Below w.heap.size w V) (ho : V.ownsRow Y.heap.size 55 5 (.slice (some ⟨g, 0, none⟩) h.customers.length cap) h.customers.length (flatC custCells (h.customers.modify c fun x => { x with ship := m }))) => show HallC V aw (some ⟨g, 0, none⟩) kw cap (shippedD h c m) by
    have hM := hm.mono hbF
    obtain ⟨-, b6, d6, e6, hs6, hh6⟩ := custs_own ho
    obtain ⟨rfl, -, rfl⟩ := Value.slice.inj e6
    exact ⟨hM.okw, hs6, hM.writers, hh6, hM.wsize, fun x hx => by
      obtain ⟨y, hy, e⟩ := modify_names h.customers c m x hx
      rw [e]
      exact hM.csize _ hy⟩)
  have hne1 : (Value.slice (some ⟨g, 0, none⟩) h.customers.length cap).ownBlock ≠ some (w.heap.size + 1) := fun e => by have := Option.some.inj e; simp only at this; omega
  go_wp2
  (try simp only [Exit.inBlock, Exit.then])
  refine bodyPost_ret (v := .agg #[.int .i64 h.wax, .slice aw h.writers.length kw, .slice (some ⟨g, 0, none⟩) h.customers.length cap]) ?_ rfl ⟨some ⟨g, 0, none⟩, cap, rfl, HFIN.out _ ?_ ?_, ?_⟩
  · rw [results_cell1 rfl]
    go_simp
  · exact ((hbU.setCell (by simp) _).setCell (by simp) _).setCell (by simp) _
  · exact ownsRow_setCell_other (ownsRow_setCell_other (ownsRow_setCell_other hoU (a := ⟨w.heap.size + 1, 0, none⟩) hne1 _) (a := ⟨w.heap.size + 1, 1, none⟩) hne1 _) (a := ⟨w.heap.size + 1, 2, none⟩) hne1 _
  · exact ((hbU.setCell (by simp) _).setCell (by simp) _).setCell (by simp) _
end Go.Proofs.Ytchnpekgmkhacaa
namespace Go.Proofs.Ytchnpekgmkhacaa
open Go Go.RowKit Go.Shelf

def onlyTo (h : DeH) (l : List Int) (j : Nat) : List DeW := (l.take j).map fun i => writerAt h i.toNat
theorem onlyTo_succ (h : DeH) (l : List Int) (j : Nat) (hj : j < l.length) : onlyTo h l (j + 1) = onlyTo h l j ++ [writerAt h l[j].toNat] := by
  unfold onlyTo
  rw [List.take_succ_eq_append_getElem hj, List.map_append]
  rfl
theorem onlyTo_len (h : DeH) (l : List Int) (j : Nat) : (onlyTo h l j).length ≤ l.length := by
  unfold onlyTo
  rw [List.length_map, List.length_take]
  omega
theorem onlyTo_all (h : DeH) (l : List Int) : onlyTo h l l.length = (onlyD h l).writers := by
  unfold onlyTo onlyD
  rw [List.take_length]
theorem only_mem {h : DeH} {l : List Int} (hl : ∀ x ∈ l, 0 ≤ x ∧ x < (h.writers.length : Int)) {x : DeW} (hx : x ∈ (onlyD h l).writers) : x ∈ h.writers := by
  unfold onlyD at hx
  obtain ⟨i, hi, rfl⟩ := List.mem_map.1 hx
  have := hl i hi
  have hn : i.toNat < h.writers.length := by omega
  unfold writerAt
  rw [List.getElem?_eq_getElem hn, Option.getD_some]
  exact List.getElem_mem hn
set_option maxRecDepth 100000 in
set_option maxHeartbeats 4000000 in
theorem DROnly_any (aw ac : Option Addr) (kw kc : Nat) (h : DeH) (ab : Option Addr) (l : List Int) (cb : Nat) (w : World) (hm : HallC w aw ac kw kc h) (hn : h.writers.length ≤ 3) (hll : l.length ≤ 100) (hl : ∀ x ∈ l, 0 ≤ x ∧ x < (h.writers.length : Int)) (hsb : SlOk ab l.length cb) (hib : IntsC w ab l) :
    Calls Try.prog 51 #[(.agg #[.int .i64 h.wax, .slice aw h.writers.length kw, .slice ac h.customers.length kc]), .slice ab l.length cb] w fun e w' => ∃ b5 d5, e = .returned (.agg #[.int .i64 h.wax, .slice b5 (onlyD h l).writers.length d5, .slice ac h.customers.length kc]) ∧ HallC w' b5 ac d5 kc (onlyD h l) ∧ Below w.heap.size w w' := by
  have l5 := hm.okw.len
  have l5c := hm.okw.1
  have hs1 := hsb.1
  obtain ⟨Y, hY⟩ : ∃ Y : World, Y = (w.alloc (.cells #[.int .i64 h.wax, .slice aw h.writers.length kw, .slice ac h.customers.length kc] 25)).alloc (.cells #[.int .i64 0, .slice none 0 0, .slice none 0 0] 25) := ⟨_, rfl⟩
  have hYs : Y.heap.size = w.heap.size + 2 := by rw [hY]; simp
  have hB0 : Below (w.heap.size + 1) (w.alloc (.cells #[.int .i64 h.wax, .slice aw h.writers.length kw, .slice ac h.customers.length kc] 25)) Y := by rw [hY]; exact (Below.refl _ _).alloc (by simp) _
  have hX0 : Y.heap[w.heap.size]? = some (.cells #[.int .i64 h.wax, .slice aw h.writers.length kw, .slice ac h.customers.length kc] 25 (0, 0)) := by rw [hY]; exact (heap_alloc_old _ _ (by simp)).trans (alloc_at _ _ rfl)
  have hX1 : Y.heap[w.heap.size + 1]? = some (.cells #[.int .i64 0, .slice none 0 0, .slice none 0 0] 25 (0, 0)) := by rw [hY]; exact alloc_at _ _ (by simp)
  have hbY := box_old hB0
  go_enter Try.func51, Try.ntmps51
  go_upto_region 1 with (fail)
  rw [← hY]
  clear hY
  go_wp2
  go_loopw [5, 6] (fun o i wr => ∃ j : Nat, j ≤ l.length ∧ i = .int .i64 j ∧ wr.ownsRow Y.heap.size 72 4 o (onlyTo h l j).length (flatC writCells (onlyTo h l j)) ∧ Below Y.heap.size Y wr) (fun _ i _ => l.length - (intOf i).toNat)
  case atStart => exact ⟨0, Nat.zero_le _, rfl, World.ownsRow_nil _ _ _ _, Below.refl _ _⟩
  case round =>
    obtain ⟨j, hj, rfl, hown, hbw⟩ := hrel
    have hR := (hbw.block _ (lt_of_block hX0)).trans hX0
    have hz := hbw.size
    have z0 : w.heap.size < wr.heap.size := by omega
    have hbO := hbY.trans (hbw.mono hbY.size)
    by_cases hlt : j < l.length
    · obtain ⟨bl, ol, el, hbl, hcl⟩ := hib j hlt
      have hst := Lib.hid (onlyTo_succ h l j hlt)
      have hbl2 := onlyTo_len h l j
      have hx := hl l[j] (List.getElem_mem hlt)
      generalize l[j] = x at hst hx hcl
      obtain ⟨xi, rfl⟩ := Int.eq_ofNat_of_zero_le hx.1
      have hxn : xi < h.writers.length := by omega
      simp only [Int.toNat_natCast] at hst
      have ew : writerAt h xi = h.writers[xi] := by unfold writerAt; rw [List.getElem?_eq_getElem hxn]; rfl
      rw [ew] at hst
      obtain ⟨b, off, ha5, hb, h0, h1, h2, h3⟩ := hm.writers xi hxn
      generalize h.writers[xi] = y at h0 h1 h2 h3 hst
      generalize onlyTo h l j = L at hown hst hbl2
      obtain ⟨yn, yk, ylo, yhi⟩ := y
      simp only at h0 h1 h2 h3
      have hjn : (j : Int) < l.length := by omega
      have hjc : (j : Int) < cb := by omega
      have hxi : (xi : Int) < h.writers.length := by omega
      have KE : Hid (∀ V, Below Y.heap.size Y V → (Below Y.heap.size Y V ∧ V.cell? ⟨w.heap.size, 1, none⟩ = some (.slice aw h.writers.length kw) ∧ w.heap.size < V.heap.size ∧ V.cell? ⟨bl, ol + j, none⟩ = some (.int .i64 (xi : Int)) ∧ bl < V.heap.size ∧ V.cell? ⟨b, off + xi * 4, none⟩ = some (.string yn) ∧ V.cell? ⟨b, off + xi * 4 + 1, none⟩ = some (.int .i64 yk) ∧ V.cell? ⟨b, off + xi * 4 + 2, none⟩ = some (.int .i64 ylo) ∧ V.cell? ⟨b, off + xi * 4 + 3, none⟩ = some (.int .i64 yhi) ∧ b < V.heap.size)) := Lib.hid (fun V hq => by
        have hw := hbY.trans (hq.mono hbY.size)
        exact ⟨hq, blk_cell 1 ((hq.block _ (lt_of_block hX0)).trans hX0) rfl, lt_of_block ((hq.block _ (lt_of_block hX0)).trans hX0), cell_below hw hcl, Nat.lt_of_lt_of_le hbl hw.size, cell_below hw h0, cell_below hw h1, cell_below hw h2, cell_below hw h3, Nat.lt_of_lt_of_le hb hw.size⟩)
      have HOW := Lib.hid hown
      have HMM := Lib.hid hm
      have HIB := Lib.hid hib
      clear h0 h1 h2 h3 hcl hR hown hm hib
      subst el
      rw [ha5] at KE ⊢
      clear ha5
      go_upto_region 5 with (fail)
      have hg0 : Below wr.heap.size wr wr.drew := below_drew' (Below.refl _ _)
      refine wp_region_held_drew (S := (fun V => Below Y.heap.size Y V ∧ V.cell? ⟨w.heap.size, 1, none⟩ = some (.slice (some ⟨b, off, none⟩) h.writers.length kw) ∧ w.heap.size < V.heap.size ∧ V.cell? ⟨bl, ol + j, none⟩ = some (.int .i64 (xi : Int)) ∧ bl < V.heap.size ∧ V.cell? ⟨b, off + xi * 4, none⟩ = some (.string yn) ∧ V.cell? ⟨b, off + xi * 4 + 1, none⟩ = some (.int .i64 yk) ∧ V.cell? ⟨b, off + xi * 4 + 2, none⟩ = some (.int .i64 ylo) ∧ V.cell? ⟨b, off + xi * 4 + 3, none⟩ = some (.int .i64 yhi) ∧ b < V.heap.size)) (by kernel_rfl) (KE.out _ (hbw.trans (hg0.mono hz))) (fun hHeld => ?_)
      (refine wpAnyH_take (i := 0) (v := ?_) rfl (by kernel_rfl) (by kernel_rfl) (by kernel_rfl) (fun _ _ _ h => h) (Or.inl ⟨by kernel_rfl, ?_⟩) (by assumption) ?_; rotate_left 1; (focus (intro w hSw; (try dsimp only at hSw); go_simp; first | done | with_reducible rfl)); simp only [Act.put, List.getElem_toArray, List.getElem_cons_succ, List.getElem_cons_zero, List.setIfInBounds_toArray, List.set_cons_succ, List.set_cons_zero])
      (refine wpAnyH_take (i := 1) (v := ?_) rfl (by kernel_rfl) (by kernel_rfl) (by kernel_rfl) (fun _ _ _ h => h) (Or.inl ⟨by kernel_rfl, ?_⟩) (by assumption) ?_; rotate_left 1; (focus (intro w hSw; (try dsimp only at hSw); go_simp; first | done | with_reducible rfl)); simp only [Act.put, List.getElem_toArray, List.getElem_cons_succ, List.getElem_cons_zero, List.setIfInBounds_toArray, List.set_cons_succ, List.set_cons_zero])
      (refine wpAnyH_take (i := 2) (v := ?_) rfl (by kernel_rfl) (by kernel_rfl) (by kernel_rfl) (fun _ _ _ h => h) (Or.inl ⟨by kernel_rfl, ?_⟩) (by assumption) ?_; rotate_left 1; (focus (intro w hSw; (try dsimp only at hSw); go_simp; first | done | with_reducible rfl)); simp only [Act.put, List.getElem_toArray, List.getElem_cons_succ, List.getElem_cons_zero, List.setIfInBounds_toArray, List.set_cons_succ, List.set_cons_zero])
      (refine wpAnyH_take (i := 3) (v := ?_) rfl (by kernel_rfl) (by kernel_rfl) (by kernel_rfl) (fun _ _ _ h => h) (Or.inl ⟨by kernel_rfl, ?_⟩) (by assumption) ?_; rotate_left 1; (focus (intro w hSw; (try dsimp only at hSw); go_simp; first | done | with_reducible rfl)); simp only [Act.put, List.getElem_toArray, List.getElem_cons_succ, List.getElem_cons_zero, List.setIfInBounds_toArray, List.set_cons_succ, List.set_cons_zero])
      (refine wpAnyH_take (i := 4) (v := ?_) rfl (by kernel_rfl) (by kernel_rfl) (by kernel_rfl) (fun _ _ _ h => h) (Or.inl ⟨by kernel_rfl, ?_⟩) (by assumption) ?_; rotate_left 1; (focus (intro w hSw; (try dsimp only at hSw); go_simp; first | done | with_reducible rfl)); simp only [Act.put, List.getElem_toArray, List.getElem_cons_succ, List.getElem_cons_zero, List.setIfInBounds_toArray, List.set_cons_succ, List.set_cons_zero])
      (refine wpAnyH_take (i := 5) (v := ?_) rfl (by kernel_rfl) (by kernel_rfl) (by kernel_rfl) (fun _ _ _ h => h) (Or.inl ⟨by kernel_rfl, ?_⟩) (by assumption) ?_; rotate_left 1; (focus (intro w hSw; (try dsimp only at hSw); go_simp; first | done | with_reducible rfl)); simp only [Act.put, List.getElem_toArray, List.getElem_cons_succ, List.getElem_cons_zero, List.setIfInBounds_toArray, List.set_cons_succ, List.set_cons_zero])
      (refine wpAnyH_take (i := 6) (v := ?_) rfl (by kernel_rfl) (by kernel_rfl) (by kernel_rfl) (fun _ _ _ h => h) (Or.inl ⟨by kernel_rfl, ?_⟩) (by assumption) ?_; rotate_left 1; (focus (intro w hSw; (try dsimp only at hSw); go_simp; first | done | with_reducible rfl)); simp only [Act.put, List.getElem_toArray, List.getElem_cons_succ, List.getElem_cons_zero, List.setIfInBounds_toArray, List.set_cons_succ, List.set_cons_zero])
      (refine wpAnyH_take (i := 7) (v := ?_) rfl (by kernel_rfl) (by kernel_rfl) (by kernel_rfl) (fun _ _ _ h => h) (Or.inl ⟨by kernel_rfl, ?_⟩) (by assumption) ?_; rotate_left 1; (focus (intro w hSw; (try dsimp only at hSw); go_simp; first | done | with_reducible rfl)); simp only [Act.put, List.getElem_toArray, List.getElem_cons_succ, List.getElem_cons_zero, List.setIfInBounds_toArray, List.set_cons_succ, List.set_cons_zero])
      (refine wpAnyH_take (i := 8) (v := ?_) rfl (by kernel_rfl) (by kernel_rfl) (by kernel_rfl) (fun _ _ _ h => h) (Or.inl ⟨by kernel_rfl, ?_⟩) (by assumption) ?_; rotate_left 1; (focus (intro w hSw; (try dsimp only at hSw); go_simp; first | done | with_reducible rfl)); simp only [Act.put, List.getElem_toArray, List.getElem_cons_succ, List.getElem_cons_zero, List.setIfInBounds_toArray, List.set_cons_succ, List.set_cons_zero])
      (refine wpAnyH_ready (rs := [9]) (by kernel_rfl) (by simp) ?_; refine AllReadyH.cons rfl (fun K hK => ?_) AllReadyH.nil; go_simp)
      have hg1 : Below wr.heap.size wr (wr.alloc (.cells #[.string yn, .int .i64 yk, .int .i64 ylo, .int .i64 yhi] 72)).drew := below_drew' ((Below.refl _ _).alloc (Nat.le_refl _) _)
      refine hK.out _ _ (KE.out _ (hbw.trans (hg1.mono hz))) (fun hHeld => ?_)
      (try simp only [Act.put, List.getElem_toArray, List.getElem_cons_succ, List.getElem_cons_zero, List.setIfInBounds_toArray, List.set_cons_succ, List.set_cons_zero])
      clear hK
      refine wpAnyH_ready (rs := [10]) (by kernel_rfl) (by simp) ?_
      refine AllReadyH.cons rfl (fun K hK => ?_) AllReadyH.nil
      have hoD : (wr.alloc (.cells #[.string yn, .int .i64 yk, .int .i64 ylo, .int .i64 yhi] 72)).drew.ownsRow Y.heap.size 72 4 u5 L.length (flatC writCells L) := own_below HOW.out hg1
      refine step_app (.tmp 13) (.tmp 22) E_writ (by rfl) (by rfl) (by rfl) (by rfl) Y.heap.size L.length 1 (flatC writCells L) (writCells ⟨yn, yk, ylo, yhi⟩) hoD ((SrcAt.box wr (writCells_one ⟨yn, yk, ylo, yhi⟩) 72).below (below_drew' (Below.refl _ _))) (by omega) (by decide) (by have := hg1.size; omega) ?_
      intro v2 w7 ho2 hg7 _
      have hb7 : Below Y.heap.size Y w7 := (hbw.trans (hg1.mono hz)).grown hg7 (by have := hg1.size; omega) (fun k e => (hoD.lt k e).1)
      refine hK.out _ _ (KE.out _ hb7) (fun hHeld => ?_)
      (try simp only [Act.put, List.getElem_toArray, List.getElem_cons_succ, List.getElem_cons_zero, List.setIfInBounds_toArray, List.set_cons_succ, List.set_cons_zero])
      clear hK
      (refine wpAnyH_take (i := 11) (v := ?_) rfl (by kernel_rfl) (by kernel_rfl) (by kernel_rfl) (fun _ _ _ h => h) (Or.inl ⟨by kernel_rfl, ?_⟩) (by assumption) ?_; rotate_left 1; (focus (intro w hSw; (try dsimp only at hSw); go_simp; first | done | with_reducible rfl)); simp only [Act.put, List.getElem_toArray, List.getElem_cons_succ, List.getElem_cons_zero, List.setIfInBounds_toArray, List.set_cons_succ, List.set_cons_zero])
      refine wpAnyH_done (by kernel_rfl) ?_ _
      go_wp2
      go_roundw
      case rel => exact ⟨j + 1, by omega, by go_num, by rw [hst.out]; simpa [flatC_snoc] using ho2, hb7⟩
      case measure => simp [intOf]; omega
    · obtain rfl : j = l.length := by omega
      rw [onlyTo_all] at hown
      have hR1 := (hbw.block _ (lt_of_block hX1)).trans hX1
      have x0 := blk_cell 0 hR rfl
      have x1 := blk_cell 1 hR rfl
      have x2 := blk_cell 2 hR rfl
      have y0 := blk_cell 0 hR1 rfl
      have y1 := blk_cell 1 hR1 rfl
      have y2 := blk_cell 2 hR1 rfl
      simp only [List.getElem_toArray, List.getElem_cons_zero, List.getElem_cons_succ] at x0 x1 x2 y0 y1 y2
      have f1 := blk_free 1 hR
      have g0 := blk_free 0 hR1
      have g1 := blk_free 1 hR1
      have g2 := blk_free 2 hR1
      have z1 := lt_of_block hR1
      obtain ⟨-, b5, d5, rfl, -, -⟩ := writs_own hown
      have hne0 : (Value.slice b5 (onlyD h l).writers.length d5).ownBlock ≠ some w.heap.size := fun e => by have := (hown.lt _ e).1; omega
      have hne1 : (Value.slice b5 (onlyD h l).writers.length d5).ownBlock ≠ some (w.heap.size + 1) := fun e => by have := (hown.lt _ e).1; omega
      have HFIN := Lib.hid (fun (V : World) (hbF : Below w.heap.size w V) (ho : V.ownsRow Y.heap.size 72 4 (.slice b5 (onlyD h l).writers.length d5) (onlyD h l).writers.length (flatC writCells (onlyD h l).writers)) => show HallC V b5 ac d5 kc (onlyD h l) by
        have hM := hm.mono hbF
        obtain ⟨-, b6, d6, e6, hs6, hh6⟩ := writs_own ho
        cases e6
        exact ⟨hs6, hM.okc, hh6, hM.custs, fun x hx => hM.wsize x (only_mem hl hx), hM.csize⟩)
      have HOW := Lib.hid hown
      go_wp2
      (try simp only [Exit.inBlock, Exit.then])
      refine bodyPost_ret (v := .agg #[.int .i64 h.wax, .slice b5 (onlyD h l).writers.length d5, .slice ac h.customers.length kc]) ?_ rfl ⟨b5, d5, rfl, HFIN.out _ ?_ ?_, ?_⟩
      · rw [results_cell1 rfl]
        go_simp
      · exact (((hbO.setCell (by simp) _).setCell (by simp) _).setCell (by simp) _).setCell (by simp) _
      · exact ownsRow_setCell_other (ownsRow_setCell_other (ownsRow_setCell_other (ownsRow_setCell_other hown (a := ⟨w.heap.size, 1, none⟩) hne0 _) (a := ⟨w.heap.size + 1, 0, none⟩) hne1 _) (a := ⟨w.heap.size + 1, 1, none⟩) hne1 _) (a := ⟨w.heap.size + 1, 2, none⟩) hne1 _
      · exact (((hbO.setCell (by simp) _).setCell (by simp) _).setCell (by simp) _).setCell (by simp) _
end Go.Proofs.Ytchnpekgmkhacaa
namespace Go.Proofs.Ytchnpekgmkhacaa
open Go Go.RowKit Go.Shelf

theorem but_ok {h : DeH} (hv : DeValid h) (l : List Int) : DeValid (butD h l) := by
  have hl : (butD h l).customers.length ≤ h.customers.length := butTo_len h l h.customers.length
  refine ⟨hv.nw, Nat.le_trans hl hv.nc, hv.wax, hv.w, fun i hi => ?_⟩
  have hmem : (butD h l).customers[i] ∈ h.customers := butTo_mem (show _ ∈ butTo h l h.customers.length from List.getElem_mem hi)
  obtain ⟨k, hk, e⟩ := List.getElem_of_mem hmem
  rw [← e]
  exact hv.c k hk
theorem only_ok {h : DeH} (hv : DeValid h) (l : List Int) (hl : l.length ≤ 3) (hb : ∀ x ∈ l, 0 ≤ x ∧ x < (h.writers.length : Int)) : DeValid (onlyD h l) := by
  refine ⟨by unfold onlyD; simpa using hl, hv.nc, hv.wax, fun i hi => ?_, hv.c⟩
  have hmem : (onlyD h l).writers[i] ∈ h.writers := only_mem hb (List.getElem_mem hi)
  obtain ⟨k, hk, e⟩ := List.getElem_of_mem hmem
  rw [← e]
  exact hv.w k hk
theorem heldH {w u V : World} {b o : Nat} {v v1 v2 v3 : Value} (h : Below u.heap.size u V) (x0 : u.cell? ⟨w.heap.size, 0, none⟩ = some v1) (x1 : u.cell? ⟨w.heap.size, 1, none⟩ = some v2) (x2 : u.cell? ⟨w.heap.size, 2, none⟩ = some v3) (y : u.cell? ⟨b, o, none⟩ = some v) :
    Below u.heap.size u V ∧ V.cell? ⟨w.heap.size, 0, none⟩ = some v1 ∧ V.cell? ⟨w.heap.size, 1, none⟩ = some v2 ∧ V.cell? ⟨w.heap.size, 2, none⟩ = some v3 ∧ V.cell? ⟨b, o, none⟩ = some v ∧ w.heap.size < V.heap.size ∧ b < V.heap.size :=
  ⟨h, cell_below h x0, cell_below h x1, cell_below h x2, cell_below h y, lt_of_cell (cell_below h x0), lt_of_cell (cell_below h y)⟩
theorem held_nextH {wr W W' : World} {p : Prop} (h : Below wr.heap.size wr W ∧ p) (hb : Below W.heap.size W W') : Below wr.heap.size wr W' := h.1.trans (hb.mono h.1.size)
theorem headD_at {α : Type} {d : α} (l : List α) (h : 0 < l.length) : l.headD d = l[0] := by cases l <;> first | rfl | (simp at h)
theorem choices_def (n k : Nat) : choices (n : Int) (k : Int) = choicesTo n k := rfl
set_option maxRecDepth 100000 in
set_option maxHeartbeats 4000000 in
theorem DRAway_any (aw ac : Option Addr) (kw kc : Nat) (h : DeH) (w : World) (hm : HallC w aw ac kw kc h) :
    Calls Try.prog 33 #[(.agg #[.int .i64 h.wax, .slice aw h.writers.length kw, .slice ac h.customers.length kc])] w fun e w' => ∃ v, e = .returned (.tuple #[v, .int .i64 (deAway h).2]) ∧ IntsV w' v (deAway h).1 ∧ Below w.heap.size w w' := by
  obtain ⟨so, hso⟩ : ∃ so : List Int → Bool, so = fun l => someD (butD h l) := ⟨_, rfl⟩
  have HF : Hid (deAway h = if deErr h = 0 then ((searchFrom so h.customers.length 0 h.customers.length).getD ((choicesTo h.customers.length h.customers.length).headD []), 0) else ([], deErr h)) := Lib.hid (by rw [hso]; rfl)
  have HSO := Lib.hid hso
  clear hso
  have HV : Hid (deErr h = 0 → DeValid h) := Lib.hid deValid_of
  have hB0 := Below.refl (w.heap.size + 1) (w.alloc (.cells #[.int .i64 h.wax, .slice aw h.writers.length kw, .slice ac h.customers.length kc] 25))
  have HCL := Lib.hid (fun (V : World) (hq : Below (w.heap.size + 1) (w.alloc (.cells #[.int .i64 h.wax, .slice aw h.writers.length kw, .slice ac h.customers.length kc] 25)) V) => box_hall hq)
  have HBN := Lib.hid (fun (V V' : World) (hq : Below (w.heap.size + 1) (w.alloc (.cells #[.int .i64 h.wax, .slice aw h.writers.length kw, .slice ac h.customers.length kc] 25)) V) (hq2 : Below V.heap.size V V') => hq.trans (hq2.mono (by have := hq.size; simp at this; omega)))
  obtain ⟨x0, x1, x2, z0⟩ := box_hall hB0
  have C := DRCheck_any aw ac kw kc h (w.alloc (.cells #[.int .i64 h.wax, .slice aw h.writers.length kw, .slice ac h.customers.length kc] 25)) (hm.mono (box_old hB0))
  have e0 : (deCheck h).2.2 = deErr h := rfl
  rw [e0] at C
  generalize (deCheck h).1 = p1 at C
  generalize (deCheck h).2.1 = p2 at C
  generalize deAway h = res at HF ⊢
  generalize deErr h = we at HF HV C
  clear e0
  replace C := Lib.hid C
  by_cases h0 : we = 0
  · have hva := HV.out h0
    have h1 := nei_f h0
    replace HF := Lib.hid (HF.out.trans (if_pos h0))
    subst h0
    have hn := hva.nc
    have hc5 := hm.okc.len
    clear HV
    go_enter Try.func33, Try.ntmps33
    go_wp2_with (go_at_call 17; go_must ((with_reducible refine C.out.mono ?_); rintro e w2 ⟨rfl, hb⟩; have hB2 := HBN.out _ _ hB0 hb; dsimp only))
    clear x0 x1 x2 z0
    have R1 := Lib.hid (fun (W : World) (ab : Option Addr) (but : List Int) (cb : Nat) (hq : Below w2.heap.size w2 W) hsb hib => DRBut_any aw ac kw kc h ab but cb W (hm.mono ((box_old hB2).trans (hq.mono (box_old hB2).size))) hn hsb hib)
    have S1 := Lib.hid (fun (but : List Int) (b5 : Option Addr) (d5 : Nat) (W : World) (hq : HallC W aw b5 kw d5 (butD h but)) => show Calls Try.prog 48 #[.agg #[.int .i64 h.wax, .slice aw h.writers.length kw, .slice b5 (butD h but).customers.length d5]] W (fun e w' => e = .returned (.bool (someD (butD h but))) ∧ Below W.heap.size W w') from DRSome_any aw b5 kw d5 (butD h but) W hq (but_ok hva but))
    generalize hR : searchFrom so h.customers.length 0 h.customers.length = R at HF
    have HR0 := Lib.hid hR.symm
    clear hR
    go_loopw [7] (fun i wr => ∃ k : Nat, k ≤ h.customers.length ∧ i = .int .i64 k ∧ Hid (R = searchFrom so h.customers.length k (h.customers.length - k)) ∧ Below w2.heap.size w2 wr) (fun i _ => h.customers.length - (intOf i).toNat)
    case atStart => exact ⟨0, Nat.zero_le _, rfl, HR0, Below.refl _ _⟩
    case round =>
      obtain ⟨k, hk, rfl, HR, hbw⟩ := hrel
      have hB := HBN.out _ _ hB2 hbw
      obtain ⟨x0, x1, x2, z0⟩ := HCL.out _ hB
      by_cases hlt : k < h.customers.length
      · have Ch := Choices_any h.customers.length k wr (by omega) (by omega) (by omega) (by omega)
        rw [choices_def] at Ch
        replace Ch := Lib.hid Ch
        have HS1 := Lib.hid (fun (hh : (choicesTo h.customers.length k).find? so = none) => (HR.out.trans (by rw [show h.customers.length - k = (h.customers.length - (k + 1)) + 1 from by omega]; exact search_none hh) : R = searchFrom so h.customers.length (k + 1) (h.customers.length - (k + 1))))
        have HS2 := Lib.hid (fun (l : List Int) (hh : (choicesTo h.customers.length k).find? so = some l) => (HR.out.trans (by rw [show h.customers.length - k = (h.customers.length - (k + 1)) + 1 from by omega]; exact search_some hh) : R = some l))
        clear HR HR0
        generalize choicesTo (h.customers.length : Int) k = L at Ch HS1 HS2
        go_wp2_with (go_at_call 82; go_must ((with_reducible refine Ch.out.mono ?_); rintro e w4 ⟨v, rfl, ⟨al, cl, rfl, hsl, hrl⟩, hb4⟩; have hbw4 := hbw.trans (hb4.mono hbw.size); have hB4 := HBN.out _ _ hB2 hbw4; have hll := hsl.len; dsimp only))
        have hls := hsl.1
        clear x0 x1 x2 z0
        go_loopw [9] (fun i wr => ∃ j : Nat, j ≤ L.length ∧ i = .int .i64 j ∧ Hid (∀ x (_ : x < j) (h : x < L.length), so L[x] = false) ∧ Below w4.heap.size w4 wr) (fun i _ => L.length - (intOf i).toNat)
        case atStart => exact ⟨0, Nat.zero_le _, rfl, Lib.hid (fun j h => absurd h (Nat.not_lt_zero j)), Below.refl _ _⟩
        case round =>
          obtain ⟨wb, hwb⟩ : ∃ wb : World, wb = wr := ⟨_, rfl⟩
          subst hwb
          obtain ⟨j, hj, rfl, HP, hbw5⟩ := hrel
          have hB5 := HBN.out _ _ hB4 hbw5
          have hbw35 := hbw4.trans (hbw5.mono hbw4.size)
          obtain ⟨x0, x1, x2, z0⟩ := HCL.out _ hB5
          by_cases hjl : j < L.length
          · obtain ⟨b, off, a', c', rfl, hb0, hcell, hsi, hints⟩ := hrl j hjl
            have HN := Lib.hid (fun (hh : so L[j] = false) => none_succ HP.out hjl hh)
            have HH := Lib.hid (fun (hh : so L[j] = true) => HS2.out _ (find_hit hjl HP.out hh))
            have hcw := cell_below hbw5 hcell
            have hii := hints.mono hbw5
            have hjc : (j : Int) < cl := by omega
            generalize L[j] = l at hcell hcw hsi hints hii HN HH
            have R2 := Lib.hid (fun (W : World) (hq : Below wb.heap.size wb W) => R1.out W a' l c' (hbw35.trans (hq.mono hbw35.size)) hsi (hii.mono hq))
            have S2 := fun b5 d5 W hq => S1.out l b5 d5 W hq
            have hsoe : so l = someD (butD h l) := by rw [HSO.out]
            rw [hsoe] at HN HH
            clear hsoe
            generalize someD (butD h l) = T at S2 HN HH
            replace S2 := Lib.hid S2
            have hBd := below_drew' (Below.refl wb.heap.size wb)
            go_upto_region 11 with (fail)
            go_region_held3 (fun V => Below wb.heap.size wb V ∧ V.cell? ⟨w.heap.size, 0, none⟩ = some (.int .i64 h.wax) ∧ V.cell? ⟨w.heap.size, 1, none⟩ = some (.slice aw h.writers.length kw) ∧ V.cell? ⟨w.heap.size, 2, none⟩ = some (.slice ac h.customers.length kc) ∧ V.cell? ⟨b, off + j, none⟩ = some (.slice a' l.length c') ∧ w.heap.size < V.heap.size ∧ b < V.heap.size) (exact heldH (by assumption) x0 x1 x2 hcw) (first
              | (go_at_call 48; have hh := hC6; (with_reducible refine (S2.out b5 d5 _ hC6).mono ?_); rintro e w7 ⟨rfl, hb7⟩; have hB7 := hB6.trans (hb7.mono hB6.size); dsimp only)
              | (go_at_call 49; (with_reducible refine (R2.out _ (And.left (by assumption))).mono ?_); rintro e w6 ⟨b5, d5, rfl, hC6, hb6⟩; have hB6 := held_nextH (by assumption) hb6; dsimp only))
            have hB9 := HBN.out _ _ hB5 hB7
            have hcx := cell_below hB7 hcw
            have hbx := lt_of_cell hcx
            clear x0 x1 x2 z0 hB6 hC6
            cases T
            · go_wp2
              go_roundw
              case rel => exact ⟨j + 1, by omega, by go_num, Lib.hid (HN.out (by trivial)), hbw5.trans (hB7.mono hbw5.size)⟩
              case measure => simp [intOf]; omega
            · go_wp2
              go_ret2
              have hr := HF.out
              rw [HH.out (by trivial)] at hr
              subst hr
              exact ⟨_, rfl, ⟨_, _, rfl, hsi, hii.mono hB7⟩, box_old hB9⟩
          · obtain rfl : j = L.length := by omega
            go_wp2
            go_roundw
            case rel => exact ⟨k + 1, by omega, by go_num, Lib.hid (HS1.out (find_none (fun i h => HP.out i h h))), hbw35⟩
            case measure => simp [intOf]; omega
      · obtain rfl : k = h.customers.length := by omega
        have Ch := Choices_any h.customers.length h.customers.length wr (by omega) (by omega) (by omega) (by omega)
        have hcpos := choices_all h.customers.length (by omega)
        rw [choices_def] at Ch
        replace Ch := Lib.hid Ch
        generalize choicesTo (h.customers.length : Int) h.customers.length = L at Ch HF hcpos
        rw [headD_at (d := []) _ hcpos] at HF
        go_wp2_with (go_at_call 82; go_must ((with_reducible refine Ch.out.mono ?_); rintro e w4 ⟨v, rfl, ⟨al, cl, rfl, hsl, hrl⟩, hb4⟩; have hbw4 := hbw.trans (hb4.mono hbw.size); have hB4 := HBN.out _ _ hB2 hbw4; obtain ⟨b, off, a', c', rfl, hb6, hcell, hsi, hints⟩ := hrl 0 hcpos; simp only [Nat.add_zero] at hcell; have hl5 := hsl.len; dsimp only))
        go_ret2
        have hr := HF.out
        have hr2 := HR.out
        simp only [Nat.sub_self, searchFrom] at hr2
        rw [hr2] at hr
        subst hr
        exact ⟨_, rfl, ⟨_, _, rfl, hsi, hints⟩, box_old hB4⟩
  · have h1 := nei_t h0
    replace HF := Lib.hid (HF.out.trans (if_neg h0))
    go_enter Try.func33, Try.ntmps33
    go_wp2_with (go_at_call 17; go_must ((with_reducible refine C.out.mono ?_); rintro e w2 ⟨rfl, hb⟩; have hB2 := HBN.out _ _ hB0 hb; dsimp only))
    go_ret2
    have hr := HF.out
    subst hr
    exact ⟨_, rfl, ⟨none, 0, rfl, ⟨Nat.le_refl _, by omega, fun _ => rfl⟩, IntsC.nil _ _⟩, box_old hB2⟩
end Go.Proofs.Ytchnpekgmkhacaa
namespace Go.Proofs.Ytchnpekgmkhacaa
open Go Go.RowKit Go.Shelf

set_option maxRecDepth 100000 in
set_option maxHeartbeats 4000000 in
theorem DREnough_any (aw ac : Option Addr) (kw kc : Nat) (h : DeH) (w : World) (hm : HallC w aw ac kw kc h) :
    Calls Try.prog 30 #[(.agg #[.int .i64 h.wax, .slice aw h.writers.length kw, .slice ac h.customers.length kc])] w fun e w' => ∃ v, e = .returned (.tuple #[v, .int .i64 (deEnough h).2]) ∧ IntsV w' v (deEnough h).1 ∧ Below w.heap.size w w' := by
  obtain ⟨so, hso⟩ : ∃ so : List Int → Bool, so = fun l => someD (onlyD h l) := ⟨_, rfl⟩
  have HF : Hid (deEnough h = if deErr h = 0 then (match searchFrom so h.writers.length 0 (h.writers.length + 1) with | some l => (l, 0) | none => ([], 9)) else ([], deErr h)) := Lib.hid (by rw [hso]; rfl)
  have HSO := Lib.hid hso
  clear hso
  have HV : Hid (deErr h = 0 → DeValid h) := Lib.hid deValid_of
  have hB0 := Below.refl (w.heap.size + 1) (w.alloc (.cells #[.int .i64 h.wax, .slice aw h.writers.length kw, .slice ac h.customers.length kc] 25))
  have HCL := Lib.hid (fun (V : World) (hq : Below (w.heap.size + 1) (w.alloc (.cells #[.int .i64 h.wax, .slice aw h.writers.length kw, .slice ac h.customers.length kc] 25)) V) => box_hall hq)
  have HBN := Lib.hid (fun (V V' : World) (hq : Below (w.heap.size + 1) (w.alloc (.cells #[.int .i64 h.wax, .slice aw h.writers.length kw, .slice ac h.customers.length kc] 25)) V) (hq2 : Below V.heap.size V V') => hq.trans (hq2.mono (by have := hq.size; simp at this; omega)))
  obtain ⟨x0, x1, x2, z0⟩ := box_hall hB0
  have C := DRCheck_any aw ac kw kc h (w.alloc (.cells #[.int .i64 h.wax, .slice aw h.writers.length kw, .slice ac h.customers.length kc] 25)) (hm.mono (box_old hB0))
  have e0 : (deCheck h).2.2 = deErr h := rfl
  rw [e0] at C
  generalize (deCheck h).1 = p1 at C
  generalize (deCheck h).2.1 = p2 at C
  generalize deEnough h = res at HF ⊢
  generalize deErr h = we at HF HV C
  clear e0
  replace C := Lib.hid C
  by_cases h0 : we = 0
  · have hva := HV.out h0
    have h1 := nei_f h0
    replace HF := Lib.hid (HF.out.trans (if_pos h0))
    subst h0
    have hn := hva.nw
    have hc5 := hm.okw.len
    clear HV
    go_enter Try.func30, Try.ntmps30
    go_wp2_with (go_at_call 17; go_must ((with_reducible refine C.out.mono ?_); rintro e w2 ⟨rfl, hb⟩; have hB2 := HBN.out _ _ hB0 hb; dsimp only))
    clear x0 x1 x2 z0
    have R1 := Lib.hid (fun (W : World) (ab : Option Addr) (l : List Int) (cb : Nat) (hq : Below w2.heap.size w2 W) hll hl hsb hib => DROnly_any aw ac kw kc h ab l cb W (hm.mono ((box_old hB2).trans (hq.mono (box_old hB2).size))) hn hll hl hsb hib)
    have S1 := Lib.hid (fun (l : List Int) (b5 : Option Addr) (d5 : Nat) (W : World) (hl3 : l.length ≤ 3) (hl : ∀ x ∈ l, 0 ≤ x ∧ x < (h.writers.length : Int)) (hq : HallC W b5 ac d5 kc (onlyD h l)) => show Calls Try.prog 48 #[.agg #[.int .i64 h.wax, .slice b5 (onlyD h l).writers.length d5, .slice ac h.customers.length kc]] W (fun e w' => e = .returned (.bool (someD (onlyD h l))) ∧ Below W.heap.size W w') from DRSome_any b5 ac d5 kc (onlyD h l) W hq (only_ok hva l hl3 hl))
    generalize hR : searchFrom so h.writers.length 0 (h.writers.length + 1) = R at HF
    have HR0 := Lib.hid hR.symm
    clear hR
    go_loopw [7] (fun i wr => ∃ k : Nat, k ≤ h.writers.length + 1 ∧ i = .int .i64 k ∧ Hid (R = searchFrom so h.writers.length k (h.writers.length + 1 - k)) ∧ Below w2.heap.size w2 wr) (fun i _ => h.writers.length + 1 - (intOf i).toNat)
    case atStart => exact ⟨0, Nat.zero_le _, rfl, HR0, Below.refl _ _⟩
    case round =>
      obtain ⟨k, hk, rfl, HR, hbw⟩ := hrel
      have hB := HBN.out _ _ hB2 hbw
      obtain ⟨x0, x1, x2, z0⟩ := HCL.out _ hB
      by_cases hlt : k < h.writers.length + 1
      · have hkl : (k : Int) ≤ h.writers.length := by omega
        have HLB := Lib.hid (fun (t : List Int) (ht : t ∈ choicesTo (h.writers.length : Int) k) => (⟨choicesTo_len _ _ t ht, choicesTo_bd _ _ t ht⟩ : t.length = k ∧ ∀ x ∈ t, 0 ≤ x ∧ x < (h.writers.length : Int)))
        have Ch := Choices_any h.writers.length k wr (by omega) (by omega) (by omega) (by omega)
        rw [choices_def] at Ch
        replace Ch := Lib.hid Ch
        have HS1 := Lib.hid (fun (hh : (choicesTo h.writers.length k).find? so = none) => (HR.out.trans (by rw [show h.writers.length + 1 - k = (h.writers.length + 1 - (k + 1)) + 1 from by omega]; exact search_none hh) : R = searchFrom so h.writers.length (k + 1) (h.writers.length + 1 - (k + 1))))
        have HS2 := Lib.hid (fun (l : List Int) (hh : (choicesTo h.writers.length k).find? so = some l) => (HR.out.trans (by rw [show h.writers.length + 1 - k = (h.writers.length + 1 - (k + 1)) + 1 from by omega]; exact search_some hh) : R = some l))
        clear HR HR0
        generalize choicesTo (h.writers.length : Int) k = L at Ch HS1 HS2 HLB
        go_wp2_with (go_at_call 82; go_must ((with_reducible refine Ch.out.mono ?_); rintro e w4 ⟨v, rfl, ⟨al, cl, rfl, hsl, hrl⟩, hb4⟩; have hbw4 := hbw.trans (hb4.mono hbw.size); have hB4 := HBN.out _ _ hB2 hbw4; have hll := hsl.len; dsimp only))
        have hls := hsl.1
        clear x0 x1 x2 z0
        go_loopw [9] (fun i wr => ∃ j : Nat, j ≤ L.length ∧ i = .int .i64 j ∧ Hid (∀ x (_ : x < j) (h : x < L.length), so L[x] = false) ∧ Below w4.heap.size w4 wr) (fun i _ => L.length - (intOf i).toNat)
        case atStart => exact ⟨0, Nat.zero_le _, rfl, Lib.hid (fun j h => absurd h (Nat.not_lt_zero j)), Below.refl _ _⟩
        case round =>
          obtain ⟨wb, hwb⟩ : ∃ wb : World, wb = wr := ⟨_, rfl⟩
          subst hwb
          obtain ⟨j, hj, rfl, HP, hbw5⟩ := hrel
          have hB5 := HBN.out _ _ hB4 hbw5
          have hbw35 := hbw4.trans (hbw5.mono hbw4.size)
          obtain ⟨x0, x1, x2, z0⟩ := HCL.out _ hB5
          by_cases hjl : j < L.length
          · obtain ⟨b, off, a', c', rfl, hb0, hcell, hsi, hints⟩ := hrl j hjl
            have HN := Lib.hid (fun (hh : so L[j] = false) => none_succ HP.out hjl hh)
            have HH := Lib.hid (fun (hh : so L[j] = true) => HS2.out _ (find_hit hjl HP.out hh))
            have hcw := cell_below hbw5 hcell
            have hii := hints.mono hbw5
            have hjc : (j : Int) < cl := by omega
            have hlb := HLB.out L[j] (List.getElem_mem hjl)
            generalize L[j] = l at hlb hcell hcw hsi hints hii HN HH
            have R2 := Lib.hid (fun (W : World) (hq : Below wb.heap.size wb W) => R1.out W a' l c' (hbw35.trans (hq.mono hbw35.size)) (by rw [hlb.1]; omega) hlb.2 hsi (hii.mono hq))
            have S2 := fun b5 d5 W hq => S1.out l b5 d5 W (by rw [hlb.1]; omega) hlb.2 hq
            have hsoe : so l = someD (onlyD h l) := by rw [HSO.out]
            rw [hsoe] at HN HH
            clear hsoe
            generalize someD (onlyD h l) = T at S2 HN HH
            replace S2 := Lib.hid S2
            have HLL := Lib.hid hlb
            clear hlb
            have hBd := below_drew' (Below.refl wb.heap.size wb)
            go_upto_region 11 with (fail)
            go_region_held3 (fun V => Below wb.heap.size wb V ∧ V.cell? ⟨w.heap.size, 0, none⟩ = some (.int .i64 h.wax) ∧ V.cell? ⟨w.heap.size, 1, none⟩ = some (.slice aw h.writers.length kw) ∧ V.cell? ⟨w.heap.size, 2, none⟩ = some (.slice ac h.customers.length kc) ∧ V.cell? ⟨b, off + j, none⟩ = some (.slice a' l.length c') ∧ w.heap.size < V.heap.size ∧ b < V.heap.size) (exact heldH (by assumption) x0 x1 x2 hcw) (first
              | (go_at_call 48; have hh := hC6; (with_reducible refine (S2.out b5 d5 _ hC6).mono ?_); rintro e w7 ⟨rfl, hb7⟩; have hB7 := hB6.trans (hb7.mono hB6.size); dsimp only)
              | (go_at_call 51; (with_reducible refine (R2.out _ (And.left (by assumption))).mono ?_); rintro e w6 ⟨b5, d5, rfl, hC6, hb6⟩; have hB6 := held_nextH (by assumption) hb6; dsimp only))
            have hB9 := HBN.out _ _ hB5 hB7
            have hcx := cell_below hB7 hcw
            have hbx := lt_of_cell hcx
            clear x0 x1 x2 z0 hB6 hC6
            cases T
            · go_wp2
              go_roundw
              case rel => exact ⟨j + 1, by omega, by go_num, Lib.hid (HN.out (by trivial)), hbw5.trans (hB7.mono hbw5.size)⟩
              case measure => simp [intOf]; omega
            · go_wp2
              go_ret2
              have hr := HF.out
              rw [HH.out (by trivial)] at hr
              subst hr
              exact ⟨_, rfl, ⟨_, _, rfl, hsi, hii.mono hB7⟩, box_old hB9⟩
          · obtain rfl : j = L.length := by omega
            go_wp2
            go_roundw
            case rel => exact ⟨k + 1, by omega, by go_num, Lib.hid (HS1.out (find_none (fun i h => HP.out i h h))), hbw35⟩
            case measure => simp [intOf]; omega
      · obtain rfl : k = h.writers.length + 1 := by omega
        have hkl : ¬ ((h.writers.length + 1 : Nat) : Int) ≤ h.writers.length := by omega
        have hr2 := HR.out
        simp only [Nat.sub_self, searchFrom] at hr2
        have hr := HF.out
        rw [hr2] at hr
        clear HF HR HR0 hr2
        subst hr
        go_wp2
        go_ret2
        exact ⟨.slice none 0 0, rfl, ⟨none, 0, rfl, ⟨by simp, by omega, fun _ => rfl⟩, IntsC.nil _ _⟩, box_old hB⟩
  · have h1 := nei_t h0
    replace HF := Lib.hid (HF.out.trans (if_neg h0))
    go_enter Try.func30, Try.ntmps30
    go_wp2_with (go_at_call 17; go_must ((with_reducible refine C.out.mono ?_); rintro e w2 ⟨rfl, hb⟩; have hB2 := HBN.out _ _ hB0 hb; dsimp only))
    go_ret2
    have hr := HF.out
    subst hr
    exact ⟨_, rfl, ⟨none, 0, rfl, ⟨Nat.le_refl _, by omega, fun _ => rfl⟩, IntsC.nil _ _⟩, box_old hB2⟩
end Go.Proofs.Ytchnpekgmkhacaa
