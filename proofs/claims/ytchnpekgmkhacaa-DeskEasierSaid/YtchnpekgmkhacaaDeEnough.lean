/- What is proved here: the contracts of Enough and of Away. Conditions: the hall lies in memory. -/
import Derived.Test.YtchnpekgmkhacaaDeSomeW
set_option linter.unusedVariables false
set_option linter.unusedSimpArgs false
namespace Go.Proofs.Ytchnpekgmkhacaa
open Go Go.RowKit Go.Shelf

theorem away_bits : ∀ n : Nat, n ≤ 5 → ∀ s : Nat, s < 32 → bits BinOp.andNot IntKind.i64 ((2 ^ n - 1 : Nat) : Int) (s : Int) = ((awayM n s : Nat) : Int) := by decide +kernel
theorem two_pow_le5 {n : Nat} (h : n ≤ 5) : 2 ^ n ≤ 32 := Nat.pow_le_pow_right (n := 2) (by omega) h
theorem two_pow_le3 {n : Nat} (h : n ≤ 3) : 2 ^ n ≤ 8 := Nat.pow_le_pow_right (n := 2) (by omega) h
theorem DEnoughQ_any (aw ac : Option Addr) (kw kc : Nat) (h : DeH) (bm bo q s : Nat) (w : World) (hm : HallW w bm bo aw ac kw kc h (fullW h) (fullC h)) (hv : DeValid h) (hs : s < 2 ^ h.writers.length) (hq : w.cell? ⟨q, 0, none⟩ = some (.pointer (some ⟨bm, 0, none⟩))) :
    Calls Try.prog 80 #[.int .i64 (s : Int), .pointer (some ⟨q, 0, none⟩)] w fun e w' => e = .returned (.bool (decide (0 ≤ overB h s (fullC h)))) ∧ Below w.heap.size w w' := by
  have h3 := two_pow_le3 hv.nw
  have h5 := two_pow_le5 hv.nc
  have hpc := pow_pred h.customers.length
  have SM := Lib.hid (fun (W : World) (hb : Below w.heap.size w W) => DSome_any aw ac kw kc h bm bo _ _ s (fullC h) W (hm.below hb) hv (by omega) (by show 2 ^ _ - 1 < 32; omega) hpc)
  have KE : Hid (∀ V, Below w.heap.size w V → (Below w.heap.size w V ∧ V.cell? ⟨bm, 4, none⟩ = some (.int .i64 (fullC h : Nat)) ∧ V.cell? ⟨q, 0, none⟩ = some (.pointer (some ⟨bm, 0, none⟩)) ∧ bm < V.heap.size ∧ q < V.heap.size)) := Lib.hid (fun V hb => by
    obtain ⟨y0, y1, y2, y3, y4, y5, y6⟩ := (hm.below hb).blk.cells
    exact ⟨hb, y4, cell_below hb hq, y6, lt_of_cell (cell_below hb hq)⟩)
  clear hm hq
  generalize fullC h = cm at *
  go_enter Try.func80, Try.ntmps80
  go_upto_region 1 with (fail)
  have hg0 : Below w.heap.size w w.drew := below_drew' (Below.refl _ _)
  have hs0 := hg0.size
  go_region_held3 (fun V => Below w.heap.size w V ∧ V.cell? ⟨bm, 4, none⟩ = some (.int .i64 (cm : Int)) ∧ V.cell? ⟨q, 0, none⟩ = some (.pointer (some ⟨bm, 0, none⟩)) ∧ bm < V.heap.size ∧ q < V.heap.size) (first | exact KE.out _ hg0 | exact KE.out _ hg1) (first
    | (go_at_call 81; refine (SM.out _ hg0).mono ?_; rintro e w2 ⟨rfl, hgs⟩; have hg1 := hg0.trans (hgs.mono hs0); dsimp only))
  go_wp2
  go_ret
  exact ⟨rfl, hg1⟩
theorem DAwayQ_any (aw ac : Option Addr) (kw kc : Nat) (h : DeH) (bm bo q s : Nat) (w : World) (hm : HallW w bm bo aw ac kw kc h (fullW h) (fullC h)) (hv : DeValid h) (hs : s < 2 ^ h.customers.length) (hq : w.cell? ⟨q, 0, none⟩ = some (.pointer (some ⟨bm, 0, none⟩))) :
    Calls Try.prog 84 #[.int .i64 (s : Int), .pointer (some ⟨q, 0, none⟩)] w fun e w' => e = .returned (.bool (decide (0 ≤ overB h (fullW h) (awayM h.customers.length s)))) ∧ Below w.heap.size w w' := by
  have h3 := two_pow_le3 hv.nw
  have h5 := two_pow_le5 hv.nc
  have hpw := pow_pred h.writers.length
  have hal := awayM_lt h.customers.length s
  have hbt := away_bits h.customers.length hv.nc s (by omega)
  have SM := Lib.hid (fun (W : World) (hb : Below w.heap.size w W) => DSome_any aw ac kw kc h bm bo _ _ (fullW h) (awayM h.customers.length s) W (hm.below hb) hv (by show 2 ^ _ - 1 < 8; omega) (by omega) hal)
  have KE : Hid (∀ V, Below w.heap.size w V → (Below w.heap.size w V ∧ V.cell? ⟨bm, 3, none⟩ = some (.int .i64 (fullW h : Nat)) ∧ V.cell? ⟨bm, 4, none⟩ = some (.int .i64 ((2 ^ h.customers.length - 1 : Nat) : Int)) ∧ V.cell? ⟨q, 0, none⟩ = some (.pointer (some ⟨bm, 0, none⟩)) ∧ bm < V.heap.size ∧ q < V.heap.size)) := Lib.hid (fun V hb => by
    obtain ⟨y0, y1, y2, y3, y4, y5, y6⟩ := (hm.below hb).blk.cells
    exact ⟨hb, y3, y4, cell_below hb hq, y6, lt_of_cell (cell_below hb hq)⟩)
  clear hm hq hal
  generalize awayM h.customers.length s = am at *
  generalize 2 ^ h.customers.length - 1 = cm at *
  generalize fullW h = wm at *
  go_enter Try.func84, Try.ntmps84
  go_upto_region 1 with (fail)
  have hg0 : Below w.heap.size w w.drew := below_drew' (Below.refl _ _)
  have hs0 := hg0.size
  go_region_held3 (fun V => Below w.heap.size w V ∧ V.cell? ⟨bm, 3, none⟩ = some (.int .i64 (wm : Int)) ∧ V.cell? ⟨bm, 4, none⟩ = some (.int .i64 (cm : Int)) ∧ V.cell? ⟨q, 0, none⟩ = some (.pointer (some ⟨bm, 0, none⟩)) ∧ bm < V.heap.size ∧ q < V.heap.size) (first | exact KE.out _ hg0 | exact KE.out _ hg1) (first
    | (go_at_call 81; refine (SM.out _ hg0).mono ?_; rintro e w2 ⟨rfl, hgs⟩; have hg1 := hg0.trans (hgs.mono hs0); dsimp only))
  go_wp2
  go_ret
  exact ⟨rfl, hg1⟩
set_option maxRecDepth 100000 in
set_option maxHeartbeats 2000000 in
theorem DEnough_any (aw ac : Option Addr) (kw kc : Nat) (h : DeH) (w : World) (hm : HallC w aw ac kw kc h) :
    Calls Try.prog 29 #[(.agg #[.int .i64 h.wax, .slice aw h.writers.length kw, .slice ac h.customers.length kc])] w fun e w' => ∃ v, e = .returned (.tuple #[v, .int .i64 (deEnough h).2]) ∧ IntsV w' v (deEnough h).1 ∧ Below w.heap.size w w' := by
  have hQ := Below.refl (w.heap.size + 1) (w.alloc (.cells #[.int .i64 h.wax, .slice aw h.writers.length kw, .slice ac h.customers.length kc] 25))
  have hbX := box_old hQ
  have CK := DCheck_any aw ac kw kc h (w.alloc (.cells #[.int .i64 h.wax, .slice aw h.writers.length kw, .slice ac h.customers.length kc] 25)) (hm.mono hbX)
  have HV := Lib.hid (fun h : deErr h = 0 => deValid_of h)
  have HNO := Lib.hid (fun (e : deErr h ≠ 0) => show deEnough h = ([], deErr h) by unfold deEnough; rw [if_neg e])
  have HYES := Lib.hid (fun (he : deErr h = 0) (best : List Int) (found : Bool) hf => enough_found (h := h) he (best := best) (found := found) hf)
  have e0 : (deCheck h).2.2 = deErr h := rfl
  rw [e0] at CK
  generalize (deCheck h).1 = q1 at CK
  generalize (deCheck h).2.1 = q2 at CK
  generalize deErr h = er at CK HV HNO HYES
  clear e0
  generalize deEnough h = res at HNO HYES ⊢
  replace CK := Lib.hid CK
  have x0 := box_cell hQ 0 _ rfl
  have x1 := box_cell hQ 1 _ rfl
  have x2 := box_cell hQ 2 _ rfl
  have xz := box_size hQ
  by_cases her : er = 0
  · have hv := HV.out her
    replace HYES := Lib.hid (fun (best : List Int) (found : Bool) hf => HYES.out her best found hf)
    have g1 := nei_f her
    clear her HV HNO
    have hnw := hv.nw
    have hnc := hv.nc
    have LK := Lib.hid (fun (W : World) (hb : Below w.heap.size w W) => DLook_any aw ac kw kc h W (hm.mono hb) hv)
    go_enter Try.func29, Try.ntmps29
    go_upto_region 5 with (first
      | (go_at_call 73; go_must ((with_reducible refine (LK.out _ (box_old hQ2)).mono ?_); rintro e w3 ⟨bm, bo, rfl, hK, hb3, hbo, hbm⟩; dsimp only))
      | (go_at_call 16; go_must ((with_reducible refine CK.out.mono ?_); rintro e w2 ⟨rfl, hb2⟩; have hQ2 := hQ.trans (hb2.mono (by simp)); have x0 := box_cell hQ2 0 _ rfl; have x1 := box_cell hQ2 1 _ rfl; have x2 := box_cell hQ2 2 _ rfl; have xz := box_size hQ2; dsimp only)))
    obtain ⟨Y, hY⟩ : ∃ Y : World, Y = w3.alloc (.cells #[.pointer (some ⟨bm, 0, none⟩)] 94) := ⟨_, rfl⟩
    rw [← hY]
    have hz2 := (box_old hQ2).size
    have hb3Y : Below w2.heap.size w2 Y := by rw [hY]; exact hb3.alloc hb3.size _
    have hQY := box_on hQ2 hb3Y
    have hYq : Y.cell? ⟨w3.heap.size, 0, none⟩ = some (.pointer (some ⟨bm, 0, none⟩)) := by rw [hY]; exact blk_cell 0 (alloc_at _ _ rfl) rfl
    have hYK := hK.below (show Below w3.heap.size w3 Y by rw [hY]; exact (Below.refl _ _).alloc (Nat.le_refl _) _)
    have FW := MFewest_any h.writers.length 80 (by omega) #[.pointer (some ⟨w3.heap.size, 0, none⟩)] (fun s => decide (0 ≤ overB h s (fullC h))) Y (enters_of Try.func80 (by kernel_rfl) rfl)
      (fun s W hs hW => DEnoughQ_any aw ac kw kc h bm bo w3.heap.size s W (hYK.below hW) hv hs (cell_below hW hYq))
    replace FW := Lib.hid FW
    have x0 := box_cell hQY 0 _ rfl
    have x1 := box_cell hQY 1 _ rfl
    have x2 := box_cell hQY 2 _ rfl
    have xz := box_size hQY
    clear hY hYK hYq hK
    go_upto_region 6 with (go_at_call 79; go_must ((with_reducible refine FW.out.mono ?_); rintro e w4 ⟨v4, best, found, rfl, hI4, hF4, hb4⟩; dsimp only))
    have hbw := box_old (box_on hQY hb4)
    have hr := HYES.out best found hF4.out
    cases found
    · go_wp2
      go_ret2
      subst hr
      exact ⟨.slice none 0 0, rfl, ⟨none, 0, rfl, ⟨by simp, by omega, fun _ => rfl⟩, IntsC.nil _ _⟩, hbw⟩
    · go_wp2
      go_ret2
      subst hr
      exact ⟨v4, rfl, hI4, hbw⟩
  · replace HNO := HNO.out her
    have g1 := nei_t her
    clear her HV HYES
    go_enter Try.func29, Try.ntmps29
    go_wp2_with (go_at_call 16; go_must ((with_reducible refine CK.out.mono ?_); rintro e w2 ⟨rfl, hb2⟩; have hQ2 := hQ.trans (hb2.mono (by simp)); dsimp only))
    go_ret2
    subst HNO
    exact ⟨.slice none 0 0, rfl, ⟨none, 0, rfl, ⟨by simp, by omega, fun _ => rfl⟩, IntsC.nil _ _⟩, box_old hQ2⟩
set_option maxRecDepth 100000 in
set_option maxHeartbeats 2000000 in
theorem DAway_any (aw ac : Option Addr) (kw kc : Nat) (h : DeH) (w : World) (hm : HallC w aw ac kw kc h) :
    Calls Try.prog 32 #[(.agg #[.int .i64 h.wax, .slice aw h.writers.length kw, .slice ac h.customers.length kc])] w fun e w' => ∃ v, e = .returned (.tuple #[v, .int .i64 (deAway h).2]) ∧ IntsV w' v (deAway h).1 ∧ Below w.heap.size w w' := by
  have hQ := Below.refl (w.heap.size + 1) (w.alloc (.cells #[.int .i64 h.wax, .slice aw h.writers.length kw, .slice ac h.customers.length kc] 25))
  have hbX := box_old hQ
  have CK := DCheck_any aw ac kw kc h (w.alloc (.cells #[.int .i64 h.wax, .slice aw h.writers.length kw, .slice ac h.customers.length kc] 25)) (hm.mono hbX)
  have HV := Lib.hid (fun h : deErr h = 0 => deValid_of h)
  have HNO := Lib.hid (fun (e : deErr h ≠ 0) => show deAway h = ([], deErr h) by unfold deAway; rw [if_neg e])
  have HYES := Lib.hid (fun (he : deErr h = 0) (best : List Int) (found : Bool) hf => away_found (h := h) he (best := best) (found := found) hf)
  have e0 : (deCheck h).2.2 = deErr h := rfl
  rw [e0] at CK
  generalize (deCheck h).1 = q1 at CK
  generalize (deCheck h).2.1 = q2 at CK
  generalize deErr h = er at CK HV HNO HYES
  clear e0
  generalize deAway h = res at HNO HYES ⊢
  replace CK := Lib.hid CK
  have x0 := box_cell hQ 0 _ rfl
  have x1 := box_cell hQ 1 _ rfl
  have x2 := box_cell hQ 2 _ rfl
  have xz := box_size hQ
  by_cases her : er = 0
  · have hv := HV.out her
    replace HYES := Lib.hid (fun (best : List Int) (found : Bool) hf => HYES.out her best found hf)
    have g1 := nei_f her
    clear her HV HNO
    have hnw := hv.nw
    have hnc := hv.nc
    have LK := Lib.hid (fun (W : World) (hb : Below w.heap.size w W) => DLook_any aw ac kw kc h W (hm.mono hb) hv)
    go_enter Try.func32, Try.ntmps32
    go_upto_region 5 with (first
      | (go_at_call 73; go_must ((with_reducible refine (LK.out _ (box_old hQ2)).mono ?_); rintro e w3 ⟨bm, bo, rfl, hK, hb3, hbo, hbm⟩; dsimp only))
      | (go_at_call 16; go_must ((with_reducible refine CK.out.mono ?_); rintro e w2 ⟨rfl, hb2⟩; have hQ2 := hQ.trans (hb2.mono (by simp)); have x0 := box_cell hQ2 0 _ rfl; have x1 := box_cell hQ2 1 _ rfl; have x2 := box_cell hQ2 2 _ rfl; have xz := box_size hQ2; dsimp only)))
    obtain ⟨Y, hY⟩ : ∃ Y : World, Y = w3.alloc (.cells #[.pointer (some ⟨bm, 0, none⟩)] 94) := ⟨_, rfl⟩
    rw [← hY]
    have hz2 := (box_old hQ2).size
    have hb3Y : Below w2.heap.size w2 Y := by rw [hY]; exact hb3.alloc hb3.size _
    have hQY := box_on hQ2 hb3Y
    have hYq : Y.cell? ⟨w3.heap.size, 0, none⟩ = some (.pointer (some ⟨bm, 0, none⟩)) := by rw [hY]; exact blk_cell 0 (alloc_at _ _ rfl) rfl
    have hYK := hK.below (show Below w3.heap.size w3 Y by rw [hY]; exact (Below.refl _ _).alloc (Nat.le_refl _) _)
    have FW := MFewest_any h.customers.length 84 (by omega) #[.pointer (some ⟨w3.heap.size, 0, none⟩)] (fun s => decide (0 ≤ overB h (fullW h) (awayM h.customers.length s))) Y (enters_of Try.func84 (by kernel_rfl) rfl)
      (fun s W hs hW => DAwayQ_any aw ac kw kc h bm bo w3.heap.size s W (hYK.below hW) hv hs (cell_below hW hYq))
    replace FW := Lib.hid FW
    have x0 := box_cell hQY 0 _ rfl
    have x1 := box_cell hQY 1 _ rfl
    have x2 := box_cell hQY 2 _ rfl
    have xz := box_size hQY
    clear hY hYK hYq hK
    go_upto_region 6 with (go_at_call 79; go_must ((with_reducible refine FW.out.mono ?_); rintro e w4 ⟨v4, best, found, rfl, hI4, hF4, hb4⟩; dsimp only))
    have hbw := box_old (box_on hQY hb4)
    have hr := HYES.out best found hF4.out
    go_wp2
    go_ret2
    subst hr
    exact ⟨v4, rfl, hI4, hbw⟩
  · replace HNO := HNO.out her
    have g1 := nei_t her
    clear her HV HYES
    go_enter Try.func32, Try.ntmps32
    go_wp2_with (go_at_call 16; go_must ((with_reducible refine CK.out.mono ?_); rintro e w2 ⟨rfl, hb2⟩; have hQ2 := hQ.trans (hb2.mono (by simp)); dsimp only))
    go_ret2
    subst HNO
    exact ⟨.slice none 0 0, rfl, ⟨none, 0, rfl, ⟨by simp, by omega, fun _ => rfl⟩, IntsC.nil _ _⟩, box_old hQ2⟩
end Go.Proofs.Ytchnpekgmkhacaa
