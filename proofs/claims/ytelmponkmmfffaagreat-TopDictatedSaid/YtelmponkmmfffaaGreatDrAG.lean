/- What is proved here: the contract of the program's Check of layer 9. Conditions: the hall lies in memory. -/
/- What is proved here: the contract of the program's Check of layer 9. Conditions: the hall lies in memory. -/
/- What is proved here: contracts of the reference: Ends of layer 1; writer, customer of layer 9. No condition. -/
import Derived.Test.YtelmponkmmfffaaGreatDeFailG
import Derived.Shelf.RegionOpen
set_option linter.unusedVariables false
set_option linter.unusedSimpArgs false
namespace Go.Proofs.YtelmponkmmfffaaGreat
open Go Go.RowKit

theorem DBeyondTwo_any (x y lo hi : Int) (a : Nat) (w : World) (h : w.cell? ⟨a, 0, none⟩ = some (.int .i64 x)) (h2 : w.cell? ⟨a, 1, none⟩ = some (.int .i64 y)) :
    Calls Tryz.prog 89 #[.int .i64 lo, .int .i64 hi, .slice (some ⟨a, 0, none⟩) 2 2] w fun e w' => e = .returned (.bool (!(inB x lo hi && inB y lo hi))) ∧ Below w.heap.size w w' := by
  have := MBeyond_any (some ⟨a, 0, none⟩) [x, y] 2 lo hi w (by simp) (fun i hi => by
    have e : i = 0 ∨ i = 1 := (by simp at hi; omega)
    rcases e with rfl | rfl
    · exact ⟨a, 0, rfl, lt_of_cell h, by simpa using h⟩
    · exact ⟨a, 0, rfl, lt_of_cell h, by simpa using h2⟩)
  simpa [outB_eq, Bool.not_and] using this
theorem fresh_is (s : ByteArray) (l : List ByteArray) : fresh s l = if nameB s then (if hasS l s then 5 else 0) else 6 := rfl

set_option maxRecDepth 100000 in
set_option maxHeartbeats 2000000 in
theorem DChkW_any (aw ac : Option Addr) (kw kc : Nat) (h : DeH) (i B : Nat) (w : World) (hm : HallC w aw ac kw kc h) (hil : i < h.writers.length) (c1 : w.cell? ⟨B, 1, none⟩ = some (.slice aw h.writers.length kw)) :
    Calls Tryz.prog 101 #[.int .i64 (i : Int), .agg #[.string h.writers[i].name, .int .i64 h.writers[i].kinds, .int .i64 h.writers[i].lo, .int .i64 h.writers[i].hi], .pointer (some ⟨B, 0, none⟩)] w fun e w' => e = .returned (.int .i64 (deWErr h i)) ∧ Below w.heap.size w w' := by
  have l1 := hm.okw.len
  have l1c := hm.okw.1
  have HE : Hid (deWErr h i = if fresh h.writers[i].name ((h.writers.take i).map (·.name)) = 0 then deWErrOf h.writers[i] else fresh h.writers[i].name ((h.writers.take i).map (·.name))) := by show deWErr h i = _; unfold deWErr; rw [List.getElem?_eq_getElem hil]
  have hsz := hm.wsize _ (List.getElem_mem hil)
  obtain ⟨b, off, e0, hb, _⟩ := hm.writers i hil
  have hti : (h.writers.take i).length = i := by rw [List.length_take]; omega
  have K := Lib.hid (fun (W : World) (hw : Below w.heap.size w W) (p : Nat) (h0 : W.cell? ⟨p, 0, none⟩ = some (.string h.writers[i].name)) => (show Calls Tryz.prog 103 #[.slice (some ⟨b, off, none⟩) i kw, .func (.func 104) #[] #[.pointer (some ⟨p, 0, none⟩)]] W fun e w' => e = .returned (.bool (hasS ((h.writers.take i).map (·.name)) h.writers[i].name)) ∧ Below W.heap.size W w' from by
    have := DContainsW_any (some ⟨b, off, none⟩) (h.writers.take i) kw h.writers[i].name p W (by omega) (by rw [← e0]; exact ((hm.mono hw).writers.take i)) h0
    rw [hti] at this
    exact this))
  rw [e0] at c1
  generalize deWErr h i = er at HE ⊢
  generalize h.writers[i] = x at HE K hsz
  rw [fresh_is] at HE
  obtain ⟨name, kinds, lo, hi⟩ := x
  unfold deWErrOf endsE at HE
  simp only at HE K hsz ⊢
  have N := Lib.hid (fun (W : World) => EarName_any name W hsz)
  generalize hasS ((h.writers.take i).map (·.name)) name = bk at K HE
  generalize nameB name = bn at N HE
  have hB := lt_of_cell c1
  have hii : (i : Int) ≤ kw := by omega
  have hQ0 := Below.refl (w.heap.size + 1) (w.alloc (.cells #[.string name, .int .i64 kinds, .int .i64 lo, .int .i64 hi] 56))

  have B1 := fun (a : Nat) (W : World) hc => MBeyondOne_any kinds 0 15 a W hc
  have B2 := fun (a : Nat) (W : World) hc hd => DBeyondTwo_any lo hi 0 240 a W hc hd
  generalize inB kinds 0 15 = b1 at B1 HE
  generalize (inB lo 0 240 && inB hi 0 240) = b2 at B2 HE
  have B1 := Lib.hid B1
  have B2 := Lib.hid B2
  cases bn
  · go_enter Tryz.func101, Tryz.ntmps101
    go_wp2_with (go_at_call 102; go_must ((with_reducible refine (N.out _).mono ?_); rintro e w2 ⟨rfl, hb2⟩; have hQ2 := hQ0.trans (hb2.mono (by simp)); have y0 := box_cell hQ2 0 _ rfl; have y1 := box_cell hQ2 1 _ rfl; have y2 := box_cell hQ2 2 _ rfl; have y3 := box_cell hQ2 3 _ rfl; have yz := box_size hQ2; have c2 := cell_below (box_old hQ2) c1; have hB2 := lt_of_cell c2; dsimp only))
    go_ret
    exact ⟨ret_int (by rw [HE.out]; simp), box_old hQ2⟩
  cases bk
  rotate_left 1
  · go_enter Tryz.func101, Tryz.ntmps101
    go_wp2_with (first | (go_at_call 103; go_must ((with_reducible refine (K.out _ (box_old hQ2) _ y0).mono ?_); rintro e w3 ⟨rfl, hb3⟩; have hQ3 := hQ2.trans (hb3.mono (by have := hQ2.size; simp at this; omega)); have z0 := box_cell hQ3 0 _ rfl; have z1 := box_cell hQ3 1 _ rfl; have z2 := box_cell hQ3 2 _ rfl; have z3 := box_cell hQ3 3 _ rfl; have zz := box_size hQ3; dsimp only)) | (go_at_call 102; go_must ((with_reducible refine (N.out _).mono ?_); rintro e w2 ⟨rfl, hb2⟩; have hQ2 := hQ0.trans (hb2.mono (by simp)); have y0 := box_cell hQ2 0 _ rfl; have y1 := box_cell hQ2 1 _ rfl; have y2 := box_cell hQ2 2 _ rfl; have y3 := box_cell hQ2 3 _ rfl; have yz := box_size hQ2; have c2 := cell_below (box_old hQ2) c1; have hB2 := lt_of_cell c2; dsimp only)))
    go_ret
    exact ⟨ret_int (by rw [HE.out]; simp), box_old hQ3⟩
  cases b1
  · go_enter Tryz.func101, Tryz.ntmps101
    go_wp2_with (first | (go_at_call 89; have hprev := hb3; go_must ((with_reducible refine (B1.out _ _ ?_).mono ?_); (simp); rintro e w4 ⟨rfl, hb4⟩; have hQ4 := (hQ3.alloc (by have := hQ3.size; simp at this ⊢; omega) (.cells #[.int .i64 kinds] 3)).trans (hb4.mono (by have := hQ3.size; simp at this ⊢; omega)); have p0 := box_cell hQ4 0 _ rfl; have p1 := box_cell hQ4 1 _ rfl; have p2 := box_cell hQ4 2 _ rfl; have p3 := box_cell hQ4 3 _ rfl; have pz := box_size hQ4; dsimp only)) | (go_at_call 103; go_must ((with_reducible refine (K.out _ (box_old hQ2) _ y0).mono ?_); rintro e w3 ⟨rfl, hb3⟩; have hQ3 := hQ2.trans (hb3.mono (by have := hQ2.size; simp at this; omega)); have z0 := box_cell hQ3 0 _ rfl; have z1 := box_cell hQ3 1 _ rfl; have z2 := box_cell hQ3 2 _ rfl; have z3 := box_cell hQ3 3 _ rfl; have zz := box_size hQ3; dsimp only)) | (go_at_call 102; go_must ((with_reducible refine (N.out _).mono ?_); rintro e w2 ⟨rfl, hb2⟩; have hQ2 := hQ0.trans (hb2.mono (by simp)); have y0 := box_cell hQ2 0 _ rfl; have y1 := box_cell hQ2 1 _ rfl; have y2 := box_cell hQ2 2 _ rfl; have y3 := box_cell hQ2 3 _ rfl; have yz := box_size hQ2; have c2 := cell_below (box_old hQ2) c1; have hB2 := lt_of_cell c2; dsimp only)))
    go_ret
    exact ⟨ret_int (by rw [HE.out]; simp), box_old hQ4⟩
  cases b2
  · go_enter Tryz.func101, Tryz.ntmps101
    go_wp2_with (first | (go_at_call 89; have hprev := hb4; go_must ((with_reducible refine (B2.out _ _ ?_ ?_).mono ?_); (simp); (simp); rintro e w5 ⟨rfl, hb5⟩; have hQ5 := (hQ4.alloc (by have := hQ4.size; simp at this ⊢; omega) (.cells #[.int .i64 lo, .int .i64 hi] 3)).trans (hb5.mono (by have := hQ4.size; simp at this ⊢; omega)); have q0 := box_cell hQ5 0 _ rfl; have q1 := box_cell hQ5 1 _ rfl; have q2 := box_cell hQ5 2 _ rfl; have q3 := box_cell hQ5 3 _ rfl; have qz := box_size hQ5; dsimp only)) | (go_at_call 89; have hprev := hb3; go_must ((with_reducible refine (B1.out _ _ ?_).mono ?_); (simp); rintro e w4 ⟨rfl, hb4⟩; have hQ4 := (hQ3.alloc (by have := hQ3.size; simp at this ⊢; omega) (.cells #[.int .i64 kinds] 3)).trans (hb4.mono (by have := hQ3.size; simp at this ⊢; omega)); have p0 := box_cell hQ4 0 _ rfl; have p1 := box_cell hQ4 1 _ rfl; have p2 := box_cell hQ4 2 _ rfl; have p3 := box_cell hQ4 3 _ rfl; have pz := box_size hQ4; dsimp only)) | (go_at_call 103; go_must ((with_reducible refine (K.out _ (box_old hQ2) _ y0).mono ?_); rintro e w3 ⟨rfl, hb3⟩; have hQ3 := hQ2.trans (hb3.mono (by have := hQ2.size; simp at this; omega)); have z0 := box_cell hQ3 0 _ rfl; have z1 := box_cell hQ3 1 _ rfl; have z2 := box_cell hQ3 2 _ rfl; have z3 := box_cell hQ3 3 _ rfl; have zz := box_size hQ3; dsimp only)) | (go_at_call 102; go_must ((with_reducible refine (N.out _).mono ?_); rintro e w2 ⟨rfl, hb2⟩; have hQ2 := hQ0.trans (hb2.mono (by simp)); have y0 := box_cell hQ2 0 _ rfl; have y1 := box_cell hQ2 1 _ rfl; have y2 := box_cell hQ2 2 _ rfl; have y3 := box_cell hQ2 3 _ rfl; have yz := box_size hQ2; have c2 := cell_below (box_old hQ2) c1; have hB2 := lt_of_cell c2; dsimp only)))
    go_ret
    exact ⟨ret_int (by rw [HE.out]; simp), box_old hQ5⟩
  by_cases hlt : hi < lo
  all_goals
    go_enter Tryz.func101, Tryz.ntmps101
    go_wp2_with (first | (go_at_call 89; have hprev := hb4; go_must ((with_reducible refine (B2.out _ _ ?_ ?_).mono ?_); (simp); (simp); rintro e w5 ⟨rfl, hb5⟩; have hQ5 := (hQ4.alloc (by have := hQ4.size; simp at this ⊢; omega) (.cells #[.int .i64 lo, .int .i64 hi] 3)).trans (hb5.mono (by have := hQ4.size; simp at this ⊢; omega)); have q0 := box_cell hQ5 0 _ rfl; have q1 := box_cell hQ5 1 _ rfl; have q2 := box_cell hQ5 2 _ rfl; have q3 := box_cell hQ5 3 _ rfl; have qz := box_size hQ5; dsimp only)) | (go_at_call 89; have hprev := hb3; go_must ((with_reducible refine (B1.out _ _ ?_).mono ?_); (simp); rintro e w4 ⟨rfl, hb4⟩; have hQ4 := (hQ3.alloc (by have := hQ3.size; simp at this ⊢; omega) (.cells #[.int .i64 kinds] 3)).trans (hb4.mono (by have := hQ3.size; simp at this ⊢; omega)); have p0 := box_cell hQ4 0 _ rfl; have p1 := box_cell hQ4 1 _ rfl; have p2 := box_cell hQ4 2 _ rfl; have p3 := box_cell hQ4 3 _ rfl; have pz := box_size hQ4; dsimp only)) | (go_at_call 103; go_must ((with_reducible refine (K.out _ (box_old hQ2) _ y0).mono ?_); rintro e w3 ⟨rfl, hb3⟩; have hQ3 := hQ2.trans (hb3.mono (by have := hQ2.size; simp at this; omega)); have z0 := box_cell hQ3 0 _ rfl; have z1 := box_cell hQ3 1 _ rfl; have z2 := box_cell hQ3 2 _ rfl; have z3 := box_cell hQ3 3 _ rfl; have zz := box_size hQ3; dsimp only)) | (go_at_call 102; go_must ((with_reducible refine (N.out _).mono ?_); rintro e w2 ⟨rfl, hb2⟩; have hQ2 := hQ0.trans (hb2.mono (by simp)); have y0 := box_cell hQ2 0 _ rfl; have y1 := box_cell hQ2 1 _ rfl; have y2 := box_cell hQ2 2 _ rfl; have y3 := box_cell hQ2 3 _ rfl; have yz := box_size hQ2; have c2 := cell_below (box_old hQ2) c1; have hB2 := lt_of_cell c2; dsimp only)))
    go_ret
    exact ⟨ret_int (by rw [HE.out]; simp [hlt]), box_old hQ5⟩

set_option maxRecDepth 100000 in
set_option maxHeartbeats 2000000 in
theorem DChkC_any (aw ac : Option Addr) (kw kc : Nat) (h : DeH) (i B : Nat) (w : World) (hm : HallC w aw ac kw kc h) (hil : i < h.customers.length) (c1 : w.cell? ⟨B, 2, none⟩ = some (.slice ac h.customers.length kc)) :
    Calls Tryz.prog 106 #[.int .i64 (i : Int), .agg #[.string h.customers[i].name, .int .i64 h.customers[i].kind, .int .i64 h.customers[i].lo, .int .i64 h.customers[i].hi, .int .i64 h.customers[i].ship], .pointer (some ⟨B, 0, none⟩)] w fun e w' => e = .returned (.int .i64 (deCErr h i)) ∧ Below w.heap.size w w' := by
  have l1 := hm.okc.len
  have l1c := hm.okc.1
  have HE : Hid (deCErr h i = if fresh h.customers[i].name ((h.customers.take i).map (·.name)) = 0 then deCErrOf h.customers[i] else fresh h.customers[i].name ((h.customers.take i).map (·.name))) := by show deCErr h i = _; unfold deCErr; rw [List.getElem?_eq_getElem hil]
  have hsz := hm.csize _ (List.getElem_mem hil)
  obtain ⟨b, off, e0, hb, _⟩ := hm.custs i hil
  have hti : (h.customers.take i).length = i := by rw [List.length_take]; omega
  have K := Lib.hid (fun (W : World) (hw : Below w.heap.size w W) (p : Nat) (h0 : W.cell? ⟨p, 0, none⟩ = some (.string h.customers[i].name)) => (show Calls Tryz.prog 107 #[.slice (some ⟨b, off, none⟩) i kc, .func (.func 108) #[] #[.pointer (some ⟨p, 0, none⟩)]] W fun e w' => e = .returned (.bool (hasS ((h.customers.take i).map (·.name)) h.customers[i].name)) ∧ Below W.heap.size W w' from by
    have := DContainsC_any (some ⟨b, off, none⟩) (h.customers.take i) kc h.customers[i].name p W (by omega) (by rw [← e0]; exact ((hm.mono hw).custs.take i)) h0
    rw [hti] at this
    exact this))
  rw [e0] at c1
  generalize deCErr h i = er at HE ⊢
  generalize h.customers[i] = x at HE K hsz
  rw [fresh_is] at HE
  obtain ⟨name, kind, lo, hi, ship⟩ := x
  unfold deCErrOf endsE at HE
  simp only at HE K hsz ⊢
  have N := Lib.hid (fun (W : World) => EarName_any name W hsz)
  generalize hasS ((h.customers.take i).map (·.name)) name = bk at K HE
  generalize nameB name = bn at N HE
  have hB := lt_of_cell c1
  have hii : (i : Int) ≤ kc := by omega
  have hQ0 := Below.refl (w.heap.size + 1) (w.alloc (.cells #[.string name, .int .i64 kind, .int .i64 lo, .int .i64 hi, .int .i64 ship] 39))

  have B1 := fun (a : Nat) (W : World) hc => MBeyondOne_any kind 0 3 a W hc
  have B2 := fun (a : Nat) (W : World) hc hd => DBeyondTwo_any lo hi 1 30 a W hc hd
  generalize inB kind 0 3 = b1 at B1 HE
  generalize (inB lo 1 30 && inB hi 1 30) = b2 at B2 HE
  have B1 := Lib.hid B1
  have B2 := Lib.hid B2
  have B3 := fun (a : Nat) (W : World) hc => MBeyondOne_any ship 0 240 a W hc
  generalize inB ship 0 240 = b3 at B3 HE
  have B3 := Lib.hid B3
  cases bn
  · go_enter Tryz.func106, Tryz.ntmps106
    go_wp2_with (go_at_call 102; go_must ((with_reducible refine (N.out _).mono ?_); rintro e w2 ⟨rfl, hb2⟩; have hQ2 := hQ0.trans (hb2.mono (by simp)); have y0 := box_cell hQ2 0 _ rfl; have y1 := box_cell hQ2 1 _ rfl; have y2 := box_cell hQ2 2 _ rfl; have y3 := box_cell hQ2 3 _ rfl; have y4 := box_cell hQ2 4 _ rfl; have yz := box_size hQ2; have c2 := cell_below (box_old hQ2) c1; have hB2 := lt_of_cell c2; dsimp only))
    go_ret
    exact ⟨ret_int (by rw [HE.out]; simp), box_old hQ2⟩
  cases bk
  rotate_left 1
  · go_enter Tryz.func106, Tryz.ntmps106
    go_wp2_with (first | (go_at_call 107; go_must ((with_reducible refine (K.out _ (box_old hQ2) _ y0).mono ?_); rintro e w3 ⟨rfl, hb3⟩; have hQ3 := hQ2.trans (hb3.mono (by have := hQ2.size; simp at this; omega)); have z0 := box_cell hQ3 0 _ rfl; have z1 := box_cell hQ3 1 _ rfl; have z2 := box_cell hQ3 2 _ rfl; have z3 := box_cell hQ3 3 _ rfl; have z4 := box_cell hQ3 4 _ rfl; have zz := box_size hQ3; dsimp only)) | (go_at_call 102; go_must ((with_reducible refine (N.out _).mono ?_); rintro e w2 ⟨rfl, hb2⟩; have hQ2 := hQ0.trans (hb2.mono (by simp)); have y0 := box_cell hQ2 0 _ rfl; have y1 := box_cell hQ2 1 _ rfl; have y2 := box_cell hQ2 2 _ rfl; have y3 := box_cell hQ2 3 _ rfl; have y4 := box_cell hQ2 4 _ rfl; have yz := box_size hQ2; have c2 := cell_below (box_old hQ2) c1; have hB2 := lt_of_cell c2; dsimp only)))
    go_ret
    exact ⟨ret_int (by rw [HE.out]; simp), box_old hQ3⟩
  cases b1
  · go_enter Tryz.func106, Tryz.ntmps106
    go_wp2_with (first | (go_at_call 89; have hprev := hb3; go_must ((with_reducible refine (B1.out _ _ ?_).mono ?_); (simp); rintro e w4 ⟨rfl, hb4⟩; have hQ4 := (hQ3.alloc (by have := hQ3.size; simp at this ⊢; omega) (.cells #[.int .i64 kind] 3)).trans (hb4.mono (by have := hQ3.size; simp at this ⊢; omega)); have p0 := box_cell hQ4 0 _ rfl; have p1 := box_cell hQ4 1 _ rfl; have p2 := box_cell hQ4 2 _ rfl; have p3 := box_cell hQ4 3 _ rfl; have p4 := box_cell hQ4 4 _ rfl; have pz := box_size hQ4; dsimp only)) | (go_at_call 107; go_must ((with_reducible refine (K.out _ (box_old hQ2) _ y0).mono ?_); rintro e w3 ⟨rfl, hb3⟩; have hQ3 := hQ2.trans (hb3.mono (by have := hQ2.size; simp at this; omega)); have z0 := box_cell hQ3 0 _ rfl; have z1 := box_cell hQ3 1 _ rfl; have z2 := box_cell hQ3 2 _ rfl; have z3 := box_cell hQ3 3 _ rfl; have z4 := box_cell hQ3 4 _ rfl; have zz := box_size hQ3; dsimp only)) | (go_at_call 102; go_must ((with_reducible refine (N.out _).mono ?_); rintro e w2 ⟨rfl, hb2⟩; have hQ2 := hQ0.trans (hb2.mono (by simp)); have y0 := box_cell hQ2 0 _ rfl; have y1 := box_cell hQ2 1 _ rfl; have y2 := box_cell hQ2 2 _ rfl; have y3 := box_cell hQ2 3 _ rfl; have y4 := box_cell hQ2 4 _ rfl; have yz := box_size hQ2; have c2 := cell_below (box_old hQ2) c1; have hB2 := lt_of_cell c2; dsimp only)))
    go_ret
    exact ⟨ret_int (by rw [HE.out]; simp), box_old hQ4⟩
  cases b2
  · go_enter Tryz.func106, Tryz.ntmps106
    go_wp2_with (first | (go_at_call 89; have hprev := hb4; go_must ((with_reducible refine (B2.out _ _ ?_ ?_).mono ?_); (simp); (simp); rintro e w5 ⟨rfl, hb5⟩; have hQ5 := (hQ4.alloc (by have := hQ4.size; simp at this ⊢; omega) (.cells #[.int .i64 lo, .int .i64 hi] 3)).trans (hb5.mono (by have := hQ4.size; simp at this ⊢; omega)); have q0 := box_cell hQ5 0 _ rfl; have q1 := box_cell hQ5 1 _ rfl; have q2 := box_cell hQ5 2 _ rfl; have q3 := box_cell hQ5 3 _ rfl; have q4 := box_cell hQ5 4 _ rfl; have qz := box_size hQ5; dsimp only)) | (go_at_call 89; have hprev := hb3; go_must ((with_reducible refine (B1.out _ _ ?_).mono ?_); (simp); rintro e w4 ⟨rfl, hb4⟩; have hQ4 := (hQ3.alloc (by have := hQ3.size; simp at this ⊢; omega) (.cells #[.int .i64 kind] 3)).trans (hb4.mono (by have := hQ3.size; simp at this ⊢; omega)); have p0 := box_cell hQ4 0 _ rfl; have p1 := box_cell hQ4 1 _ rfl; have p2 := box_cell hQ4 2 _ rfl; have p3 := box_cell hQ4 3 _ rfl; have p4 := box_cell hQ4 4 _ rfl; have pz := box_size hQ4; dsimp only)) | (go_at_call 107; go_must ((with_reducible refine (K.out _ (box_old hQ2) _ y0).mono ?_); rintro e w3 ⟨rfl, hb3⟩; have hQ3 := hQ2.trans (hb3.mono (by have := hQ2.size; simp at this; omega)); have z0 := box_cell hQ3 0 _ rfl; have z1 := box_cell hQ3 1 _ rfl; have z2 := box_cell hQ3 2 _ rfl; have z3 := box_cell hQ3 3 _ rfl; have z4 := box_cell hQ3 4 _ rfl; have zz := box_size hQ3; dsimp only)) | (go_at_call 102; go_must ((with_reducible refine (N.out _).mono ?_); rintro e w2 ⟨rfl, hb2⟩; have hQ2 := hQ0.trans (hb2.mono (by simp)); have y0 := box_cell hQ2 0 _ rfl; have y1 := box_cell hQ2 1 _ rfl; have y2 := box_cell hQ2 2 _ rfl; have y3 := box_cell hQ2 3 _ rfl; have y4 := box_cell hQ2 4 _ rfl; have yz := box_size hQ2; have c2 := cell_below (box_old hQ2) c1; have hB2 := lt_of_cell c2; dsimp only)))
    go_ret
    exact ⟨ret_int (by rw [HE.out]; simp), box_old hQ5⟩
  cases b3
  · go_enter Tryz.func106, Tryz.ntmps106
    go_wp2_with (first | (go_at_call 89; have hprev := hb5; go_must ((with_reducible refine (B3.out _ _ ?_).mono ?_); (simp); rintro e w6 ⟨rfl, hb6⟩; have hQ6 := (hQ5.alloc (by have := hQ5.size; simp at this ⊢; omega) (.cells #[.int .i64 ship] 3)).trans (hb6.mono (by have := hQ5.size; simp at this ⊢; omega)); have r0 := box_cell hQ6 0 _ rfl; have r1 := box_cell hQ6 1 _ rfl; have r2 := box_cell hQ6 2 _ rfl; have r3 := box_cell hQ6 3 _ rfl; have r4 := box_cell hQ6 4 _ rfl; have rz := box_size hQ6; dsimp only)) | (go_at_call 89; have hprev := hb4; go_must ((with_reducible refine (B2.out _ _ ?_ ?_).mono ?_); (simp); (simp); rintro e w5 ⟨rfl, hb5⟩; have hQ5 := (hQ4.alloc (by have := hQ4.size; simp at this ⊢; omega) (.cells #[.int .i64 lo, .int .i64 hi] 3)).trans (hb5.mono (by have := hQ4.size; simp at this ⊢; omega)); have q0 := box_cell hQ5 0 _ rfl; have q1 := box_cell hQ5 1 _ rfl; have q2 := box_cell hQ5 2 _ rfl; have q3 := box_cell hQ5 3 _ rfl; have q4 := box_cell hQ5 4 _ rfl; have qz := box_size hQ5; dsimp only)) | (go_at_call 89; have hprev := hb3; go_must ((with_reducible refine (B1.out _ _ ?_).mono ?_); (simp); rintro e w4 ⟨rfl, hb4⟩; have hQ4 := (hQ3.alloc (by have := hQ3.size; simp at this ⊢; omega) (.cells #[.int .i64 kind] 3)).trans (hb4.mono (by have := hQ3.size; simp at this ⊢; omega)); have p0 := box_cell hQ4 0 _ rfl; have p1 := box_cell hQ4 1 _ rfl; have p2 := box_cell hQ4 2 _ rfl; have p3 := box_cell hQ4 3 _ rfl; have p4 := box_cell hQ4 4 _ rfl; have pz := box_size hQ4; dsimp only)) | (go_at_call 107; go_must ((with_reducible refine (K.out _ (box_old hQ2) _ y0).mono ?_); rintro e w3 ⟨rfl, hb3⟩; have hQ3 := hQ2.trans (hb3.mono (by have := hQ2.size; simp at this; omega)); have z0 := box_cell hQ3 0 _ rfl; have z1 := box_cell hQ3 1 _ rfl; have z2 := box_cell hQ3 2 _ rfl; have z3 := box_cell hQ3 3 _ rfl; have z4 := box_cell hQ3 4 _ rfl; have zz := box_size hQ3; dsimp only)) | (go_at_call 102; go_must ((with_reducible refine (N.out _).mono ?_); rintro e w2 ⟨rfl, hb2⟩; have hQ2 := hQ0.trans (hb2.mono (by simp)); have y0 := box_cell hQ2 0 _ rfl; have y1 := box_cell hQ2 1 _ rfl; have y2 := box_cell hQ2 2 _ rfl; have y3 := box_cell hQ2 3 _ rfl; have y4 := box_cell hQ2 4 _ rfl; have yz := box_size hQ2; have c2 := cell_below (box_old hQ2) c1; have hB2 := lt_of_cell c2; dsimp only)))
    go_ret
    exact ⟨ret_int (by rw [HE.out]; simp), box_old hQ6⟩
  by_cases hlt : hi < lo
  all_goals
    go_enter Tryz.func106, Tryz.ntmps106
    go_wp2_with (first | (go_at_call 89; have hprev := hb5; go_must ((with_reducible refine (B3.out _ _ ?_).mono ?_); (simp); rintro e w6 ⟨rfl, hb6⟩; have hQ6 := (hQ5.alloc (by have := hQ5.size; simp at this ⊢; omega) (.cells #[.int .i64 ship] 3)).trans (hb6.mono (by have := hQ5.size; simp at this ⊢; omega)); have r0 := box_cell hQ6 0 _ rfl; have r1 := box_cell hQ6 1 _ rfl; have r2 := box_cell hQ6 2 _ rfl; have r3 := box_cell hQ6 3 _ rfl; have r4 := box_cell hQ6 4 _ rfl; have rz := box_size hQ6; dsimp only)) | (go_at_call 89; have hprev := hb4; go_must ((with_reducible refine (B2.out _ _ ?_ ?_).mono ?_); (simp); (simp); rintro e w5 ⟨rfl, hb5⟩; have hQ5 := (hQ4.alloc (by have := hQ4.size; simp at this ⊢; omega) (.cells #[.int .i64 lo, .int .i64 hi] 3)).trans (hb5.mono (by have := hQ4.size; simp at this ⊢; omega)); have q0 := box_cell hQ5 0 _ rfl; have q1 := box_cell hQ5 1 _ rfl; have q2 := box_cell hQ5 2 _ rfl; have q3 := box_cell hQ5 3 _ rfl; have q4 := box_cell hQ5 4 _ rfl; have qz := box_size hQ5; dsimp only)) | (go_at_call 89; have hprev := hb3; go_must ((with_reducible refine (B1.out _ _ ?_).mono ?_); (simp); rintro e w4 ⟨rfl, hb4⟩; have hQ4 := (hQ3.alloc (by have := hQ3.size; simp at this ⊢; omega) (.cells #[.int .i64 kind] 3)).trans (hb4.mono (by have := hQ3.size; simp at this ⊢; omega)); have p0 := box_cell hQ4 0 _ rfl; have p1 := box_cell hQ4 1 _ rfl; have p2 := box_cell hQ4 2 _ rfl; have p3 := box_cell hQ4 3 _ rfl; have p4 := box_cell hQ4 4 _ rfl; have pz := box_size hQ4; dsimp only)) | (go_at_call 107; go_must ((with_reducible refine (K.out _ (box_old hQ2) _ y0).mono ?_); rintro e w3 ⟨rfl, hb3⟩; have hQ3 := hQ2.trans (hb3.mono (by have := hQ2.size; simp at this; omega)); have z0 := box_cell hQ3 0 _ rfl; have z1 := box_cell hQ3 1 _ rfl; have z2 := box_cell hQ3 2 _ rfl; have z3 := box_cell hQ3 3 _ rfl; have z4 := box_cell hQ3 4 _ rfl; have zz := box_size hQ3; dsimp only)) | (go_at_call 102; go_must ((with_reducible refine (N.out _).mono ?_); rintro e w2 ⟨rfl, hb2⟩; have hQ2 := hQ0.trans (hb2.mono (by simp)); have y0 := box_cell hQ2 0 _ rfl; have y1 := box_cell hQ2 1 _ rfl; have y2 := box_cell hQ2 2 _ rfl; have y3 := box_cell hQ2 3 _ rfl; have y4 := box_cell hQ2 4 _ rfl; have yz := box_size hQ2; have c2 := cell_below (box_old hQ2) c1; have hB2 := lt_of_cell c2; dsimp only)))
    go_ret
    exact ⟨ret_int (by rw [HE.out]; simp [hlt]), box_old hQ6⟩

end Go.Proofs.YtelmponkmmfffaaGreat
namespace Go.Proofs.YtelmponkmmfffaaGreat
open Go Go.RowKit Go.Shelf

theorem part_fail (part : Int) (n most : Nat) (f : Nat → Int) (next : Int × Int × Int) : checkPart part n most f next = if (failOf n most f).2 = 0 then next else (part, (failOf n most f).1, (failOf n most f).2) := by
  by_cases h : most < n
  · rw [checkPart_long h, failOf_long h]; rfl
  · unfold checkPart failOf
    rw [if_neg h, if_neg h]
    cases e : firstErr n f with
    | none => rfl
    | some i =>
      have hne : f i ≠ 0 := by
        have := List.find?_some e
        simpa using this
      simp only [if_neg hne]
theorem tup3 {p q r p' q' r' : Int} (h : (p, q, r) = (p', q', r')) : Ending.returned (.tuple #[.int .i64 p, .int .i64 q, .int .i64 r]) = Ending.returned (.tuple #[.int .i64 p', .int .i64 q', .int .i64 r']) := by cases h; rfl
theorem DFailWs_any (aw ac : Option Addr) (kw kc : Nat) (h : DeH) (B : Nat) (w W : World) (hm : HallC w aw ac kw kc h) (hb : Below w.heap.size w W) (c1 : W.cell? ⟨B, 1, none⟩ = some (.slice aw h.writers.length kw)) :
    Calls Tryz.prog 100 #[.slice aw h.writers.length kw, .int .i64 3, .func (.func 101) #[] #[.pointer (some ⟨B, 0, none⟩)]] W fun e w' => e = .returned (.tuple #[.int .i64 (failOf h.writers.length 3 (deWErr h)).1, .int .i64 (failOf h.writers.length 3 (deWErr h)).2]) ∧ Below W.heap.size W w' :=
  DFailW_any aw h.writers kw 101 3 #[.pointer (some ⟨B, 0, none⟩)] (deWErr h) W hm.okw.len (by decide) (hm.mono hb).writers (enters_of Tryz.func101 (by kernel_rfl) rfl)
    (fun k hk V hV => DChkW_any aw ac kw kc h k B V ((hm.mono hb).mono hV) hk (cell_below hV c1))
theorem DFailCs_any (aw ac : Option Addr) (kw kc : Nat) (h : DeH) (B : Nat) (w W : World) (hm : HallC w aw ac kw kc h) (hb : Below w.heap.size w W) (c2 : W.cell? ⟨B, 2, none⟩ = some (.slice ac h.customers.length kc)) :
    Calls Tryz.prog 105 #[.slice ac h.customers.length kc, .int .i64 5, .func (.func 106) #[] #[.pointer (some ⟨B, 0, none⟩)]] W fun e w' => e = .returned (.tuple #[.int .i64 (failOf h.customers.length 5 (deCErr h)).1, .int .i64 (failOf h.customers.length 5 (deCErr h)).2]) ∧ Below W.heap.size W w' :=
  DFailC_any ac h.customers kc 106 5 #[.pointer (some ⟨B, 0, none⟩)] (deCErr h) W hm.okc.len (by decide) (hm.mono hb).custs (enters_of Tryz.func106 (by kernel_rfl) rfl)
    (fun k hk V hV => DChkC_any aw ac kw kc h k B V ((hm.mono hb).mono hV) hk (cell_below hV c2))

set_option maxRecDepth 100000 in
set_option maxHeartbeats 2000000 in
theorem DCheck_any (aw ac : Option Addr) (kw kc : Nat) (h : DeH) (w : World) (hm : HallC w aw ac kw kc h) :
    Calls Tryz.prog 52 #[(.agg #[.int .i64 h.wax, .slice aw h.writers.length kw, .slice ac h.customers.length kc])] w fun e w' => e = .returned (.tuple #[.int .i64 (deCheck h).1, .int .i64 (deCheck h).2.1, .int .i64 (deCheck h).2.2]) ∧ Below w.heap.size w w' := by
  have HE : Hid (deCheck h = if inB h.wax 0 5 then checkPart 2 h.writers.length 3 (deWErr h) (checkPart 3 h.customers.length 5 (deCErr h) (0, 0, 0)) else (1, 0, 7)) := rfl
  rw [part_fail, part_fail] at HE
  generalize deCheck h = r at HE ⊢
  obtain ⟨r1, r2, r3⟩ := r
  simp only
  have F1 := fun (B : Nat) (W : World) hb hc => DFailWs_any aw ac kw kc h B w W hm hb hc
  have F2 := fun (B : Nat) (W : World) hb hc => DFailCs_any aw ac kw kc h B w W hm hb hc
  have B1 := fun (a : Nat) (W : World) hc => MBeyondOne_any h.wax 0 5 a W hc
  generalize failOf h.writers.length 3 (deWErr h) = f1 at F1 HE
  generalize failOf h.customers.length 5 (deCErr h) = f2 at F2 HE
  generalize inB h.wax 0 5 = b1 at B1 HE
  obtain ⟨p1, q1⟩ := f1
  obtain ⟨p2, q2⟩ := f2
  simp only at F1 F2 HE
  have F1 := Lib.hid F1
  have F2 := Lib.hid F2
  have B1 := Lib.hid B1
  have hQ0 := Below.refl (w.heap.size + 1) (w.alloc (.cells #[.int .i64 h.wax, .slice aw h.writers.length kw, .slice ac h.customers.length kc] 28))
  clear hm
  cases b1
  · go_enter Tryz.func52, Tryz.ntmps52
    go_wp2_with (go_at_call 89; go_must ((with_reducible refine (B1.out _ _ ?_).mono ?_); (simp); rintro e w2 ⟨rfl, hb2⟩; have hQ2 := (hQ0.alloc (by simp) (.cells #[.int .i64 h.wax] 3)).trans (hb2.mono (by simp)); dsimp only))
    go_ret3
    exact ⟨(tup3 (HE.out.trans (by simp))).symm, box_old hQ2⟩
  replace HE := Lib.hid (HE.out.trans (if_pos rfl))
  by_cases h1 : q1 = 0
  · have g1 := nei_f h1
    replace HE := Lib.hid (HE.out.trans (if_pos h1))
    clear h1
    by_cases h2 : q2 = 0
    · have g2 := nei_f h2
      replace HE := Lib.hid (HE.out.trans (if_pos h2))
      clear h2
      go_enter Tryz.func52, Tryz.ntmps52
      go_wp2_with (first
        | (go_at_call 105; go_must ((with_reducible refine (F2.out _ _ (box_old hQ3) y2).mono ?_); rintro e w4 ⟨rfl, hb4⟩; have hQ4 := hQ3.trans (hb4.mono (by have := hQ3.size; simp at this; omega)); dsimp only))
        | (go_at_call 100; go_must ((with_reducible refine (F1.out _ _ (box_old hQ2) x1).mono ?_); rintro e w3 ⟨rfl, hb3⟩; have hQ3 := hQ2.trans (hb3.mono (by have := hQ2.size; simp at this; omega)); have y2 := box_cell hQ3 2 _ rfl; have yz := box_size hQ3; dsimp only))
        | (go_at_call 89; go_must ((with_reducible refine (B1.out _ _ ?_).mono ?_); (simp); rintro e w2 ⟨rfl, hb2⟩; have hQ2 := (hQ0.alloc (by simp) (.cells #[.int .i64 h.wax] 3)).trans (hb2.mono (by simp)); have x1 := box_cell hQ2 1 _ rfl; have xz := box_size hQ2; dsimp only)))
      go_ret3
      exact ⟨(tup3 HE.out).symm, box_old hQ4⟩
    · have g2 := nei_t h2
      replace HE := Lib.hid (HE.out.trans (if_neg h2))
      clear h2
      go_enter Tryz.func52, Tryz.ntmps52
      go_wp2_with (first
        | (go_at_call 105; go_must ((with_reducible refine (F2.out _ _ (box_old hQ3) y2).mono ?_); rintro e w4 ⟨rfl, hb4⟩; have hQ4 := hQ3.trans (hb4.mono (by have := hQ3.size; simp at this; omega)); dsimp only))
        | (go_at_call 100; go_must ((with_reducible refine (F1.out _ _ (box_old hQ2) x1).mono ?_); rintro e w3 ⟨rfl, hb3⟩; have hQ3 := hQ2.trans (hb3.mono (by have := hQ2.size; simp at this; omega)); have y2 := box_cell hQ3 2 _ rfl; have yz := box_size hQ3; dsimp only))
        | (go_at_call 89; go_must ((with_reducible refine (B1.out _ _ ?_).mono ?_); (simp); rintro e w2 ⟨rfl, hb2⟩; have hQ2 := (hQ0.alloc (by simp) (.cells #[.int .i64 h.wax] 3)).trans (hb2.mono (by simp)); have x1 := box_cell hQ2 1 _ rfl; have xz := box_size hQ2; dsimp only)))
      go_ret3
      exact ⟨(tup3 HE.out).symm, box_old hQ4⟩
  · have g1 := nei_t h1
    replace HE := Lib.hid (HE.out.trans (if_neg h1))
    clear h1
    go_enter Tryz.func52, Tryz.ntmps52
    go_wp2_with (first
      | (go_at_call 100; go_must ((with_reducible refine (F1.out _ _ (box_old hQ2) x1).mono ?_); rintro e w3 ⟨rfl, hb3⟩; have hQ3 := hQ2.trans (hb3.mono (by have := hQ2.size; simp at this; omega)); dsimp only))
      | (go_at_call 89; go_must ((with_reducible refine (B1.out _ _ ?_).mono ?_); (simp); rintro e w2 ⟨rfl, hb2⟩; have hQ2 := (hQ0.alloc (by simp) (.cells #[.int .i64 h.wax] 3)).trans (hb2.mono (by simp)); have x1 := box_cell hQ2 1 _ rfl; have xz := box_size hQ2; dsimp only)))
    go_ret3
    exact ⟨(tup3 HE.out).symm, box_old hQ3⟩
end Go.Proofs.YtelmponkmmfffaaGreat
namespace Go.Proofs.YtelmponkmmfffaaGreat
open Go Go.RowKit Go.Shelf
set_option maxHeartbeats 1000000 in
theorem REndsOf_any (lo hi a b : Int) (w : World) : Calls Tryz.prog 64 #[.agg #[.int .i64 lo, .int .i64 hi], .int .i64 a, .int .i64 b] w fun e w' => e = .returned (.int .i64 (endsE lo hi a b)) ∧ Below w.heap.size w w' := by
  have HE : Hid (endsE lo hi a b = if inB lo a b && inB hi a b then (if hi < lo then 2 else 0) else 7) := rfl
  generalize endsE lo hi a b = r at HE ⊢
  have C1 := fun W => In_any lo a b W
  have C2 := fun W => In_any hi a b W
  generalize inB lo a b = b1 at C1 HE
  generalize inB hi a b = b2 at C2 HE
  have C1 := Lib.hid C1
  have C2 := Lib.hid C2
  go_enter Tryz.func64, Tryz.ntmps64
  cases b1
  · go_wp2_with (go_at_call 14; go_must ((with_reducible refine (C1.out _).mono ?_); rintro e w' ⟨rfl, rfl⟩; dsimp only))
    go_ret
    exact ⟨ret_int (by rw [HE.out]; simp), by go_grown⟩
  · cases b2
    · go_wp2_with (go_at_call 14; (first | ((with_reducible refine (C1.out _).mono ?_); rintro e w' ⟨rfl, rfl⟩; dsimp only) | ((with_reducible refine (C2.out _).mono ?_); rintro e w' ⟨rfl, rfl⟩; dsimp only)))
      go_ret
      exact ⟨ret_int (by rw [HE.out]; simp), by go_grown⟩
    · by_cases hlt : hi < lo
      all_goals
        go_wp2_with (go_at_call 14; (first | ((with_reducible refine (C1.out _).mono ?_); rintro e w' ⟨rfl, rfl⟩; dsimp only) | ((with_reducible refine (C2.out _).mono ?_); rintro e w' ⟨rfl, rfl⟩; dsimp only)))
        go_ret
        exact ⟨ret_int (by rw [HE.out]; simp [hlt]), by go_grown⟩
set_option maxHeartbeats 1000000 in
theorem RWriterE_any (x : DeW) (w : World) : Calls Tryz.prog 17 #[.agg #[.string x.name, .int .i64 x.kinds, .int .i64 x.lo, .int .i64 x.hi]] w fun e w' => e = .returned (.int .i64 (deWErrOf x)) ∧ Below w.heap.size w w' := by
  have HE : Hid (deWErrOf x = if inB x.kinds 0 15 then endsE x.lo x.hi 0 240 else 7) := rfl
  generalize deWErrOf x = r at HE ⊢
  have C1 := fun W => In_any x.kinds 0 15 W
  have C2 := fun W => REndsOf_any x.lo x.hi 0 240 W
  generalize inB x.kinds 0 15 = b1 at C1 HE
  generalize endsE x.lo x.hi 0 240 = e2 at C2 HE
  have C1 := Lib.hid C1
  have C2 := Lib.hid C2
  have hQ0 := Below.refl (w.heap.size + 1) (w.alloc (.cells #[.string x.name, .int .i64 x.kinds, .int .i64 x.lo, .int .i64 x.hi] 56))
  go_enter Tryz.func17, Tryz.ntmps17
  cases b1
  · go_wp2_with (go_at_call 14; go_must ((with_reducible refine (C1.out _).mono ?_); rintro e w' ⟨rfl, rfl⟩; dsimp only))
    go_ret
    exact ⟨ret_int (by rw [HE.out]; simp), box_old hQ0⟩
  · go_wp2_with (first
      | (go_at_call 64; go_must ((with_reducible refine (C2.out _).mono ?_); rintro e w2 ⟨rfl, hb2⟩; have hQ2 := hQ0.trans (hb2.mono (by simp)); dsimp only))
      | (go_at_call 14; go_must ((with_reducible refine (C1.out _).mono ?_); rintro e w' ⟨rfl, rfl⟩; dsimp only)))
    go_ret
    exact ⟨ret_int (by rw [HE.out]; simp), box_old hQ2⟩
set_option maxHeartbeats 1000000 in
theorem RCustE_any (x : DeC) (w : World) : Calls Tryz.prog 18 #[.agg #[.string x.name, .int .i64 x.kind, .int .i64 x.lo, .int .i64 x.hi, .int .i64 x.ship]] w fun e w' => e = .returned (.int .i64 (deCErrOf x)) ∧ Below w.heap.size w w' := by
  have HE : Hid (deCErrOf x = if inB x.kind 0 3 && inB x.ship 0 240 then endsE x.lo x.hi 1 30 else 7) := rfl
  generalize deCErrOf x = r at HE ⊢
  have C0 := fun W => In_any x.kind 0 3 W
  have C1 := fun W => In_any x.ship 0 240 W
  have C2 := fun W => REndsOf_any x.lo x.hi 1 30 W
  generalize inB x.kind 0 3 = b0 at C0 HE
  generalize inB x.ship 0 240 = b1 at C1 HE
  generalize endsE x.lo x.hi 1 30 = e2 at C2 HE
  have C0 := Lib.hid C0
  have C1 := Lib.hid C1
  have C2 := Lib.hid C2
  have hQ0 := Below.refl (w.heap.size + 1) (w.alloc (.cells #[.string x.name, .int .i64 x.kind, .int .i64 x.lo, .int .i64 x.hi, .int .i64 x.ship] 39))
  go_enter Tryz.func18, Tryz.ntmps18
  cases b0
  · go_wp2_with (go_at_call 14; go_must ((with_reducible refine (C0.out _).mono ?_); rintro e w' ⟨rfl, rfl⟩; dsimp only))
    go_ret
    exact ⟨ret_int (by rw [HE.out]; simp), box_old hQ0⟩
  · cases b1
    · go_wp2_with (go_at_call 14; (first | ((with_reducible refine (C0.out _).mono ?_); rintro e w' ⟨rfl, rfl⟩; dsimp only) | ((with_reducible refine (C1.out _).mono ?_); rintro e w' ⟨rfl, rfl⟩; dsimp only)))
      go_ret
      exact ⟨ret_int (by rw [HE.out]; simp), box_old hQ0⟩
    · go_wp2_with (first
        | (go_at_call 64; go_must ((with_reducible refine (C2.out _).mono ?_); rintro e w2 ⟨rfl, hb2⟩; have hQ2 := hQ0.trans (hb2.mono (by simp)); dsimp only))
        | (go_at_call 14; (first | ((with_reducible refine (C0.out _).mono ?_); rintro e w' ⟨rfl, rfl⟩; dsimp only) | ((with_reducible refine (C1.out _).mono ?_); rintro e w' ⟨rfl, rfl⟩; dsimp only))))
      go_ret
      exact ⟨ret_int (by rw [HE.out]; simp), box_old hQ2⟩
end Go.Proofs.YtelmponkmmfffaaGreat
