/- What is proved here: the contract of the program's Check of layer 9. Conditions: the hall lies in memory. -/
import Derived.Test.YtchnpekgmkhacaaDeFail
set_option linter.unusedVariables false
set_option linter.unusedSimpArgs false
namespace Go.Proofs.Ytchnpekgmkhacaa
open Go Go.RowKit

theorem DBeyondTwo_any (x y lo hi : Int) (a : Nat) (w : World) (h : w.cell? ⟨a, 0, none⟩ = some (.int .i64 x)) (h2 : w.cell? ⟨a, 1, none⟩ = some (.int .i64 y)) :
    Calls Try.prog 56 #[.int .i64 lo, .int .i64 hi, .slice (some ⟨a, 0, none⟩) 2 2] w fun e w' => e = .returned (.bool (!(inB x lo hi && inB y lo hi))) ∧ Below w.heap.size w w' := by
  have := MBeyond_any (some ⟨a, 0, none⟩) [x, y] 2 lo hi w (by simp) (fun i hi => by
    have e : i = 0 ∨ i = 1 := (by simp at hi; omega)
    rcases e with rfl | rfl
    · exact ⟨a, 0, rfl, lt_of_cell h, by simpa using h⟩
    · exact ⟨a, 0, rfl, lt_of_cell h, by simpa using h2⟩)
  simpa [outB_eq, Bool.not_and] using this
theorem fresh_is (s : ByteArray) (l : List ByteArray) : fresh s l = if nameB s then (if hasS l s then 5 else 0) else 6 := rfl

set_option maxRecDepth 100000 in
set_option maxHeartbeats 2000000 in
theorem DChkW_any (aw ac : Option Addr) (kw kc : Nat) (h : DeH) (i B : Nat) (w : World) (hm : HallC w aw ac kw kc h) (hil : i < h.writers.length) (c1 : w.cell? ⟨B, 1, none⟩ = some (.slice aw h.writers.length kw)) :
    Calls Try.prog 58 #[.int .i64 (i : Int), .agg #[.string h.writers[i].name, .int .i64 h.writers[i].kinds, .int .i64 h.writers[i].lo, .int .i64 h.writers[i].hi], .pointer (some ⟨B, 0, none⟩)] w fun e w' => e = .returned (.int .i64 (deWErr h i)) ∧ Below w.heap.size w w' := by
  have l1 := hm.okw.len
  have l1c := hm.okw.1
  have HE : Hid (deWErr h i = if fresh h.writers[i].name ((h.writers.take i).map (·.name)) = 0 then deWErrOf h.writers[i] else fresh h.writers[i].name ((h.writers.take i).map (·.name))) := by show deWErr h i = _; unfold deWErr; rw [List.getElem?_eq_getElem hil]
  have hsz := hm.wsize _ (List.getElem_mem hil)
  obtain ⟨b, off, e0, hb, _⟩ := hm.writers i hil
  have hti : (h.writers.take i).length = i := by rw [List.length_take]; omega
  have K := Lib.hid (fun (W : World) (hw : Below w.heap.size w W) (p : Nat) (h0 : W.cell? ⟨p, 0, none⟩ = some (.string h.writers[i].name)) => (show Calls Try.prog 60 #[.slice (some ⟨b, off, none⟩) i kw, .func (.func 61) #[] #[.pointer (some ⟨p, 0, none⟩)]] W fun e w' => e = .returned (.bool (hasS ((h.writers.take i).map (·.name)) h.writers[i].name)) ∧ Below W.heap.size W w' from by
    have := DContainsW_any (some ⟨b, off, none⟩) (h.writers.take i) kw h.writers[i].name p W (by omega) (by rw [← e0]; exact ((hm.mono hw).writers.take i)) h0
    rw [hti] at this
    exact this))
  rw [e0] at c1
  generalize deWErr h i = er at HE ⊢
  generalize h.writers[i] = x at HE K hsz
  rw [fresh_is] at HE
  obtain ⟨name, kinds, lo, hi⟩ := x
  unfold deWErrOf endsE at HE
  simp only at HE K hsz ⊢
  have N := Lib.hid (fun (W : World) => EarName_any name W hsz)
  generalize hasS ((h.writers.take i).map (·.name)) name = bk at K HE
  generalize nameB name = bn at N HE
  have hB := lt_of_cell c1
  have hii : (i : Int) ≤ kw := by omega
  have hQ0 := Below.refl (w.heap.size + 1) (w.alloc (.cells #[.string name, .int .i64 kinds, .int .i64 lo, .int .i64 hi] 72))

  have B1 := fun (a : Nat) (W : World) hc => MBeyondOne_any kinds 0 15 a W hc
  have B2 := fun (a : Nat) (W : World) hc hd => DBeyondTwo_any lo hi 0 240 a W hc hd
  generalize inB kinds 0 15 = b1 at B1 HE
  generalize (inB lo 0 240 && inB hi 0 240) = b2 at B2 HE
  have B1 := Lib.hid B1
  have B2 := Lib.hid B2
  cases bn
  · go_enter Try.func58, Try.ntmps58
    go_wp2_with (go_at_call 59; go_must ((with_reducible refine (N.out _).mono ?_); rintro e w2 ⟨rfl, hb2⟩; have hQ2 := hQ0.trans (hb2.mono (by simp)); have y0 := box_cell hQ2 0 _ rfl; have y1 := box_cell hQ2 1 _ rfl; have y2 := box_cell hQ2 2 _ rfl; have y3 := box_cell hQ2 3 _ rfl; have yz := box_size hQ2; have c2 := cell_below (box_old hQ2) c1; have hB2 := lt_of_cell c2; dsimp only))
    go_ret
    exact ⟨ret_int (by rw [HE.out]; simp), box_old hQ2⟩
  cases bk
  rotate_left 1
  · go_enter Try.func58, Try.ntmps58
    go_wp2_with (first | (go_at_call 60; go_must ((with_reducible refine (K.out _ (box_old hQ2) _ y0).mono ?_); rintro e w3 ⟨rfl, hb3⟩; have hQ3 := hQ2.trans (hb3.mono (by have := hQ2.size; simp at this; omega)); have z0 := box_cell hQ3 0 _ rfl; have z1 := box_cell hQ3 1 _ rfl; have z2 := box_cell hQ3 2 _ rfl; have z3 := box_cell hQ3 3 _ rfl; have zz := box_size hQ3; dsimp only)) | (go_at_call 59; go_must ((with_reducible refine (N.out _).mono ?_); rintro e w2 ⟨rfl, hb2⟩; have hQ2 := hQ0.trans (hb2.mono (by simp)); have y0 := box_cell hQ2 0 _ rfl; have y1 := box_cell hQ2 1 _ rfl; have y2 := box_cell hQ2 2 _ rfl; have y3 := box_cell hQ2 3 _ rfl; have yz := box_size hQ2; have c2 := cell_below (box_old hQ2) c1; have hB2 := lt_of_cell c2; dsimp only)))
    go_ret
    exact ⟨ret_int (by rw [HE.out]; simp), box_old hQ3⟩
  cases b1
  · go_enter Try.func58, Try.ntmps58
    go_wp2_with (first | (go_at_call 56; have hprev := hb3; go_must ((with_reducible refine (B1.out _ _ ?_).mono ?_); (simp); rintro e w4 ⟨rfl, hb4⟩; have hQ4 := (hQ3.alloc (by have := hQ3.size; simp at this ⊢; omega) (.cells #[.int .i64 kinds] 3)).trans (hb4.mono (by have := hQ3.size; simp at this ⊢; omega)); have p0 := box_cell hQ4 0 _ rfl; have p1 := box_cell hQ4 1 _ rfl; have p2 := box_cell hQ4 2 _ rfl; have p3 := box_cell hQ4 3 _ rfl; have pz := box_size hQ4; dsimp only)) | (go_at_call 60; go_must ((with_reducible refine (K.out _ (box_old hQ2) _ y0).mono ?_); rintro e w3 ⟨rfl, hb3⟩; have hQ3 := hQ2.trans (hb3.mono (by have := hQ2.size; simp at this; omega)); have z0 := box_cell hQ3 0 _ rfl; have z1 := box_cell hQ3 1 _ rfl; have z2 := box_cell hQ3 2 _ rfl; have z3 := box_cell hQ3 3 _ rfl; have zz := box_size hQ3; dsimp only)) | (go_at_call 59; go_must ((with_reducible refine (N.out _).mono ?_); rintro e w2 ⟨rfl, hb2⟩; have hQ2 := hQ0.trans (hb2.mono (by simp)); have y0 := box_cell hQ2 0 _ rfl; have y1 := box_cell hQ2 1 _ rfl; have y2 := box_cell hQ2 2 _ rfl; have y3 := box_cell hQ2 3 _ rfl; have yz := box_size hQ2; have c2 := cell_below (box_old hQ2) c1; have hB2 := lt_of_cell c2; dsimp only)))
    go_ret
    exact ⟨ret_int (by rw [HE.out]; simp), box_old hQ4⟩
  cases b2
  · go_enter Try.func58, Try.ntmps58
    go_wp2_with (first | (go_at_call 56; have hprev := hb4; go_must ((with_reducible refine (B2.out _ _ ?_ ?_).mono ?_); (simp); (simp); rintro e w5 ⟨rfl, hb5⟩; have hQ5 := (hQ4.alloc (by have := hQ4.size; simp at this ⊢; omega) (.cells #[.int .i64 lo, .int .i64 hi] 3)).trans (hb5.mono (by have := hQ4.size; simp at this ⊢; omega)); have q0 := box_cell hQ5 0 _ rfl; have q1 := box_cell hQ5 1 _ rfl; have q2 := box_cell hQ5 2 _ rfl; have q3 := box_cell hQ5 3 _ rfl; have qz := box_size hQ5; dsimp only)) | (go_at_call 56; have hprev := hb3; go_must ((with_reducible refine (B1.out _ _ ?_).mono ?_); (simp); rintro e w4 ⟨rfl, hb4⟩; have hQ4 := (hQ3.alloc (by have := hQ3.size; simp at this ⊢; omega) (.cells #[.int .i64 kinds] 3)).trans (hb4.mono (by have := hQ3.size; simp at this ⊢; omega)); have p0 := box_cell hQ4 0 _ rfl; have p1 := box_cell hQ4 1 _ rfl; have p2 := box_cell hQ4 2 _ rfl; have p3 := box_cell hQ4 3 _ rfl; have pz := box_size hQ4; dsimp only)) | (go_at_call 60; go_must ((with_reducible refine (K.out _ (box_old hQ2) _ y0).mono ?_); rintro e w3 ⟨rfl, hb3⟩; have hQ3 := hQ2.trans (hb3.mono (by have := hQ2.size; simp at this; omega)); have z0 := box_cell hQ3 0 _ rfl; have z1 := box_cell hQ3 1 _ rfl; have z2 := box_cell hQ3 2 _ rfl; have z3 := box_cell hQ3 3 _ rfl; have zz := box_size hQ3; dsimp only)) | (go_at_call 59; go_must ((with_reducible refine (N.out _).mono ?_); rintro e w2 ⟨rfl, hb2⟩; have hQ2 := hQ0.trans (hb2.mono (by simp)); have y0 := box_cell hQ2 0 _ rfl; have y1 := box_cell hQ2 1 _ rfl; have y2 := box_cell hQ2 2 _ rfl; have y3 := box_cell hQ2 3 _ rfl; have yz := box_size hQ2; have c2 := cell_below (box_old hQ2) c1; have hB2 := lt_of_cell c2; dsimp only)))
    go_ret
    exact ⟨ret_int (by rw [HE.out]; simp), box_old hQ5⟩
  by_cases hlt : hi < lo
  all_goals
    go_enter Try.func58, Try.ntmps58
    go_wp2_with (first | (go_at_call 56; have hprev := hb4; go_must ((with_reducible refine (B2.out _ _ ?_ ?_).mono ?_); (simp); (simp); rintro e w5 ⟨rfl, hb5⟩; have hQ5 := (hQ4.alloc (by have := hQ4.size; simp at this ⊢; omega) (.cells #[.int .i64 lo, .int .i64 hi] 3)).trans (hb5.mono (by have := hQ4.size; simp at this ⊢; omega)); have q0 := box_cell hQ5 0 _ rfl; have q1 := box_cell hQ5 1 _ rfl; have q2 := box_cell hQ5 2 _ rfl; have q3 := box_cell hQ5 3 _ rfl; have qz := box_size hQ5; dsimp only)) | (go_at_call 56; have hprev := hb3; go_must ((with_reducible refine (B1.out _ _ ?_).mono ?_); (simp); rintro e w4 ⟨rfl, hb4⟩; have hQ4 := (hQ3.alloc (by have := hQ3.size; simp at this ⊢; omega) (.cells #[.int .i64 kinds] 3)).trans (hb4.mono (by have := hQ3.size; simp at this ⊢; omega)); have p0 := box_cell hQ4 0 _ rfl; have p1 := box_cell hQ4 1 _ rfl; have p2 := box_cell hQ4 2 _ rfl; have p3 := box_cell hQ4 3 _ rfl; have pz := box_size hQ4; dsimp only)) | (go_at_call 60; go_must ((with_reducible refine (K.out _ (box_old hQ2) _ y0).mono ?_); rintro e w3 ⟨rfl, hb3⟩; have hQ3 := hQ2.trans (hb3.mono (by have := hQ2.size; simp at this; omega)); have z0 := box_cell hQ3 0 _ rfl; have z1 := box_cell hQ3 1 _ rfl; have z2 := box_cell hQ3 2 _ rfl; have z3 := box_cell hQ3 3 _ rfl; have zz := box_size hQ3; dsimp only)) | (go_at_call 59; go_must ((with_reducible refine (N.out _).mono ?_); rintro e w2 ⟨rfl, hb2⟩; have hQ2 := hQ0.trans (hb2.mono (by simp)); have y0 := box_cell hQ2 0 _ rfl; have y1 := box_cell hQ2 1 _ rfl; have y2 := box_cell hQ2 2 _ rfl; have y3 := box_cell hQ2 3 _ rfl; have yz := box_size hQ2; have c2 := cell_below (box_old hQ2) c1; have hB2 := lt_of_cell c2; dsimp only)))
    go_ret
    exact ⟨ret_int (by rw [HE.out]; simp [hlt]), box_old hQ5⟩

set_option maxRecDepth 100000 in
set_option maxHeartbeats 2000000 in
theorem DChkC_any (aw ac : Option Addr) (kw kc : Nat) (h : DeH) (i B : Nat) (w : World) (hm : HallC w aw ac kw kc h) (hil : i < h.customers.length) (c1 : w.cell? ⟨B, 2, none⟩ = some (.slice ac h.customers.length kc)) :
    Calls Try.prog 63 #[.int .i64 (i : Int), .agg #[.string h.customers[i].name, .int .i64 h.customers[i].kind, .int .i64 h.customers[i].lo, .int .i64 h.customers[i].hi, .int .i64 h.customers[i].ship], .pointer (some ⟨B, 0, none⟩)] w fun e w' => e = .returned (.int .i64 (deCErr h i)) ∧ Below w.heap.size w w' := by
  have l1 := hm.okc.len
  have l1c := hm.okc.1
  have HE : Hid (deCErr h i = if fresh h.customers[i].name ((h.customers.take i).map (·.name)) = 0 then deCErrOf h.customers[i] else fresh h.customers[i].name ((h.customers.take i).map (·.name))) := by show deCErr h i = _; unfold deCErr; rw [List.getElem?_eq_getElem hil]
  have hsz := hm.csize _ (List.getElem_mem hil)
  obtain ⟨b, off, e0, hb, _⟩ := hm.custs i hil
  have hti : (h.customers.take i).length = i := by rw [List.length_take]; omega
  have K := Lib.hid (fun (W : World) (hw : Below w.heap.size w W) (p : Nat) (h0 : W.cell? ⟨p, 0, none⟩ = some (.string h.customers[i].name)) => (show Calls Try.prog 64 #[.slice (some ⟨b, off, none⟩) i kc, .func (.func 65) #[] #[.pointer (some ⟨p, 0, none⟩)]] W fun e w' => e = .returned (.bool (hasS ((h.customers.take i).map (·.name)) h.customers[i].name)) ∧ Below W.heap.size W w' from by
    have := DContainsC_any (some ⟨b, off, none⟩) (h.customers.take i) kc h.customers[i].name p W (by omega) (by rw [← e0]; exact ((hm.mono hw).custs.take i)) h0
    rw [hti] at this
    exact this))
  rw [e0] at c1
  generalize deCErr h i = er at HE ⊢
  generalize h.customers[i] = x at HE K hsz
  rw [fresh_is] at HE
  obtain ⟨name, kind, lo, hi, ship⟩ := x
  unfold deCErrOf endsE at HE
  simp only at HE K hsz ⊢
  have N := Lib.hid (fun (W : World) => EarName_any name W hsz)
  generalize hasS ((h.customers.take i).map (·.name)) name = bk at K HE
  generalize nameB name = bn at N HE
  have hB := lt_of_cell c1
  have hii : (i : Int) ≤ kc := by omega
  have hQ0 := Below.refl (w.heap.size + 1) (w.alloc (.cells #[.string name, .int .i64 kind, .int .i64 lo, .int .i64 hi, .int .i64 ship] 55))

  have B1 := fun (a : Nat) (W : World) hc => MBeyondOne_any kind 0 3 a W hc
  have B2 := fun (a : Nat) (W : World) hc hd => DBeyondTwo_any lo hi 1 30 a W hc hd
  generalize inB kind 0 3 = b1 at B1 HE
  generalize (inB lo 1 30 && inB hi 1 30) = b2 at B2 HE
  have B1 := Lib.hid B1
  have B2 := Lib.hid B2
  have B3 := fun (a : Nat) (W : World) hc => MBeyondOne_any ship 0 240 a W hc
  generalize inB ship 0 240 = b3 at B3 HE
  have B3 := Lib.hid B3
  cases bn
  · go_enter Try.func63, Try.ntmps63
    go_wp2_with (go_at_call 59; go_must ((with_reducible refine (N.out _).mono ?_); rintro e w2 ⟨rfl, hb2⟩; have hQ2 := hQ0.trans (hb2.mono (by simp)); have y0 := box_cell hQ2 0 _ rfl; have y1 := box_cell hQ2 1 _ rfl; have y2 := box_cell hQ2 2 _ rfl; have y3 := box_cell hQ2 3 _ rfl; have y4 := box_cell hQ2 4 _ rfl; have yz := box_size hQ2; have c2 := cell_below (box_old hQ2) c1; have hB2 := lt_of_cell c2; dsimp only))
    go_ret
    exact ⟨ret_int (by rw [HE.out]; simp), box_old hQ2⟩
  cases bk
  rotate_left 1
  · go_enter Try.func63, Try.ntmps63
    go_wp2_with (first | (go_at_call 64; go_must ((with_reducible refine (K.out _ (box_old hQ2) _ y0).mono ?_); rintro e w3 ⟨rfl, hb3⟩; have hQ3 := hQ2.trans (hb3.mono (by have := hQ2.size; simp at this; omega)); have z0 := box_cell hQ3 0 _ rfl; have z1 := box_cell hQ3 1 _ rfl; have z2 := box_cell hQ3 2 _ rfl; have z3 := box_cell hQ3 3 _ rfl; have z4 := box_cell hQ3 4 _ rfl; have zz := box_size hQ3; dsimp only)) | (go_at_call 59; go_must ((with_reducible refine (N.out _).mono ?_); rintro e w2 ⟨rfl, hb2⟩; have hQ2 := hQ0.trans (hb2.mono (by simp)); have y0 := box_cell hQ2 0 _ rfl; have y1 := box_cell hQ2 1 _ rfl; have y2 := box_cell hQ2 2 _ rfl; have y3 := box_cell hQ2 3 _ rfl; have y4 := box_cell hQ2 4 _ rfl; have yz := box_size hQ2; have c2 := cell_below (box_old hQ2) c1; have hB2 := lt_of_cell c2; dsimp only)))
    go_ret
    exact ⟨ret_int (by rw [HE.out]; simp), box_old hQ3⟩
  cases b1
  · go_enter Try.func63, Try.ntmps63
    go_wp2_with (first | (go_at_call 56; have hprev := hb3; go_must ((with_reducible refine (B1.out _ _ ?_).mono ?_); (simp); rintro e w4 ⟨rfl, hb4⟩; have hQ4 := (hQ3.alloc (by have := hQ3.size; simp at this ⊢; omega) (.cells #[.int .i64 kind] 3)).trans (hb4.mono (by have := hQ3.size; simp at this ⊢; omega)); have p0 := box_cell hQ4 0 _ rfl; have p1 := box_cell hQ4 1 _ rfl; have p2 := box_cell hQ4 2 _ rfl; have p3 := box_cell hQ4 3 _ rfl; have p4 := box_cell hQ4 4 _ rfl; have pz := box_size hQ4; dsimp only)) | (go_at_call 64; go_must ((with_reducible refine (K.out _ (box_old hQ2) _ y0).mono ?_); rintro e w3 ⟨rfl, hb3⟩; have hQ3 := hQ2.trans (hb3.mono (by have := hQ2.size; simp at this; omega)); have z0 := box_cell hQ3 0 _ rfl; have z1 := box_cell hQ3 1 _ rfl; have z2 := box_cell hQ3 2 _ rfl; have z3 := box_cell hQ3 3 _ rfl; have z4 := box_cell hQ3 4 _ rfl; have zz := box_size hQ3; dsimp only)) | (go_at_call 59; go_must ((with_reducible refine (N.out _).mono ?_); rintro e w2 ⟨rfl, hb2⟩; have hQ2 := hQ0.trans (hb2.mono (by simp)); have y0 := box_cell hQ2 0 _ rfl; have y1 := box_cell hQ2 1 _ rfl; have y2 := box_cell hQ2 2 _ rfl; have y3 := box_cell hQ2 3 _ rfl; have y4 := box_cell hQ2 4 _ rfl; have yz := box_size hQ2; have c2 := cell_below (box_old hQ2) c1; have hB2 := lt_of_cell c2; dsimp only)))
    go_ret
    exact ⟨ret_int (by rw [HE.out]; simp), box_old hQ4⟩
  cases b2
  · go_enter Try.func63, Try.ntmps63
    go_wp2_with (first | (go_at_call 56; have hprev := hb4; go_must ((with_reducible refine (B2.out _ _ ?_ ?_).mono ?_); (simp); (simp); rintro e w5 ⟨rfl, hb5⟩; have hQ5 := (hQ4.alloc (by have := hQ4.size; simp at this ⊢; omega) (.cells #[.int .i64 lo, .int .i64 hi] 3)).trans (hb5.mono (by have := hQ4.size; simp at this ⊢; omega)); have q0 := box_cell hQ5 0 _ rfl; have q1 := box_cell hQ5 1 _ rfl; have q2 := box_cell hQ5 2 _ rfl; have q3 := box_cell hQ5 3 _ rfl; have q4 := box_cell hQ5 4 _ rfl; have qz := box_size hQ5; dsimp only)) | (go_at_call 56; have hprev := hb3; go_must ((with_reducible refine (B1.out _ _ ?_).mono ?_); (simp); rintro e w4 ⟨rfl, hb4⟩; have hQ4 := (hQ3.alloc (by have := hQ3.size; simp at this ⊢; omega) (.cells #[.int .i64 kind] 3)).trans (hb4.mono (by have := hQ3.size; simp at this ⊢; omega)); have p0 := box_cell hQ4 0 _ rfl; have p1 := box_cell hQ4 1 _ rfl; have p2 := box_cell hQ4 2 _ rfl; have p3 := box_cell hQ4 3 _ rfl; have p4 := box_cell hQ4 4 _ rfl; have pz := box_size hQ4; dsimp only)) | (go_at_call 64; go_must ((with_reducible refine (K.out _ (box_old hQ2) _ y0).mono ?_); rintro e w3 ⟨rfl, hb3⟩; have hQ3 := hQ2.trans (hb3.mono (by have := hQ2.size; simp at this; omega)); have z0 := box_cell hQ3 0 _ rfl; have z1 := box_cell hQ3 1 _ rfl; have z2 := box_cell hQ3 2 _ rfl; have z3 := box_cell hQ3 3 _ rfl; have z4 := box_cell hQ3 4 _ rfl; have zz := box_size hQ3; dsimp only)) | (go_at_call 59; go_must ((with_reducible refine (N.out _).mono ?_); rintro e w2 ⟨rfl, hb2⟩; have hQ2 := hQ0.trans (hb2.mono (by simp)); have y0 := box_cell hQ2 0 _ rfl; have y1 := box_cell hQ2 1 _ rfl; have y2 := box_cell hQ2 2 _ rfl; have y3 := box_cell hQ2 3 _ rfl; have y4 := box_cell hQ2 4 _ rfl; have yz := box_size hQ2; have c2 := cell_below (box_old hQ2) c1; have hB2 := lt_of_cell c2; dsimp only)))
    go_ret
    exact ⟨ret_int (by rw [HE.out]; simp), box_old hQ5⟩
  cases b3
  · go_enter Try.func63, Try.ntmps63
    go_wp2_with (first | (go_at_call 56; have hprev := hb5; go_must ((with_reducible refine (B3.out _ _ ?_).mono ?_); (simp); rintro e w6 ⟨rfl, hb6⟩; have hQ6 := (hQ5.alloc (by have := hQ5.size; simp at this ⊢; omega) (.cells #[.int .i64 ship] 3)).trans (hb6.mono (by have := hQ5.size; simp at this ⊢; omega)); have r0 := box_cell hQ6 0 _ rfl; have r1 := box_cell hQ6 1 _ rfl; have r2 := box_cell hQ6 2 _ rfl; have r3 := box_cell hQ6 3 _ rfl; have r4 := box_cell hQ6 4 _ rfl; have rz := box_size hQ6; dsimp only)) | (go_at_call 56; have hprev := hb4; go_must ((with_reducible refine (B2.out _ _ ?_ ?_).mono ?_); (simp); (simp); rintro e w5 ⟨rfl, hb5⟩; have hQ5 := (hQ4.alloc (by have := hQ4.size; simp at this ⊢; omega) (.cells #[.int .i64 lo, .int .i64 hi] 3)).trans (hb5.mono (by have := hQ4.size; simp at this ⊢; omega)); have q0 := box_cell hQ5 0 _ rfl; have q1 := box_cell hQ5 1 _ rfl; have q2 := box_cell hQ5 2 _ rfl; have q3 := box_cell hQ5 3 _ rfl; have q4 := box_cell hQ5 4 _ rfl; have qz := box_size hQ5; dsimp only)) | (go_at_call 56; have hprev := hb3; go_must ((with_reducible refine (B1.out _ _ ?_).mono ?_); (simp); rintro e w4 ⟨rfl, hb4⟩; have hQ4 := (hQ3.alloc (by have := hQ3.size; simp at this ⊢; omega) (.cells #[.int .i64 kind] 3)).trans (hb4.mono (by have := hQ3.size; simp at this ⊢; omega)); have p0 := box_cell hQ4 0 _ rfl; have p1 := box_cell hQ4 1 _ rfl; have p2 := box_cell hQ4 2 _ rfl; have p3 := box_cell hQ4 3 _ rfl; have p4 := box_cell hQ4 4 _ rfl; have pz := box_size hQ4; dsimp only)) | (go_at_call 64; go_must ((with_reducible refine (K.out _ (box_old hQ2) _ y0).mono ?_); rintro e w3 ⟨rfl, hb3⟩; have hQ3 := hQ2.trans (hb3.mono (by have := hQ2.size; simp at this; omega)); have z0 := box_cell hQ3 0 _ rfl; have z1 := box_cell hQ3 1 _ rfl; have z2 := box_cell hQ3 2 _ rfl; have z3 := box_cell hQ3 3 _ rfl; have z4 := box_cell hQ3 4 _ rfl; have zz := box_size hQ3; dsimp only)) | (go_at_call 59; go_must ((with_reducible refine (N.out _).mono ?_); rintro e w2 ⟨rfl, hb2⟩; have hQ2 := hQ0.trans (hb2.mono (by simp)); have y0 := box_cell hQ2 0 _ rfl; have y1 := box_cell hQ2 1 _ rfl; have y2 := box_cell hQ2 2 _ rfl; have y3 := box_cell hQ2 3 _ rfl; have y4 := box_cell hQ2 4 _ rfl; have yz := box_size hQ2; have c2 := cell_below (box_old hQ2) c1; have hB2 := lt_of_cell c2; dsimp only)))
    go_ret
    exact ⟨ret_int (by rw [HE.out]; simp), box_old hQ6⟩
  by_cases hlt : hi < lo
  all_goals
    go_enter Try.func63, Try.ntmps63
    go_wp2_with (first | (go_at_call 56; have hprev := hb5; go_must ((with_reducible refine (B3.out _ _ ?_).mono ?_); (simp); rintro e w6 ⟨rfl, hb6⟩; have hQ6 := (hQ5.alloc (by have := hQ5.size; simp at this ⊢; omega) (.cells #[.int .i64 ship] 3)).trans (hb6.mono (by have := hQ5.size; simp at this ⊢; omega)); have r0 := box_cell hQ6 0 _ rfl; have r1 := box_cell hQ6 1 _ rfl; have r2 := box_cell hQ6 2 _ rfl; have r3 := box_cell hQ6 3 _ rfl; have r4 := box_cell hQ6 4 _ rfl; have rz := box_size hQ6; dsimp only)) | (go_at_call 56; have hprev := hb4; go_must ((with_reducible refine (B2.out _ _ ?_ ?_).mono ?_); (simp); (simp); rintro e w5 ⟨rfl, hb5⟩; have hQ5 := (hQ4.alloc (by have := hQ4.size; simp at this ⊢; omega) (.cells #[.int .i64 lo, .int .i64 hi] 3)).trans (hb5.mono (by have := hQ4.size; simp at this ⊢; omega)); have q0 := box_cell hQ5 0 _ rfl; have q1 := box_cell hQ5 1 _ rfl; have q2 := box_cell hQ5 2 _ rfl; have q3 := box_cell hQ5 3 _ rfl; have q4 := box_cell hQ5 4 _ rfl; have qz := box_size hQ5; dsimp only)) | (go_at_call 56; have hprev := hb3; go_must ((with_reducible refine (B1.out _ _ ?_).mono ?_); (simp); rintro e w4 ⟨rfl, hb4⟩; have hQ4 := (hQ3.alloc (by have := hQ3.size; simp at this ⊢; omega) (.cells #[.int .i64 kind] 3)).trans (hb4.mono (by have := hQ3.size; simp at this ⊢; omega)); have p0 := box_cell hQ4 0 _ rfl; have p1 := box_cell hQ4 1 _ rfl; have p2 := box_cell hQ4 2 _ rfl; have p3 := box_cell hQ4 3 _ rfl; have p4 := box_cell hQ4 4 _ rfl; have pz := box_size hQ4; dsimp only)) | (go_at_call 64; go_must ((with_reducible refine (K.out _ (box_old hQ2) _ y0).mono ?_); rintro e w3 ⟨rfl, hb3⟩; have hQ3 := hQ2.trans (hb3.mono (by have := hQ2.size; simp at this; omega)); have z0 := box_cell hQ3 0 _ rfl; have z1 := box_cell hQ3 1 _ rfl; have z2 := box_cell hQ3 2 _ rfl; have z3 := box_cell hQ3 3 _ rfl; have z4 := box_cell hQ3 4 _ rfl; have zz := box_size hQ3; dsimp only)) | (go_at_call 59; go_must ((with_reducible refine (N.out _).mono ?_); rintro e w2 ⟨rfl, hb2⟩; have hQ2 := hQ0.trans (hb2.mono (by simp)); have y0 := box_cell hQ2 0 _ rfl; have y1 := box_cell hQ2 1 _ rfl; have y2 := box_cell hQ2 2 _ rfl; have y3 := box_cell hQ2 3 _ rfl; have y4 := box_cell hQ2 4 _ rfl; have yz := box_size hQ2; have c2 := cell_below (box_old hQ2) c1; have hB2 := lt_of_cell c2; dsimp only)))
    go_ret
    exact ⟨ret_int (by rw [HE.out]; simp [hlt]), box_old hQ6⟩

end Go.Proofs.Ytchnpekgmkhacaa
