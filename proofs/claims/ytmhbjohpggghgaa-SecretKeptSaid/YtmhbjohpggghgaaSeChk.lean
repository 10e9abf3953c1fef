/- What is proved here: contracts of the program's Check of layer 12: its closures. Conditions: the room lies in memory. -/
import Derived.Test.YtmhbjohpggghgaaSeSame
import Derived.Test.YtmhbjohpggghgaaSeFew
set_option linter.unusedVariables false
set_option linter.unusedSimpArgs false
namespace Go.Proofs.Ytmhbjohpggghgaa
open Go Go.RowKit

theorem SOffTwo_any (x y lo hi : Int) (a : Nat) (w : World) (h : w.cell? ⟨a, 0, none⟩ = some (.int .i64 x)) (h2 : w.cell? ⟨a, 1, none⟩ = some (.int .i64 y)) :
    Calls Try.prog 60 #[.int .i64 lo, .int .i64 hi, .slice (some ⟨a, 0, none⟩) 2 2] w fun e w' => e = .returned (.bool (!(inB x lo hi && inB y lo hi))) ∧ Below w.heap.size w w' := by
  have := MBeyond_any (some ⟨a, 0, none⟩) [x, y] 2 lo hi w (by simp) (fun i hi => by
    have e : i = 0 ∨ i = 1 := (by simp at hi; omega)
    rcases e with rfl | rfl
    · exact ⟨a, 0, rfl, lt_of_cell h, by simpa using h⟩
    · exact ⟨a, 0, rfl, lt_of_cell h, by simpa using h2⟩)
  simpa [outB_eq, Bool.not_and] using this

set_option maxHeartbeats 1000000 in
theorem SChk1_any (aw : Option Addr) (l : List ByteArray) (cw : Nat) (i B : Nat) (w : World) (ho : SlOk aw l.length cw) (hm : StrsC w aw l) (hs : ∀ s ∈ l, s.size ≤ 9223372036854775807) (hi : i < l.length) (c0 : w.cell? ⟨B, 0, none⟩ = some (.slice aw l.length cw)) :
    Calls Try.prog 55 #[.int .i64 i, .string l[i], .pointer (some ⟨B, 0, none⟩)] w fun e w' => e = .returned (.int .i64 (fresh l[i] (l.take i))) ∧ Below w.heap.size w w' := by
  have l1 := ho.len
  have HE : Hid (fresh l[i] (l.take i) = if nameB l[i] then (if hasS (l.take i) l[i] then 5 else 0) else 6) := rfl
  have hsz := hs _ (List.getElem_mem hi)
  obtain ⟨b, off, rfl, hb, _⟩ := hm i hi
  have hso := ho.1
  have N := Lib.hid (EarName_any l[i] w hsz)
  have hti : (l.take i).length = i := by rw [List.length_take]; omega
  have K := Lib.hid (fun (W : World) (h : Below w.heap.size w W) => (show Calls Try.prog 57 #[.slice (some ⟨b, off, none⟩) i cw, .string l[i]] W fun e w' => e = .returned (.bool (hasS (l.take i) l[i])) ∧ w' = W from by
    have := ContainsS_any (some ⟨b, off, none⟩) (l.take i) cw l[i] W (by omega) ((hm.mono h).take i)
    rw [hti] at this
    exact this))
  generalize fresh l[i] (l.take i) = r at HE ⊢
  generalize hasS (l.take i) l[i] = h at K HE
  generalize l[i] = s at N K HE hsz
  generalize nameB s = n at N HE
  have hB := lt_of_cell c0
  cases n
  · go_enter Try.func55, Try.ntmps55
    go_wp2_with (go_at_call 56; go_must (refine N.out.mono ?_; rintro e w2 ⟨rfl, hb2⟩; dsimp only))
    go_ret
    exact ⟨ret_int (by rw [HE.out]; simp), hb2⟩
  · cases h
    all_goals
      go_enter Try.func55, Try.ntmps55
      go_wp2_with (first
        | (go_at_call 57; go_must (refine (K.out _ hb2).mono ?_; rintro e w3 ⟨rfl, hw3⟩; obtain rfl := hw3.symm; dsimp only))
        | (go_at_call 56; go_must (refine N.out.mono ?_; rintro e w2 ⟨rfl, hb2⟩; have c2 := cell_below hb2 c0; have hB2 := lt_of_cell c2; dsimp only)))
      go_ret
      exact ⟨ret_int (by rw [HE.out]; simp), hb2⟩

set_option maxHeartbeats 1000000 in
theorem SChk2_any (i p N : Nat) (x : Int) (w : World) (hN : N ≤ 4) (c0 : w.cell? ⟨p, 0, none⟩ = some (.int .i64 (N : Int))) :
    Calls Try.prog 59 #[.int .i64 i, .int .i64 x, .pointer (some ⟨p, 0, none⟩)] w fun e w' => e = .returned (.int .i64 (if inB x 0 (allBits N) then 0 else 4)) ∧ Below w.heap.size w w' := by
  obtain ⟨r, hr⟩ : ∃ r : Int, r = if inB x 0 (allBits N) then 0 else 4 := ⟨_, rfl⟩
  rw [← hr]
  have HE := Lib.hid hr
  clear hr
  have hp := lt_of_cell c0
  have hpw := two_pow_wrap N (by omega)
  have B1 := fun (a : Nat) (W : World) h => MBeyondOne_any x 0 (allBits N) a W h
  have e1 : ((2 ^ N : Nat) : Int) - 1 = allBits N := by unfold allBits; simp
  have h16 : ((2 ^ N : Nat) : Int) ≤ 64 ∧ 0 < ((2 ^ N : Nat) : Int) := by have := two_pow_le N (by omega); have := Nat.two_pow_pos N; omega
  generalize allBits N = M at B1 HE e1
  generalize inB x 0 M = b1 at B1 HE
  have B1 := Lib.hid B1
  generalize ((2 ^ N : Nat) : Int) = Q at hpw e1 h16
  have e2 : M = Q - 1 := e1.symm
  subst e2
  cases b1
  all_goals
    go_enter Try.func59, Try.ntmps59
    go_wp2_with (go_at_call 60; go_must (simp only [hpw]; refine (B1.out _ _ ?_).mono ?_; (simp); rintro e w2 ⟨rfl, hb2⟩; dsimp only))
    go_ret
    exact ⟨ret_int (by rw [HE.out]; simp), ((Below.refl _ w).alloc (Nat.le_refl _) _).trans (hb2.mono (by simp))⟩

set_option maxRecDepth 100000 in
set_option maxHeartbeats 2000000 in
theorem SChk3_any (a1 a2 a3 a4 a5 : Option Addr) (k1 k2 k3 k4 k5 : Nat) (r : SeRoom) (i p B : Nat) (w : World) (hm : RoomC w a1 a2 a3 a4 a5 k1 k2 k3 k4 k5 r) (hi : i < r.leaks.length) (hN : r.writers.length ≤ 4) (c0 : w.cell? ⟨p, 0, none⟩ = some (.int .i64 (r.writers.length : Int))) (c1 : w.cell? ⟨B, 2, none⟩ = some (.slice a3 r.leaks.length k3)) :
    Calls Try.prog 62 #[.int .i64 i, .agg #[.int .i64 r.leaks[i].src, .int .i64 r.leaks[i].dst, .bool r.leaks[i].sure], .pointer (some ⟨p, 0, none⟩), .pointer (some ⟨B, 0, none⟩)] w fun e w' => e = .returned (.int .i64 (leakErr r i)) ∧ Below w.heap.size w w' := by
  have l3 := hm.ok3.len
  have l3c := hm.ok3.1
  have HE : Hid (leakErr r i = leakErrOf r i r.leaks[i]) := by show leakErr r i = _; unfold leakErr; rw [List.getElem?_eq_getElem hi]
  generalize leakErr r i = er at HE ⊢
  generalize r.leaks[i] = x at HE ⊢
  obtain ⟨src, dst, sure⟩ := x
  unfold leakErrOf at HE
  simp only at HE ⊢
  generalize hNN : (r.writers.length : Int) = N at c0
  have hN2 : N ≤ 4 ∧ 0 ≤ N := by omega
  have B2 := fun (a : Nat) (W : World) h h2 => SOffTwo_any src dst 0 (N - 1) a W h h2
  have hw : (inB src 0 (N - 1) && inB dst 0 (N - 1)) = (seWho r src && seWho r dst) := by unfold seWho; rw [hNN]
  rw [hw] at B2
  clear hw hNN
  obtain ⟨b, off, rfl, hb, _⟩ := hm.leaks i hi
  have hti : (r.leaks.take i).length = i := by rw [List.length_take]; omega
  have K := fun (W : World) (h : Below w.heap.size w W) (p : Nat) h0 h1 => (show Calls Try.prog 63 #[.slice (some ⟨b, off, none⟩) i k3, .func (.func 64) #[] #[.pointer (some ⟨p, 0, none⟩)]] W fun e w' => e = .returned (.bool ((r.leaks.take i).any fun y => decide (y.src = src) && decide (y.dst = dst))) ∧ Below W.heap.size W w' from by
    have := SContainsL_any (some ⟨b, off, none⟩) (r.leaks.take i) k3 src dst p W (by omega) ((hm.mono h).leaks.take i) h0 h1
    rw [hti] at this
    exact this)
  generalize (seWho r src && seWho r dst) = b1 at B2 HE
  generalize ((r.leaks.take i).any fun y => decide (y.src = src) && decide (y.dst = dst)) = b2 at K HE
  have B2 := Lib.hid B2
  have K := Lib.hid K
  have hB := lt_of_cell c1
  have hp := lt_of_cell c0
  have hQ0 := Below.refl (w.heap.size + 1) (w.alloc (.cells #[.int .i64 src, .int .i64 dst, .bool sure] 79))
  cases b1
  · go_enter Try.func62, Try.ntmps62
    go_wp2_with (go_at_call 60; go_must (refine (B2.out _ _ ?_ ?_).mono ?_; (simp); (simp); rintro e w2 ⟨rfl, hb2⟩; dsimp only))
    go_ret
    exact ⟨ret_int (by rw [HE.out]; simp), (((Below.refl _ w).alloc (Nat.le_refl _) _).alloc (by simp) _).trans (hb2.mono (by simp; omega))⟩
  · by_cases he : src = dst
    · have e2 := eqi_t he
      replace HE := Lib.hid (show er = 2 by rw [HE.out]; simp [he])
      clear he
      go_enter Try.func62, Try.ntmps62
      go_wp2_with (go_at_call 60; go_must (refine (B2.out _ _ ?_ ?_).mono ?_; (simp); (simp); rintro e w2 ⟨rfl, hb2⟩; have hQ := (hQ0.alloc (by simp) (.cells #[.int .i64 src, .int .i64 dst] 3)).trans (hb2.mono (by simp)); have x0 := box_cell hQ 0 _ rfl; have x1 := box_cell hQ 1 _ rfl; have x2 := lt_of_cell x0; dsimp only))
      go_ret
      exact ⟨ret_int (by rw [HE.out]), box_old hQ⟩
    · have e2 := eqi_f he
      replace HE := Lib.hid (show er = if b2 then 5 else 0 by rw [HE.out]; simp [he])
      clear he
      cases b2
      all_goals
        go_enter Try.func62, Try.ntmps62
        go_wp2_with (first
          | (go_at_call 63; go_must (refine (K.out _ (box_old hQ) _ x0 x1).mono ?_; rintro e w3 ⟨rfl, hb3⟩; dsimp only))
          | (go_at_call 60; go_must (refine (B2.out _ _ ?_ ?_).mono ?_; (simp); (simp); rintro e w2 ⟨rfl, hb2⟩; have hQ := (hQ0.alloc (by simp) (.cells #[.int .i64 src, .int .i64 dst] 3)).trans (hb2.mono (by simp)); have x0 := box_cell hQ 0 _ rfl; have x1 := box_cell hQ 1 _ rfl; have x2 := lt_of_cell x0; have d1 := cell_below (box_old hQ) c1; have d2 := lt_of_cell d1; dsimp only)))
        go_ret
        exact ⟨ret_int (by rw [HE.out]; simp), (box_old hQ).trans (hb3.mono (box_old hQ).size)⟩
end Go.Proofs.Ytmhbjohpggghgaa
