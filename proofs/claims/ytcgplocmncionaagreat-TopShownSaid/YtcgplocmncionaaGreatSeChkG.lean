/- What is proved here: contracts of the program's Check of layer 12: its closures. Conditions: the room lies in memory. -/
/- What is proved here: contracts of the program's Check of layer 12: its fourth closure. Conditions: the room lies in memory. -/
import Derived.Test.YtcgplocmncionaaGreatSeFailG
import Derived.Test.YtcgplocmncionaaGreatSeFew
set_option linter.unusedVariables false
set_option linter.unusedSimpArgs false
namespace Go.Proofs.YtcgplocmncionaaGreat
open Go Go.RowKit

theorem SOffTwo_any (x y lo hi : Int) (a : Nat) (w : World) (h : w.cell? ⟨a, 0, none⟩ = some (.int .i64 x)) (h2 : w.cell? ⟨a, 1, none⟩ = some (.int .i64 y)) :
    Calls Tryz.prog 22 #[.int .i64 lo, .int .i64 hi, .slice (some ⟨a, 0, none⟩) 2 2] w fun e w' => e = .returned (.bool (!(inB x lo hi && inB y lo hi))) ∧ Below w.heap.size w w' := by
  have := MBeyond_any (some ⟨a, 0, none⟩) [x, y] 2 lo hi w (by simp) (fun i hi => by
    have e : i = 0 ∨ i = 1 := (by simp at hi; omega)
    rcases e with rfl | rfl
    · exact ⟨a, 0, rfl, lt_of_cell h, by simpa using h⟩
    · exact ⟨a, 0, rfl, lt_of_cell h, by simpa using h2⟩)
  simpa [outB_eq, Bool.not_and] using this

set_option maxHeartbeats 1000000 in
theorem SChk1_any (aw : Option Addr) (l : List ByteArray) (cw : Nat) (i B : Nat) (w : World) (ho : SlOk aw l.length cw) (hm : StrsC w aw l) (hs : ∀ s ∈ l, s.size ≤ 9223372036854775807) (hi : i < l.length) (c0 : w.cell? ⟨B, 0, none⟩ = some (.slice aw l.length cw)) :
    Calls Tryz.prog 82 #[.int .i64 i, .string l[i], .pointer (some ⟨B, 0, none⟩)] w fun e w' => e = .returned (.int .i64 (fresh l[i] (l.take i))) ∧ Below w.heap.size w w' := by
  have l1 := ho.len
  have HE : Hid (fresh l[i] (l.take i) = if nameB l[i] then (if hasS (l.take i) l[i] then 5 else 0) else 6) := rfl
  have hsz := hs _ (List.getElem_mem hi)
  obtain ⟨b, off, rfl, hb, _⟩ := hm i hi
  have hso := ho.1
  have N := Lib.hid (EarName_any l[i] w hsz)
  have hti : (l.take i).length = i := by rw [List.length_take]; omega
  have K := Lib.hid (fun (W : World) (h : Below w.heap.size w W) => (show Calls Tryz.prog 84 #[.slice (some ⟨b, off, none⟩) i cw, .string l[i]] W fun e w' => e = .returned (.bool (hasS (l.take i) l[i])) ∧ w' = W from by
    have := ContainsS_any (some ⟨b, off, none⟩) (l.take i) cw l[i] W (by omega) ((hm.mono h).take i)
    rw [hti] at this
    exact this))
  generalize fresh l[i] (l.take i) = r at HE ⊢
  generalize hasS (l.take i) l[i] = h at K HE
  generalize l[i] = s at N K HE hsz
  generalize nameB s = n at N HE
  have hB := lt_of_cell c0
  cases n
  · go_enter Tryz.func82, Tryz.ntmps82
    go_wp2_with (go_at_call 83; go_must (refine N.out.mono ?_; rintro e w2 ⟨rfl, hb2⟩; dsimp only))
    go_ret
    exact ⟨ret_int (by rw [HE.out]; simp), hb2⟩
  · cases h
    all_goals
      go_enter Tryz.func82, Tryz.ntmps82
      go_wp2_with (first
        | (go_at_call 84; go_must (refine (K.out _ hb2).mono ?_; rintro e w3 ⟨rfl, hw3⟩; obtain rfl := hw3.symm; dsimp only))
        | (go_at_call 83; go_must (refine N.out.mono ?_; rintro e w2 ⟨rfl, hb2⟩; have c2 := cell_below hb2 c0; have hB2 := lt_of_cell c2; dsimp only)))
      go_ret
      exact ⟨ret_int (by rw [HE.out]; simp), hb2⟩

set_option maxHeartbeats 1000000 in
theorem SChk2_any (i p N : Nat) (x : Int) (w : World) (hN : N ≤ 4) (c0 : w.cell? ⟨p, 0, none⟩ = some (.int .i64 (N : Int))) :
    Calls Tryz.prog 86 #[.int .i64 i, .int .i64 x, .pointer (some ⟨p, 0, none⟩)] w fun e w' => e = .returned (.int .i64 (if inB x 0 (allBits N) then 0 else 4)) ∧ Below w.heap.size w w' := by
  obtain ⟨r, hr⟩ : ∃ r : Int, r = if inB x 0 (allBits N) then 0 else 4 := ⟨_, rfl⟩
  rw [← hr]
  have HE := Lib.hid hr
  clear hr
  have hp := lt_of_cell c0
  have hpw := two_pow_wrap N (by omega)
  have B1 := fun (a : Nat) (W : World) h => MBeyondOne_any x 0 (allBits N) a W h
  have e1 : ((2 ^ N : Nat) : Int) - 1 = allBits N := by unfold allBits; simp
  have h16 : ((2 ^ N : Nat) : Int) ≤ 64 ∧ 0 < ((2 ^ N : Nat) : Int) := by have := two_pow_le N (by omega); have := Nat.two_pow_pos N; omega
  generalize allBits N = M at B1 HE e1
  generalize inB x 0 M = b1 at B1 HE
  have B1 := Lib.hid B1
  generalize ((2 ^ N : Nat) : Int) = Q at hpw e1 h16
  have e2 : M = Q - 1 := e1.symm
  subst e2
  cases b1
  all_goals
    go_enter Tryz.func86, Tryz.ntmps86
    go_wp2_with (go_at_call 22; go_must (simp only [hpw]; refine (B1.out _ _ ?_).mono ?_; (simp); rintro e w2 ⟨rfl, hb2⟩; dsimp only))
    go_ret
    exact ⟨ret_int (by rw [HE.out]; simp), ((Below.refl _ w).alloc (Nat.le_refl _) _).trans (hb2.mono (by simp))⟩

set_option maxRecDepth 100000 in
set_option maxHeartbeats 2000000 in
theorem SChk3_any (a1 a2 a3 a4 a5 : Option Addr) (k1 k2 k3 k4 k5 : Nat) (r : SeRoom) (i p B : Nat) (w : World) (hm : RoomC w a1 a2 a3 a4 a5 k1 k2 k3 k4 k5 r) (hi : i < r.leaks.length) (hN : r.writers.length ≤ 4) (c0 : w.cell? ⟨p, 0, none⟩ = some (.int .i64 (r.writers.length : Int))) (c1 : w.cell? ⟨B, 2, none⟩ = some (.slice a3 r.leaks.length k3)) :
    Calls Tryz.prog 88 #[.int .i64 i, .agg #[.int .i64 r.leaks[i].src, .int .i64 r.leaks[i].dst, .bool r.leaks[i].sure], .pointer (some ⟨p, 0, none⟩), .pointer (some ⟨B, 0, none⟩)] w fun e w' => e = .returned (.int .i64 (leakErr r i)) ∧ Below w.heap.size w w' := by
  have l3 := hm.ok3.len
  have l3c := hm.ok3.1
  have HE : Hid (leakErr r i = leakErrOf r i r.leaks[i]) := by show leakErr r i = _; unfold leakErr; rw [List.getElem?_eq_getElem hi]
  generalize leakErr r i = er at HE ⊢
  generalize r.leaks[i] = x at HE ⊢
  obtain ⟨src, dst, sure⟩ := x
  unfold leakErrOf at HE
  simp only at HE ⊢
  generalize hNN : (r.writers.length : Int) = N at c0
  have hN2 : N ≤ 4 ∧ 0 ≤ N := by omega
  have B2 := fun (a : Nat) (W : World) h h2 => SOffTwo_any src dst 0 (N - 1) a W h h2
  have hw : (inB src 0 (N - 1) && inB dst 0 (N - 1)) = (seWho r src && seWho r dst) := by unfold seWho; rw [hNN]
  rw [hw] at B2
  clear hw hNN
  obtain ⟨b, off, rfl, hb, _⟩ := hm.leaks i hi
  have hti : (r.leaks.take i).length = i := by rw [List.length_take]; omega
  have K := fun (W : World) (h : Below w.heap.size w W) (p : Nat) h0 h1 => (show Calls Tryz.prog 89 #[.slice (some ⟨b, off, none⟩) i k3, .func (.func 90) #[] #[.pointer (some ⟨p, 0, none⟩)]] W fun e w' => e = .returned (.bool ((r.leaks.take i).any fun y => decide (y.src = src) && decide (y.dst = dst))) ∧ Below W.heap.size W w' from by
    have := SContainsL_any (some ⟨b, off, none⟩) (r.leaks.take i) k3 src dst p W (by omega) ((hm.mono h).leaks.take i) h0 h1
    rw [hti] at this
    exact this)
  generalize (seWho r src && seWho r dst) = b1 at B2 HE
  generalize ((r.leaks.take i).any fun y => decide (y.src = src) && decide (y.dst = dst)) = b2 at K HE
  have B2 := Lib.hid B2
  have K := Lib.hid K
  have hB := lt_of_cell c1
  have hp := lt_of_cell c0
  have hQ0 := Below.refl (w.heap.size + 1) (w.alloc (.cells #[.int .i64 src, .int .i64 dst, .bool sure] 37))
  cases b1
  · go_enter Tryz.func88, Tryz.ntmps88
    go_wp2_with (go_at_call 22; go_must (refine (B2.out _ _ ?_ ?_).mono ?_; (simp); (simp); rintro e w2 ⟨rfl, hb2⟩; dsimp only))
    go_ret
    exact ⟨ret_int (by rw [HE.out]; simp), (((Below.refl _ w).alloc (Nat.le_refl _) _).alloc (by simp) _).trans (hb2.mono (by simp; omega))⟩
  · by_cases he : src = dst
    · have e2 := eqi_t he
      replace HE := Lib.hid (show er = 2 by rw [HE.out]; simp [he])
      clear he
      go_enter Tryz.func88, Tryz.ntmps88
      go_wp2_with (go_at_call 22; go_must (refine (B2.out _ _ ?_ ?_).mono ?_; (simp); (simp); rintro e w2 ⟨rfl, hb2⟩; have hQ := (hQ0.alloc (by simp) (.cells #[.int .i64 src, .int .i64 dst] 3)).trans (hb2.mono (by simp)); have x0 := box_cell hQ 0 _ rfl; have x1 := box_cell hQ 1 _ rfl; have x2 := lt_of_cell x0; dsimp only))
      go_ret
      exact ⟨ret_int (by rw [HE.out]), box_old hQ⟩
    · have e2 := eqi_f he
      replace HE := Lib.hid (show er = if b2 then 5 else 0 by rw [HE.out]; simp [he])
      clear he
      cases b2
      all_goals
        go_enter Tryz.func88, Tryz.ntmps88
        go_wp2_with (first
          | (go_at_call 89; go_must (refine (K.out _ (box_old hQ) _ x0 x1).mono ?_; rintro e w3 ⟨rfl, hb3⟩; dsimp only))
          | (go_at_call 22; go_must (refine (B2.out _ _ ?_ ?_).mono ?_; (simp); (simp); rintro e w2 ⟨rfl, hb2⟩; have hQ := (hQ0.alloc (by simp) (.cells #[.int .i64 src, .int .i64 dst] 3)).trans (hb2.mono (by simp)); have x0 := box_cell hQ 0 _ rfl; have x1 := box_cell hQ 1 _ rfl; have x2 := lt_of_cell x0; have d1 := cell_below (box_old hQ) c1; have d2 := lt_of_cell d1; dsimp only)))
        go_ret
        exact ⟨ret_int (by rw [HE.out]; simp), (box_old hQ).trans (hb3.mono (box_old hQ).size)⟩
end Go.Proofs.YtcgplocmncionaaGreat
namespace Go.Proofs.YtcgplocmncionaaGreat
open Go Go.RowKit

theorem bits_of : ∀ n : Nat, n ≤ 4 → IntKind.i64.wrap (IntKind.i64.wrap (2 ^ n) - 1) = allBits n := by decide
set_option maxRecDepth 100000 in
set_option maxHeartbeats 400000 in
theorem SChk4_any (a1 a2 a3 a4 a5 : Option Addr) (k1 k2 k3 k4 k5 : Nat) (r : SeRoom) (i p q B : Nat) (w : World) (hm : RoomC w a1 a2 a3 a4 a5 k1 k2 k3 k4 k5 r) (hi : i < r.letters.length) (hN : r.writers.length ≤ 4) (hK3 : r.kept.length ≤ 3) (c0 : w.cell? ⟨p, 0, none⟩ = some (.int .i64 (r.kept.length : Int))) (c1 : w.cell? ⟨q, 0, none⟩ = some (.int .i64 (r.writers.length : Int))) (c2 : w.cell? ⟨B, 3, none⟩ = some (.slice a4 r.letters.length k4)) :
    Calls Tryz.prog 92 #[.int .i64 i, .agg #[.int .i64 r.letters[i].day, .int .i64 r.letters[i].secrets, .int .i64 r.letters[i].writer], .pointer (some ⟨p, 0, none⟩), .pointer (some ⟨q, 0, none⟩), .pointer (some ⟨B, 0, none⟩)] w fun e w' => e = .returned (.int .i64 (letterErr r i)) ∧ Below w.heap.size w w' := by
  have l3 := hm.ok4.len
  have l3c := hm.ok4.1
  have HE : Hid (letterErr r i = letterErrOf r i r.letters[i]) := by show letterErr r i = _; unfold letterErr; rw [List.getElem?_eq_getElem hi]
  generalize letterErr r i = er at HE ⊢
  generalize r.letters[i] = x at HE ⊢
  obtain ⟨day, secrets, wr⟩ := x
  unfold letterErrOf at HE
  simp only at HE ⊢
  obtain ⟨b, off, rfl, hb, _⟩ := hm.letters i hi
  have hti : (r.letters.take i).length = i := by rw [List.length_take]; omega
  have K := fun (W : World) (h : Below w.heap.size w W) (p : Nat) h0 h1 => (show Calls Tryz.prog 93 #[.slice (some ⟨b, off, none⟩) i k4, .func (.func 94) #[] #[.pointer (some ⟨p, 0, none⟩)]] W fun e w' => e = .returned (.bool ((r.letters.take i).any fun y => decide (y.writer = wr) && decide (y.day = day))) ∧ Below W.heap.size W w' from by
    have := SContainsT_any (some ⟨b, off, none⟩) (r.letters.take i) k4 wr day p W (by omega) ((hm.mono h).letters.take i) h0 h1
    rw [hti] at this
    exact this)
  obtain ⟨hh, hhh⟩ : ∃ hh, hh = (r.letters.take i).any fun y => decide (y.writer = wr) && decide (y.day = day) := ⟨_, rfl⟩
  rw [← hhh] at K HE
  clear hhh
  have i9 : (i : Int) ≤ r.letters.length := by omega
  have i8 : (i : Int) ≤ k4 := by omega
  have B0 := fun (a : Nat) (W : World) h => MBeyondOne_any day 0 9 a W h
  have B1 := fun (a : Nat) (W : World) h => MBeyondOne_any secrets 0 (IntKind.i64.wrap (IntKind.i64.wrap (2 ^ r.kept.length) - 1)) a W h
  have B2 := fun (a : Nat) (W : World) h => MBeyondOne_any wr (-1) ((r.writers.length : Int) - 1) a W h
  have hA : inB secrets 0 (IntKind.i64.wrap (IntKind.i64.wrap (2 ^ r.kept.length) - 1)) = inB secrets 0 (allBits r.kept.length) := by rw [bits_of r.kept.length (by omega)]
  rw [hA] at B1
  clear hA
  generalize inB day 0 9 = db at B0 HE
  generalize inB secrets 0 (allBits r.kept.length) = sb at B1 HE
  generalize inB wr (-1) ((r.writers.length : Int) - 1) = wb at B2 HE
  have hb4 : (r.kept.length : Int) < 4 := by omega
  generalize hKN : (r.kept.length : Int) = KN at c0 hb4
  have hKN0 : 0 ≤ KN := by omega
  have eKN : IntKind.i64.wrap (2 ^ r.kept.length) = IntKind.i64.wrap (2 ^ KN.toNat) := by rw [← hKN]; simp
  rw [eKN] at B1
  clear eKN hKN
  generalize hNN : (r.writers.length : Int) = N at c1 B2
  have hN2 : N ≤ 4 ∧ 0 ≤ N := by omega
  clear hNN
  have eW : IntKind.i64.wrap (N - 1) = N - 1 := by
    obtain rfl | rfl | rfl | rfl | rfl : N = 0 ∨ N = 1 ∨ N = 2 ∨ N = 3 ∨ N = 4 := by omega
    all_goals decide
  rw [← eW] at B2
  clear eW
  have B0 := Lib.hid B0
  have B1 := Lib.hid B1
  have B2 := Lib.hid B2
  have K := Lib.hid K
  have hp := lt_of_cell c0
  have hq := lt_of_cell c1
  have hB := lt_of_cell c2
  have hQ := Below.refl (w.heap.size + 1) (w.alloc (.cells #[.int .i64 day, .int .i64 secrets, .int .i64 wr] 43))
  have KE : Hid (∀ V, Below (w.heap.size + 1) (w.alloc (.cells #[.int .i64 day, .int .i64 secrets, .int .i64 wr] 43)) V → (fun V => Below (w.heap.size + 1) (w.alloc (.cells #[.int .i64 day, .int .i64 secrets, .int .i64 wr] 43)) V ∧ V.cell? ⟨w.heap.size, 1, none⟩ = some (.int .i64 secrets) ∧ V.cell? ⟨w.heap.size, 2, none⟩ = some (.int .i64 wr) ∧ V.cell? ⟨p, 0, none⟩ = some (.int .i64 KN) ∧ V.cell? ⟨q, 0, none⟩ = some (.int .i64 N) ∧ w.heap.size < V.heap.size ∧ p < V.heap.size ∧ q < V.heap.size) V) := Lib.hid (fun V h => ⟨h, box_cell h 1 _ rfl, box_cell h 2 _ rfl, cell_below (box_old h) c0, cell_below (box_old h) c1, box_size h, lt_of_cell (cell_below (box_old h) c0), lt_of_cell (cell_below (box_old h) c1)⟩)
  cases db
  · go_enter Tryz.func92, Tryz.ntmps92
    go_wp2_with (go_at_call 22; go_must (refine (B0.out _ _ ?_).mono ?_; (simp); rintro e w2 ⟨rfl, hb2⟩; dsimp only))
    go_ret
    exact ⟨ret_int (by rw [HE.out]; simp), (((Below.refl _ w).alloc (Nat.le_refl _) _).alloc (by simp) _).trans (hb2.mono (by simp; omega))⟩
  · go_enter Tryz.func92, Tryz.ntmps92
    go_wp2_with (go_at_call 22; go_must (refine (B0.out _ _ ?_).mono ?_; (simp); rintro e w2 ⟨rfl, hb2⟩; have hQ3 := (hQ.alloc (by simp) (.cells #[.int .i64 day] 3)).trans (hb2.mono (by simp)); dsimp only))
    have hz3 : w.heap.size + 1 ≤ w2.heap.size := by have := hQ3.size; simpa using this
    cases sb
    · apply wp_mid _ (Below (w.heap.size + 1) (w.alloc (.cells #[.int .i64 day, .int .i64 secrets, .int .i64 wr] 43)))
      · refine wp_region_held_drew (S := (fun V => Below (w.heap.size + 1) (w.alloc (.cells #[.int .i64 day, .int .i64 secrets, .int .i64 wr] 43)) V ∧ V.cell? ⟨w.heap.size, 1, none⟩ = some (.int .i64 secrets) ∧ V.cell? ⟨w.heap.size, 2, none⟩ = some (.int .i64 wr) ∧ V.cell? ⟨p, 0, none⟩ = some (.int .i64 KN) ∧ V.cell? ⟨q, 0, none⟩ = some (.int .i64 N) ∧ w.heap.size < V.heap.size ∧ p < V.heap.size ∧ q < V.heap.size)) (by kernel_rfl) (KE.out _ (below_drew' hQ3)) (fun hHeld => ?_)
        ((refine wpAnyH_take (i := 0) (v := ?_) rfl (by kernel_rfl) (by kernel_rfl) (by kernel_rfl) (fun _ _ _ h => h) (Or.inl ⟨by kernel_rfl, ?_⟩) (by assumption) ?_; rotate_left 1; (focus (intro w hSw; (try dsimp only at hSw); go_simp; first | done | with_reducible rfl)); simp only [Act.put, List.getElem_toArray, List.getElem_cons_succ, List.getElem_cons_zero, List.setIfInBounds_toArray, List.set_cons_succ, List.set_cons_zero]); (refine wpAnyH_take (i := 1) (v := ?_) rfl (by kernel_rfl) (by kernel_rfl) (by kernel_rfl) (fun _ _ _ h => h) (Or.inl ⟨by kernel_rfl, ?_⟩) (by assumption) ?_; rotate_left 1; (focus (intro w hSw; (try dsimp only at hSw); go_simp; first | done | with_reducible rfl)); simp only [Act.put, List.getElem_toArray, List.getElem_cons_succ, List.getElem_cons_zero, List.setIfInBounds_toArray, List.set_cons_succ, List.set_cons_zero]); (refine wpAnyH_take (i := 2) (v := ?_) rfl (by kernel_rfl) (by kernel_rfl) (by kernel_rfl) (fun _ _ _ h => h) (Or.inl ⟨by kernel_rfl, ?_⟩) (by assumption) ?_; rotate_left 1; (focus (intro w hSw; (try dsimp only at hSw); go_simp; first | done | with_reducible rfl)); simp only [Act.put, List.getElem_toArray, List.getElem_cons_succ, List.getElem_cons_zero, List.setIfInBounds_toArray, List.set_cons_succ, List.set_cons_zero]); (refine wpAnyH_take (i := 3) (v := ?_) rfl (by kernel_rfl) (by kernel_rfl) (by kernel_rfl) (fun _ _ _ h => h) (Or.inl ⟨by kernel_rfl, ?_⟩) (by assumption) ?_; rotate_left 1; (focus (intro w hSw; (try dsimp only at hSw); go_simp; first | done | with_reducible rfl)); simp only [Act.put, List.getElem_toArray, List.getElem_cons_succ, List.getElem_cons_zero, List.setIfInBounds_toArray, List.set_cons_succ, List.set_cons_zero]); (refine wpAnyH_take (i := 4) (v := ?_) rfl (by kernel_rfl) (by kernel_rfl) (by kernel_rfl) (fun _ _ _ h => h) (Or.inl ⟨by kernel_rfl, ?_⟩) (by assumption) ?_; rotate_left 1; (focus (intro w hSw; (try dsimp only at hSw); go_simp; first | done | with_reducible rfl)); simp only [Act.put, List.getElem_toArray, List.getElem_cons_succ, List.getElem_cons_zero, List.setIfInBounds_toArray, List.set_cons_succ, List.set_cons_zero]); (refine wpAnyH_ready (rs := [5]) (by kernel_rfl) (by simp) ?_; refine AllReadyH.cons rfl (fun K hK => ?_) AllReadyH.nil; go_simp); refine hK.out _ _ (KE.out _ ((below_drew' hQ3).alloc hz3 _)) (fun hHeld => ?_); (try simp only [Act.put, List.getElem_toArray, List.getElem_cons_succ, List.getElem_cons_zero, List.setIfInBounds_toArray, List.set_cons_succ, List.set_cons_zero]); clear hK; (refine wpAnyH_ready (rs := [6]) (by kernel_rfl) (by simp) ?_; refine AllReadyH.cons rfl (fun K hK => ?_) AllReadyH.nil; go_simp); (go_wp2_with (go_at_call 22; go_must (refine (B1.out _ _ ?_).mono ?_; (simp); rintro e w4 ⟨rfl, hb4⟩; dsimp only))); have hQ4 := (((below_drew' hQ3).alloc hz3 (.cells #[.int .i64 secrets] 3))).trans (hb4.mono (by simp; omega)); refine hK.out _ _ (KE.out _ hQ4) (fun hHeld => ?_); (try simp only [Act.put, List.getElem_toArray, List.getElem_cons_succ, List.getElem_cons_zero, List.setIfInBounds_toArray, List.set_cons_succ, List.set_cons_zero]); clear hK; (refine wpAnyH_take (i := 7) (v := ?_) rfl (by kernel_rfl) (by kernel_rfl) (by kernel_rfl) (fun _ _ _ h => h) (Or.inl ⟨by kernel_rfl, ?_⟩) (by assumption) ?_; rotate_left 1; (focus (intro w hSw; (try dsimp only at hSw); go_simp; first | done | with_reducible rfl)); simp only [Act.put, List.getElem_toArray, List.getElem_cons_succ, List.getElem_cons_zero, List.setIfInBounds_toArray, List.set_cons_succ, List.set_cons_zero]))
        (refine wpAnyH_take (i := 8) (v := undef) rfl (by kernel_rfl) (by kernel_rfl) (by kernel_rfl) (fun _ _ _ h => h) (Or.inr ⟨by kernel_rfl, rfl⟩) (by assumption) ?_; simp only [Act.put, List.getElem_toArray, List.getElem_cons_succ, List.getElem_cons_zero, List.setIfInBounds_toArray, List.set_cons_succ, List.set_cons_zero])
        (refine wpAnyH_take (i := 9) (v := undef) rfl (by kernel_rfl) (by kernel_rfl) (by kernel_rfl) (fun _ _ _ h => h) (Or.inr ⟨by kernel_rfl, rfl⟩) (by assumption) ?_; simp only [Act.put, List.getElem_toArray, List.getElem_cons_succ, List.getElem_cons_zero, List.setIfInBounds_toArray, List.set_cons_succ, List.set_cons_zero])
        (refine wpAnyH_take (i := 10) (v := undef) rfl (by kernel_rfl) (by kernel_rfl) (by kernel_rfl) (fun _ _ _ h => h) (Or.inr ⟨by kernel_rfl, rfl⟩) (by assumption) ?_; simp only [Act.put, List.getElem_toArray, List.getElem_cons_succ, List.getElem_cons_zero, List.setIfInBounds_toArray, List.set_cons_succ, List.set_cons_zero])
        (refine wpAnyH_take (i := 11) (v := undef) rfl (by kernel_rfl) (by kernel_rfl) (by kernel_rfl) (fun _ _ _ h => h) (Or.inr ⟨by kernel_rfl, rfl⟩) (by assumption) ?_; simp only [Act.put, List.getElem_toArray, List.getElem_cons_succ, List.getElem_cons_zero, List.setIfInBounds_toArray, List.set_cons_succ, List.set_cons_zero])
        (refine wpAnyH_take (i := 12) (v := undef) rfl (by kernel_rfl) (by kernel_rfl) (by kernel_rfl) (fun _ _ _ h => h) (Or.inr ⟨by kernel_rfl, rfl⟩) (by assumption) ?_; simp only [Act.put, List.getElem_toArray, List.getElem_cons_succ, List.getElem_cons_zero, List.setIfInBounds_toArray, List.set_cons_succ, List.set_cons_zero])
        (refine wpAnyH_take (i := 13) (v := undef) rfl (by kernel_rfl) (by kernel_rfl) (by kernel_rfl) (fun _ _ _ h => h) (Or.inr ⟨by kernel_rfl, rfl⟩) (by assumption) ?_; simp only [Act.put, List.getElem_toArray, List.getElem_cons_succ, List.getElem_cons_zero, List.setIfInBounds_toArray, List.set_cons_succ, List.set_cons_zero])
        (refine wpAnyH_take (i := 14) (v := ?_) rfl (by kernel_rfl) (by kernel_rfl) (by kernel_rfl) (fun _ _ _ h => h) (Or.inl ⟨by kernel_rfl, ?_⟩) (by assumption) ?_; rotate_left 1; (focus (intro w hSw; (try dsimp only at hSw); go_simp; first | done | with_reducible rfl)); simp only [Act.put, List.getElem_toArray, List.getElem_cons_succ, List.getElem_cons_zero, List.setIfInBounds_toArray, List.set_cons_succ, List.set_cons_zero])
        (refine wpAnyH_take (i := 15) (v := ?_) rfl (by kernel_rfl) (by kernel_rfl) (by kernel_rfl) (fun _ _ _ h => h) (Or.inl ⟨by kernel_rfl, ?_⟩) (by assumption) ?_; rotate_left 1; (focus (intro w hSw; (try dsimp only at hSw); go_simp; first | done | with_reducible rfl)); simp only [Act.put, List.getElem_toArray, List.getElem_cons_succ, List.getElem_cons_zero, List.setIfInBounds_toArray, List.set_cons_succ, List.set_cons_zero])
        exact wpAnyH_done (by kernel_rfl) ⟨rfl, hQ4⟩ _
      intro W hW
      go_wp2
      go_ret
      exact ⟨ret_int (by rw [HE.out]; simp), box_old hW⟩
    · · refine wp_region_held_drew (S := (fun V => Below (w.heap.size + 1) (w.alloc (.cells #[.int .i64 day, .int .i64 secrets, .int .i64 wr] 43)) V ∧ V.cell? ⟨w.heap.size, 1, none⟩ = some (.int .i64 secrets) ∧ V.cell? ⟨w.heap.size, 2, none⟩ = some (.int .i64 wr) ∧ V.cell? ⟨p, 0, none⟩ = some (.int .i64 KN) ∧ V.cell? ⟨q, 0, none⟩ = some (.int .i64 N) ∧ w.heap.size < V.heap.size ∧ p < V.heap.size ∧ q < V.heap.size)) (by kernel_rfl) (KE.out _ (below_drew' hQ3)) (fun hHeld => ?_)
        ((refine wpAnyH_take (i := 0) (v := ?_) rfl (by kernel_rfl) (by kernel_rfl) (by kernel_rfl) (fun _ _ _ h => h) (Or.inl ⟨by kernel_rfl, ?_⟩) (by assumption) ?_; rotate_left 1; (focus (intro w hSw; (try dsimp only at hSw); go_simp; first | done | with_reducible rfl)); simp only [Act.put, List.getElem_toArray, List.getElem_cons_succ, List.getElem_cons_zero, List.setIfInBounds_toArray, List.set_cons_succ, List.set_cons_zero]); (refine wpAnyH_take (i := 1) (v := ?_) rfl (by kernel_rfl) (by kernel_rfl) (by kernel_rfl) (fun _ _ _ h => h) (Or.inl ⟨by kernel_rfl, ?_⟩) (by assumption) ?_; rotate_left 1; (focus (intro w hSw; (try dsimp only at hSw); go_simp; first | done | with_reducible rfl)); simp only [Act.put, List.getElem_toArray, List.getElem_cons_succ, List.getElem_cons_zero, List.setIfInBounds_toArray, List.set_cons_succ, List.set_cons_zero]); (refine wpAnyH_take (i := 2) (v := ?_) rfl (by kernel_rfl) (by kernel_rfl) (by kernel_rfl) (fun _ _ _ h => h) (Or.inl ⟨by kernel_rfl, ?_⟩) (by assumption) ?_; rotate_left 1; (focus (intro w hSw; (try dsimp only at hSw); go_simp; first | done | with_reducible rfl)); simp only [Act.put, List.getElem_toArray, List.getElem_cons_succ, List.getElem_cons_zero, List.setIfInBounds_toArray, List.set_cons_succ, List.set_cons_zero]); (refine wpAnyH_take (i := 3) (v := ?_) rfl (by kernel_rfl) (by kernel_rfl) (by kernel_rfl) (fun _ _ _ h => h) (Or.inl ⟨by kernel_rfl, ?_⟩) (by assumption) ?_; rotate_left 1; (focus (intro w hSw; (try dsimp only at hSw); go_simp; first | done | with_reducible rfl)); simp only [Act.put, List.getElem_toArray, List.getElem_cons_succ, List.getElem_cons_zero, List.setIfInBounds_toArray, List.set_cons_succ, List.set_cons_zero]); (refine wpAnyH_take (i := 4) (v := ?_) rfl (by kernel_rfl) (by kernel_rfl) (by kernel_rfl) (fun _ _ _ h => h) (Or.inl ⟨by kernel_rfl, ?_⟩) (by assumption) ?_; rotate_left 1; (focus (intro w hSw; (try dsimp only at hSw); go_simp; first | done | with_reducible rfl)); simp only [Act.put, List.getElem_toArray, List.getElem_cons_succ, List.getElem_cons_zero, List.setIfInBounds_toArray, List.set_cons_succ, List.set_cons_zero]); (refine wpAnyH_ready (rs := [5]) (by kernel_rfl) (by simp) ?_; refine AllReadyH.cons rfl (fun K hK => ?_) AllReadyH.nil; go_simp); refine hK.out _ _ (KE.out _ ((below_drew' hQ3).alloc hz3 _)) (fun hHeld => ?_); (try simp only [Act.put, List.getElem_toArray, List.getElem_cons_succ, List.getElem_cons_zero, List.setIfInBounds_toArray, List.set_cons_succ, List.set_cons_zero]); clear hK; (refine wpAnyH_ready (rs := [6]) (by kernel_rfl) (by simp) ?_; refine AllReadyH.cons rfl (fun K hK => ?_) AllReadyH.nil; go_simp); (go_wp2_with (go_at_call 22; go_must (refine (B1.out _ _ ?_).mono ?_; (simp); rintro e w4 ⟨rfl, hb4⟩; dsimp only))); have hQ4 := (((below_drew' hQ3).alloc hz3 (.cells #[.int .i64 secrets] 3))).trans (hb4.mono (by simp; omega)); refine hK.out _ _ (KE.out _ hQ4) (fun hHeld => ?_); (try simp only [Act.put, List.getElem_toArray, List.getElem_cons_succ, List.getElem_cons_zero, List.setIfInBounds_toArray, List.set_cons_succ, List.set_cons_zero]); clear hK; (refine wpAnyH_take (i := 7) (v := ?_) rfl (by kernel_rfl) (by kernel_rfl) (by kernel_rfl) (fun _ _ _ h => h) (Or.inl ⟨by kernel_rfl, ?_⟩) (by assumption) ?_; rotate_left 1; (focus (intro w hSw; (try dsimp only at hSw); go_simp; first | done | with_reducible rfl)); simp only [Act.put, List.getElem_toArray, List.getElem_cons_succ, List.getElem_cons_zero, List.setIfInBounds_toArray, List.set_cons_succ, List.set_cons_zero]))
        (refine wpAnyH_take (i := 8) (v := ?_) rfl (by kernel_rfl) (by kernel_rfl) (by kernel_rfl) (fun _ _ _ h => h) (Or.inl ⟨by kernel_rfl, ?_⟩) (by assumption) ?_; rotate_left 1; (focus (intro w hSw; (try dsimp only at hSw); go_simp; first | done | with_reducible rfl)); simp only [Act.put, List.getElem_toArray, List.getElem_cons_succ, List.getElem_cons_zero, List.setIfInBounds_toArray, List.set_cons_succ, List.set_cons_zero])
        (refine wpAnyH_take (i := 9) (v := ?_) rfl (by kernel_rfl) (by kernel_rfl) (by kernel_rfl) (fun _ _ _ h => h) (Or.inl ⟨by kernel_rfl, ?_⟩) (by assumption) ?_; rotate_left 1; (focus (intro w hSw; (try dsimp only at hSw); go_simp; first | done | with_reducible rfl)); simp only [Act.put, List.getElem_toArray, List.getElem_cons_succ, List.getElem_cons_zero, List.setIfInBounds_toArray, List.set_cons_succ, List.set_cons_zero])
        (refine wpAnyH_take (i := 10) (v := ?_) rfl (by kernel_rfl) (by kernel_rfl) (by kernel_rfl) (fun _ _ _ h => h) (Or.inl ⟨by kernel_rfl, ?_⟩) (by assumption) ?_; rotate_left 1; (focus (intro w hSw; (try dsimp only at hSw); go_simp; first | done | with_reducible rfl)); simp only [Act.put, List.getElem_toArray, List.getElem_cons_succ, List.getElem_cons_zero, List.setIfInBounds_toArray, List.set_cons_succ, List.set_cons_zero])
        (refine wpAnyH_take (i := 11) (v := ?_) rfl (by kernel_rfl) (by kernel_rfl) (by kernel_rfl) (fun _ _ _ h => h) (Or.inl ⟨by kernel_rfl, ?_⟩) (by assumption) ?_; rotate_left 1; (focus (intro w hSw; (try dsimp only at hSw); go_simp; first | done | with_reducible rfl)); simp only [Act.put, List.getElem_toArray, List.getElem_cons_succ, List.getElem_cons_zero, List.setIfInBounds_toArray, List.set_cons_succ, List.set_cons_zero])
        (refine wpAnyH_ready (rs := [12]) (by kernel_rfl) (by simp) ?_; refine AllReadyH.cons rfl (fun K hK => ?_) AllReadyH.nil; go_simp)
        refine hK.out _ _ (KE.out _ (hQ4.alloc (by have := hQ4.size; simpa using this) _)) (fun hHeld => ?_)
        (try simp only [Act.put, List.getElem_toArray, List.getElem_cons_succ, List.getElem_cons_zero, List.setIfInBounds_toArray, List.set_cons_succ, List.set_cons_zero])
        clear hK
        (refine wpAnyH_ready (rs := [13]) (by kernel_rfl) (by simp) ?_; refine AllReadyH.cons rfl (fun K hK => ?_) AllReadyH.nil; go_simp)
        go_wp2_with (go_at_call 22; go_must (refine (B2.out _ _ ?_).mono ?_; (simp); rintro e w5 ⟨rfl, hb5⟩; dsimp only))
        have hQ5 := (hQ4.alloc (by have := hQ4.size; simpa using this) (.cells #[.int .i64 wr] 3)).trans (hb5.mono (by have := hQ4.size; simp at this ⊢; omega))
        refine hK.out _ _ (KE.out _ hQ5) (fun hHeld => ?_)
        (try simp only [Act.put, List.getElem_toArray, List.getElem_cons_succ, List.getElem_cons_zero, List.setIfInBounds_toArray, List.set_cons_succ, List.set_cons_zero])
        clear hK
        (refine wpAnyH_take (i := 14) (v := ?_) rfl (by kernel_rfl) (by kernel_rfl) (by kernel_rfl) (fun _ _ _ h => h) (Or.inl ⟨by kernel_rfl, ?_⟩) (by assumption) ?_; rotate_left 1; (focus (intro w hSw; (try dsimp only at hSw); go_simp; first | done | with_reducible rfl)); simp only [Act.put, List.getElem_toArray, List.getElem_cons_succ, List.getElem_cons_zero, List.setIfInBounds_toArray, List.set_cons_succ, List.set_cons_zero])
        (refine wpAnyH_take (i := 15) (v := ?_) rfl (by kernel_rfl) (by kernel_rfl) (by kernel_rfl) (fun _ _ _ h => h) (Or.inl ⟨by kernel_rfl, ?_⟩) (by assumption) ?_; rotate_left 1; (focus (intro w hSw; (try dsimp only at hSw); go_simp; first | done | with_reducible rfl)); simp only [Act.put, List.getElem_toArray, List.getElem_cons_succ, List.getElem_cons_zero, List.setIfInBounds_toArray, List.set_cons_succ, List.set_cons_zero])
        refine wpAnyH_done (by kernel_rfl) ?_ _
        have hW := hQ5
        cases wb
        · go_wp2
          go_ret
          exact ⟨ret_int (by rw [HE.out]; simp), box_old hW⟩
        · obtain ⟨-, x1, x2, y1, y2, z1, z2, z3⟩ := KE.out _ hW
          have x0 := box_cell hW 0 _ rfl
          have d1 := cell_below (box_old hW) c2
          have d2 := lt_of_cell d1
          by_cases he : wr = -1
          · have e2 := nei_f he
            replace HE := Lib.hid (show er = 0 by rw [HE.out]; simp [he])
            clear he
            go_wp2
            go_ret
            exact ⟨ret_int (by rw [HE.out]), box_old hW⟩
          · have e2 := nei_t he
            replace HE := Lib.hid (show er = if hh then 5 else 0 by rw [HE.out]; simp [he])
            clear he
            cases hh
            all_goals
              go_wp2_with (go_at_call 93; go_must (refine (K.out _ (box_old hW) _ x2 x0).mono ?_; rintro e w3 ⟨rfl, hb3⟩; dsimp only))
              go_ret
              exact ⟨ret_int (by rw [HE.out]; simp), (box_old hW).trans (hb3.mono (box_old hW).size)⟩
end Go.Proofs.YtcgplocmncionaaGreat
