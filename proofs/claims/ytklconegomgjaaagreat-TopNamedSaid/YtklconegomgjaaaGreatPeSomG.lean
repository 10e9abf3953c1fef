/- What is proved here: the contracts of mention, failing and Check of layer 3, at a mention, and a town, in which nothing is wrong. Conditions: the town lies in memory. -/
/- What is proved here: what of a town that is looked at stays while a range goes; the contracts of some and enter of layer 3. Conditions: the town is looked at, or valid. -/
import Derived.Test.YtklconegomgjaaaGreatPnBaseG
import Derived.Test.YtklconegomgjaaaGreatPeOffG
import Derived.Test.YtklconegomgjaaaGreatEaChk2G
set_option linter.unusedVariables false
set_option linter.unusedSimpArgs false
namespace Go.Proofs.YtklconegomgjaaaGreat
open Go Go.RowKit Go.Shelf

theorem POffOk (x lo hi : Int) (hx : lo ≤ x ∧ x ≤ hi) (a : Nat) (w : World) (h : w.cell? ⟨a, 0, none⟩ = some (.int .i64 x)) :
    Calls Tryz.prog 81 #[.int .i64 lo, .int .i64 hi, .slice (some ⟨a, 0, none⟩) 1 1] w fun e w' => e = .returned (.bool false) ∧ Below w.heap.size w w' := by
  have := POffOne_any x lo hi a w h
  rwa [inB_iff.2 hx] at this
theorem POffOk2 (x y lo hi : Int) (hx : lo ≤ x ∧ x ≤ hi) (hy : lo ≤ y ∧ y ≤ hi) (a : Nat) (w : World) (h : w.cell? ⟨a, 0, none⟩ = some (.int .i64 x)) (h1 : w.cell? ⟨a, 1, none⟩ = some (.int .i64 y)) :
    Calls Tryz.prog 81 #[.int .i64 lo, .int .i64 hi, .slice (some ⟨a, 0, none⟩) 2 2] w fun e w' => e = .returned (.bool false) ∧ Below w.heap.size w w' := by
  have := POff_any (some ⟨a, 0, none⟩) [x, y] 2 lo hi w (by simp) (fun k hk => by
    have e : k = 0 ∨ k = 1 := (by have hk2 : k < 2 := (by simpa using hk); omega)
    rcases e with rfl | rfl
    · exact ⟨a, 0, rfl, lt_of_cell h, by simpa using h⟩
    · exact ⟨a, 0, rfl, lt_of_cell h1, by simpa using h1⟩)
  have e : ([x, y].any (outB lo hi)) = false := by
    rw [List.any_eq_false]
    intro z hz
    unfold outB
    simp only [List.mem_cons, List.not_mem_nil, or_false] at hz
    rcases hz with rfl | rfl <;> simp <;> omega
  rwa [e] at this
set_option maxRecDepth 100000 in
set_option maxHeartbeats 2000000 in
theorem PMention_any (a1 a2 a3 a4 : Option Addr) (k1 k2 k3 k4 : Nat) (t : PeW) (at_ : Int) (x : PeM) (w : World) (hm : TownC w a1 a2 a3 a4 k1 k2 k3 k4 t) (hvl : 1 ≤ t.vills ∧ t.vills ≤ 4) (hx : mentErr t at_ x = 0) :
    Calls Tryz.prog 57 #[(.agg #[.int .i64 t.ear.sounds, .slice a1 t.ear.alphas.length k1, .slice a2 t.ear.spells.length k2, .int .i64 t.vills, .slice a3 t.ments.length k3, .slice a4 t.ties.length k4]), .int .i64 at_, peMentV x] w fun e w' => e = .returned (.int .i64 0) ∧ Below w.heap.size w w' := by
  obtain ⟨g1, g2, g3, g4, g5, g6, g7, g8, g9, g10⟩ := mentErr_ok hx
  obtain ⟨xs, xv, xl, xh, xp⟩ := x
  simp only at g1 g2 g3 g4 g5 g6 g7 g8 g9 g10
  obtain ⟨Z, hZ⟩ : ∃ Z : World, Z = (w.alloc (.cells #[.int .i64 t.ear.sounds, .slice a1 t.ear.alphas.length k1, .slice a2 t.ear.spells.length k2, .int .i64 t.vills, .slice a3 t.ments.length k3, .slice a4 t.ties.length k4] 29)).alloc (.cells #[.int .i64 xs, .int .i64 xv, .int .i64 xl, .int .i64 xh, .int .i64 xp] 38) := ⟨_, rfl⟩
  have hz1 : Z.heap[w.heap.size]? = some (.cells #[.int .i64 t.ear.sounds, .slice a1 t.ear.alphas.length k1, .slice a2 t.ear.spells.length k2, .int .i64 t.vills, .slice a3 t.ments.length k3, .slice a4 t.ties.length k4] 29 (0, 0)) := by rw [hZ]; exact (heap_alloc_old _ _ (by simp)).trans (alloc_atE _ _ rfl)
  have hz2 : Z.heap[w.heap.size + 1]? = some (.cells #[.int .i64 xs, .int .i64 xv, .int .i64 xl, .int .i64 xh, .int .i64 xp] 38 (0, 0)) := by rw [hZ]; exact alloc_atE _ _ (by simp)
  have hbZ : Below w.heap.size w Z := by rw [hZ]; exact ((Below.refl _ _).alloc (Nat.le_refl _) _).alloc (by simp) _
  have HZ := Lib.hid hZ
  have ls := hm.book.oks.len
  have lm := hm.okm.len
  have lv : t.vills - 1 < 9223372036854775807 ∧ -9223372036854775808 ≤ t.vills - 1 := by omega
  have B1 := Lib.hid (fun a V h => POffOk xs 0 ((t.ear.spells.length : Int) - 1) ⟨g1, by omega⟩ a V h)
  have B2 := Lib.hid (fun a V h => POffOk xv (-1) (t.vills - 1) ⟨g3, by omega⟩ a V h)
  have B3 := Lib.hid (fun a V h => POffOk xp (-1) ((t.ments.length : Int) - 1) ⟨g5, by omega⟩ a V h)
  have B4 := Lib.hid (fun a V h => POffOk2 xl xh 0 199 ⟨g7, by omega⟩ ⟨by omega, g9⟩ a V h)
  have g8' : ¬ xh < xl := by omega
  have g10' : (xp == at_) = false := by simpa using g10
  have KE := Lib.hid (fun (V : World) (h : Below Z.heap.size Z V) => (show V.cell? ⟨w.heap.size, 2, none⟩ = some (.slice a2 t.ear.spells.length k2) ∧ V.cell? ⟨w.heap.size, 3, none⟩ = some (.int .i64 t.vills) ∧ V.cell? ⟨w.heap.size, 4, none⟩ = some (.slice a3 t.ments.length k3) ∧ V.cell? ⟨w.heap.size + 1, 0, none⟩ = some (.int .i64 xs) ∧ V.cell? ⟨w.heap.size + 1, 1, none⟩ = some (.int .i64 xv) ∧ V.cell? ⟨w.heap.size + 1, 2, none⟩ = some (.int .i64 xl) ∧ V.cell? ⟨w.heap.size + 1, 3, none⟩ = some (.int .i64 xh) ∧ V.cell? ⟨w.heap.size + 1, 4, none⟩ = some (.int .i64 xp) ∧ w.heap.size < V.heap.size ∧ w.heap.size + 1 < V.heap.size from by
    have e1 := (h.block _ (lt_of_block hz1)).trans hz1
    have e2 := (h.block _ (lt_of_block hz2)).trans hz2
    exact ⟨blk_cell 2 e1 rfl, blk_cell 3 e1 rfl, blk_cell 4 e1 rfl, blk_cell 0 e2 rfl, blk_cell 1 e2 rfl, blk_cell 2 e2 rfl, blk_cell 3 e2 rfl, blk_cell 4 e2 rfl, lt_of_block e1, lt_of_block e2⟩))
  have hQ0 := Below.refl Z.heap.size Z
  clear hm hx hZ
  go_enter Tryz.func57, Tryz.ntmps57
  go_upto_region 1 with (fail)
  rw [← HZ.out]
  obtain ⟨x2, x3, x4, y0, y1, y2, y3, y4, xz, yz⟩ := KE.out _ hQ0
  clear HZ hz1 hz2
  go_wp2_with (first
    | (go_at_call 81; ((with_reducible refine (B4.out _ _ ?_ ?_ ).mono ?_); (simp); (simp); rintro e w6 ⟨rfl, hb6⟩; have hQ4 := (hQ3.alloc hQ3.size (.cells #[.int .i64 xl, .int .i64 xh] 3)).trans (hb6.mono (by have := hQ3.size; simp <;> omega)); obtain ⟨x2, x3, x4, y0, y1, y2, y3, y4, xz, yz⟩ := KE.out _ hQ4; dsimp only))
    | (go_at_call 81; ((with_reducible refine (B3.out _ _ ?_ ).mono ?_); (simp); rintro e w5 ⟨rfl, hb5⟩; have hQ3 := (hQ2.alloc hQ2.size (.cells #[.int .i64 xp] 3)).trans (hb5.mono (by have := hQ2.size; simp <;> omega)); obtain ⟨x2, x3, x4, y0, y1, y2, y3, y4, xz, yz⟩ := KE.out _ hQ3; dsimp only))
    | (go_at_call 81; ((with_reducible refine (B2.out _ _ ?_ ).mono ?_); (simp); rintro e w4 ⟨rfl, hb4⟩; have hQ2 := (hQ1.alloc hQ1.size (.cells #[.int .i64 xv] 3)).trans (hb4.mono (by have := hQ1.size; simp <;> omega)); obtain ⟨x2, x3, x4, y0, y1, y2, y3, y4, xz, yz⟩ := KE.out _ hQ2; dsimp only))
    | (go_at_call 81; ((with_reducible refine (B1.out _ _ ?_ ).mono ?_); (simp); rintro e w3 ⟨rfl, hb3⟩; have hQ1 := (hQ0.alloc hQ0.size (.cells #[.int .i64 xs] 3)).trans (hb3.mono (by have := hQ0.size; simp <;> omega)); obtain ⟨x2, x3, x4, y0, y1, y2, y3, y4, xz, yz⟩ := KE.out _ hQ1; dsimp only)))
  go_ret
  exact ⟨rfl, hbZ.trans (hQ4.mono hbZ.size)⟩
set_option maxHeartbeats 1000000 in
theorem PFailM_any (a : Option Addr) (l : List PeM) (c F : Nat) (caps : Array Value) (w : World) (hl : l.length ≤ 9223372036854775807) (hi : PeMentsC w a l)
    (hCF : ∀ (xs : Array Value) (W : World), (callFunc F xs).run Tryz.prog W = .ok (.enter F xs) W)
    (hK : ∀ (k : Nat) (h : k < l.length) (W : World), Below w.heap.size w W → Calls Tryz.prog F (#[.int .i64 (k : Int), peMentV l[k]] ++ caps) W fun e W' => e = .returned (.int .i64 0) ∧ Below W.heap.size W W') :
    Calls Tryz.prog 87 #[.slice a l.length c, .func (.func F) #[] caps] w fun e w' => e = .returned (.tuple #[.int .i64 0, .int .i64 0]) ∧ Below w.heap.size w w' := by
  replace hK := Lib.hid hK
  go_enter Tryz.func87, Tryz.ntmps87
  go_wp2
  go_loopw [11] (fun i wr => ∃ k : Nat, k ≤ l.length ∧ i = .int .i64 k ∧ Below w.heap.size w wr) (fun i _ => l.length - (intOf i).toNat)
  case atStart => exact ⟨0, Nat.zero_le _, rfl, Below.refl _ _⟩
  case round =>
    obtain ⟨k, hk, rfl, hbw⟩ := hrel
    by_cases hlt : k < l.length
    · have K := Lib.hid (fun (W : World) (h : Below w.heap.size w W) => hK.out k hlt W h)
      obtain ⟨b, off, rfl, hb, h1, h2, h3, h4, h5⟩ := (hi.mono hbw) k hlt
      generalize l[k] = x at K h1 h2 h3 h4 h5
      obtain ⟨xs, xv, xl, xh, xp⟩ := x
      simp only at K h1 h2 h3 h4 h5
      go_wp2_with ((with_reducible refine (K.out _ (hbw.alloc hbw.size _)).mono ?_); rintro e w2 ⟨rfl, hb2⟩; have hbn := (hbw.alloc hbw.size (.cells #[.int .i64 xs, .int .i64 xv, .int .i64 xl, .int .i64 xh, .int .i64 xp] 38)).trans (hb2.mono (by have := hbw.size; simp; omega)); dsimp only)
      go_roundw
      case rel => exact ⟨k + 1, by omega, by go_num, hbn⟩
      case measure => simp [intOf]; omega
    · obtain rfl : k = l.length := by omega
      go_wp2
      go_ret2
      exact ⟨rfl, hbw⟩
set_option maxHeartbeats 1000000 in
theorem PFailT_any (a : Option Addr) (l : List PeT) (c F : Nat) (caps : Array Value) (w : World) (hl : l.length ≤ 9223372036854775807) (hi : PeTiesC w a l)
    (hCF : ∀ (xs : Array Value) (W : World), (callFunc F xs).run Tryz.prog W = .ok (.enter F xs) W)
    (hK : ∀ (k : Nat) (h : k < l.length) (W : World), Below w.heap.size w W → Calls Tryz.prog F (#[.int .i64 (k : Int), peTieV l[k]] ++ caps) W fun e W' => e = .returned (.int .i64 0) ∧ Below W.heap.size W W') :
    Calls Tryz.prog 89 #[.slice a l.length c, .func (.func F) #[] caps] w fun e w' => e = .returned (.tuple #[.int .i64 0, .int .i64 0]) ∧ Below w.heap.size w w' := by
  replace hK := Lib.hid hK
  go_enter Tryz.func89, Tryz.ntmps89
  go_wp2
  go_loopw [11] (fun i wr => ∃ k : Nat, k ≤ l.length ∧ i = .int .i64 k ∧ Below w.heap.size w wr) (fun i _ => l.length - (intOf i).toNat)
  case atStart => exact ⟨0, Nat.zero_le _, rfl, Below.refl _ _⟩
  case round =>
    obtain ⟨k, hk, rfl, hbw⟩ := hrel
    by_cases hlt : k < l.length
    · have K := Lib.hid (fun (W : World) (h : Below w.heap.size w W) => hK.out k hlt W h)
      obtain ⟨b, off, rfl, hb, h1, h2, h3⟩ := (hi.mono hbw) k hlt
      generalize l[k] = x at K h1 h2 h3
      obtain ⟨xa, xb, xs⟩ := x
      simp only at K h1 h2 h3
      go_wp2_with ((with_reducible refine (K.out _ (hbw.alloc hbw.size _)).mono ?_); rintro e w2 ⟨rfl, hb2⟩; have hbn := (hbw.alloc hbw.size (.cells #[.int .i64 xa, .int .i64 xb, .bool xs] 44)).trans (hb2.mono (by have := hbw.size; simp; omega)); dsimp only)
      go_roundw
      case rel => exact ⟨k + 1, by omega, by go_num, hbn⟩
      case measure => simp [intOf]; omega
    · obtain rfl : k = l.length := by omega
      go_wp2
      go_ret2
      exact ⟨rfl, hbw⟩
set_option maxRecDepth 100000 in
set_option maxHeartbeats 1000000 in
theorem PChk1_any (a1 a2 a3 a4 : Option Addr) (k1 k2 k3 k4 : Nat) (t : PeW) (i B : Nat) (w : World) (hm : TownC w a1 a2 a3 a4 k1 k2 k3 k4 t) (hv : PeValid t) (hi : i < t.ments.length) (hB : w.heap[B]? = some (.cells #[.int .i64 t.ear.sounds, .slice a1 t.ear.alphas.length k1, .slice a2 t.ear.spells.length k2, .int .i64 t.vills, .slice a3 t.ments.length k3, .slice a4 t.ties.length k4] 29 (0, 0))) :
    Calls Tryz.prog 88 #[.int .i64 (i : Int), peMentV t.ments[i], .pointer (some ⟨B, 0, none⟩)] w fun e w' => e = .returned (.int .i64 0) ∧ Below w.heap.size w w' := by
  have hx := hv.ment i hi
  have hvl := hv.vills
  have ME := Lib.hid (fun (V : World) (h : Below w.heap.size w V) => PMention_any a1 a2 a3 a4 k1 k2 k3 k4 t (i : Int) t.ments[i] V (hm.mono h) hvl hx)
  generalize t.ments[i] = x at ME
  obtain ⟨xs, xv, xl, xh, xp⟩ := x
  have c0 := blk_cell 0 hB rfl
  have c1 := blk_cell 1 hB rfl
  have c2 := blk_cell 2 hB rfl
  have c3 := blk_cell 3 hB rfl
  have c4 := blk_cell 4 hB rfl
  have c5 := blk_cell 5 hB rfl
  have cz := lt_of_block hB
  simp only [List.getElem_toArray, List.getElem_cons_zero, List.getElem_cons_succ] at c0 c1 c2 c3 c4 c5
  clear hB hm hx hvl
  go_enter Tryz.func88, Tryz.ntmps88
  go_wp2_with (go_at_call 57; go_must ((with_reducible refine (ME.out _ ((Below.refl _ w).alloc (Nat.le_refl _) _)).mono ?_); rintro e w2 ⟨rfl, hb2⟩; dsimp only))
  go_ret
  exact ⟨rfl, ((Below.refl _ w).alloc (Nat.le_refl _) _).trans (hb2.mono (by simp))⟩
set_option maxRecDepth 100000 in
set_option maxHeartbeats 1000000 in
theorem PChk2_any (a1 a2 a3 a4 : Option Addr) (k1 k2 k3 k4 : Nat) (t : PeW) (i B : Nat) (w : World) (hv : PeValid t) (hi : i < t.ties.length) (hB : w.cell? ⟨B, 4, none⟩ = some (.slice a3 t.ments.length k3)) :
    Calls Tryz.prog 90 #[.int .i64 (i : Int), peTieV t.ties[i], .pointer (some ⟨B, 0, none⟩)] w fun e w' => e = .returned (.int .i64 0) ∧ Below w.heap.size w w' := by
  have hx := hv.tie i hi
  have hnm := hv.nm
  generalize t.ties[i] = x at hx
  obtain ⟨xa, xb, xs⟩ := x
  simp only at hx
  have B4 := Lib.hid (fun a V h => POffOk2 xa xb 0 ((t.ments.length : Int) - 1) ⟨hx.1, by omega⟩ ⟨hx.2.2.1, by omega⟩ a V h)
  have hab : (xa == xb) = false := by simpa using hx.2.2.2.2
  have bz := lt_of_cell hB
  have hQ0 := Below.refl (w.heap.size + 1) (w.alloc (.cells #[.int .i64 xa, .int .i64 xb, .bool xs] 44))
  have KE : Hid (∀ V, Below (w.heap.size + 1) (w.alloc (.cells #[.int .i64 xa, .int .i64 xb, .bool xs] 44)) V → (V.cell? ⟨w.heap.size, 0, none⟩ = some (.int .i64 xa) ∧ V.cell? ⟨w.heap.size, 1, none⟩ = some (.int .i64 xb) ∧ w.heap.size < V.heap.size)) := Lib.hid (fun V hV => ⟨box_cell hV 0 _ rfl, box_cell hV 1 _ rfl, box_size hV⟩)
  clear hx hv
  go_enter Tryz.func90, Tryz.ntmps90
  go_wp2_with (go_at_call 81; go_must ((with_reducible refine (B4.out _ _ ?_ ?_).mono ?_); (simp); (simp); rintro e w3 ⟨rfl, hb3⟩; have hQ3 := (hQ0.alloc (by simp) (.cells #[.int .i64 xa, .int .i64 xb] 3)).trans (hb3.mono (by simp)); obtain ⟨x0, x1, xz⟩ := KE.out _ hQ3; dsimp only))
  go_ret
  exact ⟨rfl, box_old hQ3⟩
set_option maxRecDepth 100000 in
set_option maxHeartbeats 2000000 in
theorem PCheck_any (a1 a2 a3 a4 : Option Addr) (k1 k2 k3 k4 : Nat) (t : PeW) (w : World) (hm : TownC w a1 a2 a3 a4 k1 k2 k3 k4 t) (hv : PeValid t) :
    Calls Tryz.prog 39 #[(.agg #[.int .i64 t.ear.sounds, .slice a1 t.ear.alphas.length k1, .slice a2 t.ear.spells.length k2, .int .i64 t.vills, .slice a3 t.ments.length k3, .slice a4 t.ties.length k4])] w fun e w' => e = .returned (.tuple #[.int .i64 0, .int .i64 0, .int .i64 0]) ∧ Below w.heap.size w w' := by
  have hX : (w.alloc (.cells #[.int .i64 t.ear.sounds, .slice a1 t.ear.alphas.length k1, .slice a2 t.ear.spells.length k2, .int .i64 t.vills, .slice a3 t.ments.length k3, .slice a4 t.ties.length k4] 29)).heap[w.heap.size]? = some (.cells #[.int .i64 t.ear.sounds, .slice a1 t.ear.alphas.length k1, .slice a2 t.ear.spells.length k2, .int .i64 t.vills, .slice a3 t.ments.length k3, .slice a4 t.ties.length k4] 29 (0, 0)) := alloc_atE _ _ rfl
  have hQ0 := Below.refl (w.heap.size + 1) (w.alloc (.cells #[.int .i64 t.ear.sounds, .slice a1 t.ear.alphas.length k1, .slice a2 t.ear.spells.length k2, .int .i64 t.vills, .slice a3 t.ments.length k3, .slice a4 t.ties.length k4] 29))
  have HB := Lib.hid (fun (V : World) (h : Below (w.heap.size + 1) (w.alloc (.cells #[.int .i64 t.ear.sounds, .slice a1 t.ear.alphas.length k1, .slice a2 t.ear.spells.length k2, .int .i64 t.vills, .slice a3 t.ments.length k3, .slice a4 t.ties.length k4] 29)) V) => (h.block _ (by omega)).trans hX)
  have HM := Lib.hid (fun (V : World) (h : Below (w.heap.size + 1) (w.alloc (.cells #[.int .i64 t.ear.sounds, .slice a1 t.ear.alphas.length k1, .slice a2 t.ear.spells.length k2, .int .i64 t.vills, .slice a3 t.ments.length k3, .slice a4 t.ties.length k4] 29)) V) => hm.mono (box_old h))
  have KE : Hid (∀ V, Below (w.heap.size + 1) (w.alloc (.cells #[.int .i64 t.ear.sounds, .slice a1 t.ear.alphas.length k1, .slice a2 t.ear.spells.length k2, .int .i64 t.vills, .slice a3 t.ments.length k3, .slice a4 t.ties.length k4] 29)) V → (V.cell? ⟨w.heap.size, 0, none⟩ = some (.int .i64 t.ear.sounds) ∧ V.cell? ⟨w.heap.size, 1, none⟩ = some (.slice a1 t.ear.alphas.length k1) ∧ V.cell? ⟨w.heap.size, 2, none⟩ = some (.slice a2 t.ear.spells.length k2) ∧ V.cell? ⟨w.heap.size, 3, none⟩ = some (.int .i64 t.vills) ∧ V.cell? ⟨w.heap.size, 4, none⟩ = some (.slice a3 t.ments.length k3) ∧ V.cell? ⟨w.heap.size, 5, none⟩ = some (.slice a4 t.ties.length k4) ∧ w.heap.size < V.heap.size)) := Lib.hid (fun V hV => ⟨box_cell hV 0 _ rfl, box_cell hV 1 _ rfl, box_cell hV 2 _ rfl, box_cell hV 3 _ rfl, box_cell hV 4 _ rfl, box_cell hV 5 _ rfl, box_size hV⟩)
  have CK := Lib.hid (fun (V : World) (h : Below (w.heap.size + 1) (w.alloc (.cells #[.int .i64 t.ear.sounds, .slice a1 t.ear.alphas.length k1, .slice a2 t.ear.spells.length k2, .int .i64 t.vills, .slice a3 t.ments.length k3, .slice a4 t.ties.length k4] 29)) V) => ECheck_any a1 a2 k1 k2 t.ear V (HM.out V h).book hv.ear)
  have hvl := hv.vills
  have hnm := hv.nm
  have hnt := hv.nt
  have lm := hm.okm.len
  have lt := hm.okt.len
  have BV := Lib.hid (fun a V h => POffOk t.vills 1 4 hvl a V h)
  have FM := Lib.hid (fun (V : World) (h : Below (w.heap.size + 1) (w.alloc (.cells #[.int .i64 t.ear.sounds, .slice a1 t.ear.alphas.length k1, .slice a2 t.ear.spells.length k2, .int .i64 t.vills, .slice a3 t.ments.length k3, .slice a4 t.ties.length k4] 29)) V) => PFailM_any a3 t.ments k3 88 #[.pointer (some ⟨w.heap.size, 0, none⟩)] V lm (HM.out V h).ments (enters_of Tryz.func88 (by kernel_rfl) rfl) (fun k hk W hW => by
    have hQ := h.trans (hW.mono (box_size h))
    exact PChk1_any a1 a2 a3 a4 k1 k2 k3 k4 t k w.heap.size W (HM.out W hQ) hv hk (HB.out W hQ)))
  have FT := Lib.hid (fun (V : World) (h : Below (w.heap.size + 1) (w.alloc (.cells #[.int .i64 t.ear.sounds, .slice a1 t.ear.alphas.length k1, .slice a2 t.ear.spells.length k2, .int .i64 t.vills, .slice a3 t.ments.length k3, .slice a4 t.ties.length k4] 29)) V) => PFailT_any a4 t.ties k4 90 #[.pointer (some ⟨w.heap.size, 0, none⟩)] V lt (HM.out V h).ties (enters_of Tryz.func90 (by kernel_rfl) rfl) (fun k hk W hW => by
    have hQ := h.trans (hW.mono (box_size h))
    exact PChk2_any a1 a2 a3 a4 k1 k2 k3 k4 t k w.heap.size W hv hk (KE.out W hQ).2.2.2.2.1))
  have hnmI : ¬ (5 : Int) < (t.ments.length : Int) := by omega
  have hntI : ¬ (4 : Int) < (t.ties.length : Int) := by omega
  clear hX hm hv
  go_enter Tryz.func39, Tryz.ntmps39
  go_wp2_with (first
    | (go_at_call 89; go_must ((with_reducible refine (FT.out _ hQ4).mono ?_); rintro e w5 ⟨rfl, hb5⟩; have hQ5 := hQ4.trans (hb5.mono (box_size hQ4)); dsimp only))
    | (go_at_call 87; go_must ((with_reducible refine (FM.out _ hQ3).mono ?_); rintro e w4 ⟨rfl, hb4⟩; have hQ4 := hQ3.trans (hb4.mono (box_size hQ3)); obtain ⟨x0, x1, x2, x3, x4, x5, xz⟩ := KE.out _ hQ4; dsimp only))
    | (go_at_call 81; go_must ((with_reducible refine (BV.out _ _ ?_).mono ?_); (simp); rintro e w3 ⟨rfl, hb3⟩; have hQ3 := (hQ2.alloc (box_size hQ2) (.cells #[.int .i64 t.vills] 3)).trans (hb3.mono (by have := box_size hQ2; simp; omega)); obtain ⟨x0, x1, x2, x3, x4, x5, xz⟩ := KE.out _ hQ3; dsimp only))
    | (go_at_call 84; go_must ((with_reducible refine (CK.out _ hQ0).mono ?_); rintro e w2 ⟨rfl, hb2⟩; have hQ2 := hQ0.trans (hb2.mono (by simp)); obtain ⟨x0, x1, x2, x3, x4, x5, xz⟩ := KE.out _ hQ2; dsimp only)))
  go_ret3
  exact ⟨rfl, box_old hQ5⟩
end Go.Proofs.YtklconegomgjaaaGreat
namespace Go.Proofs.YtklconegomgjaaaGreat
open Go Go.RowKit Go.Shelf
attribute [local go_sem] Oper.semAt_some

theorem Above.of_set (B : Nat) (W : World) (b j : Nat) (v : Value) (hb : b < B) : Above B W (W.setCell ⟨b, j, none⟩ v) := ⟨rfl, rfl, rfl, by simp, fun i hi _ => Below.heap_setCell _ _ _ _ (fun e => by simp only at e; omega)⟩
/-- From w on memory has grown, and the two maps have turned at most, which are in order. -/
structure TwG (w A : World) (bc bk : Nat) (t : PeW) : Prop where
  lrn : Lrn bc bk w A
  common : ∃ T, MapV A Tryz.prog 3 bc T ∧ ComOk t T
  known : ∃ T, MapV A Tryz.prog 109 bk T ∧ KnoOk t T
theorem Lrn.belowB {bc bk B : Nat} {w A A' : World} (h : Lrn bc bk w A) (hb : Below B A A') (hB : w.heap.size ≤ B) : Lrn bc bk w A' :=
  ⟨hb.os.trans h.os, hb.tape.trans h.tape, hb.output.trans h.output, Nat.le_trans h.size hb.size, fun b h1 h2 h3 => (hb.block b (by omega)).trans (h.block b h1 h2 h3)⟩
/-- Maps of the call's own: nothing that was there has turned. -/
theorem Lrn.own {bc bk : Nat} {w A A' : World} (hb : Below w.heap.size w A) (h : Lrn bc bk A A') (h1 : w.heap.size ≤ bc) (h2 : w.heap.size ≤ bk) : Below w.heap.size w A' :=
  ⟨h.os.trans hb.os, h.tape.trans hb.tape, h.output.trans hb.output, Nat.le_trans hb.size h.size, fun b hlt => (h.block b (Nat.lt_of_lt_of_le hlt hb.size) (by omega) (by omega)).trans (hb.block b hlt)⟩
theorem TwG.below {w A A' : World} {bc bk B : Nat} {t : PeW} (h : TwG w A bc bk t) (hb : Below B A A') (hB : w.heap.size ≤ B) (h1 : bc < B) (h2 : bk < B) : TwG w A' bc bk t := by
  obtain ⟨hl, ⟨T, hT, hC⟩, T2, hT2, hC2⟩ := h
  exact ⟨hl.belowB hb hB, ⟨T, hT.below hb h1, hC⟩, T2, hT2.below hb h2, hC2⟩
theorem TwG.town {w A : World} {bt bc bk : Nat} {a1 a2 a3 a4 : Option Addr} {k1 k2 k3 k4 : Nat} {t : PeW} {but : Nat} (h : TwG w A bc bk t) (hm : TownW w bt bc bk a1 a2 a3 a4 k1 k2 k3 k4 t but) : TownW A bt bc bk a1 a2 a3 a4 k1 k2 k3 k4 t but := hm.learn h.lrn h.common h.known
theorem TwG.step {w A A' : World} {bt bc bk : Nat} {a1 a2 a3 a4 : Option Addr} {k1 k2 k3 k4 : Nat} {t : PeW} {but : Nat} (h : TwG w A bc bk t) (hl : Lrn bc bk A A') (ht : TownW A' bt bc bk a1 a2 a3 a4 k1 k2 k3 k4 t but) : TwG w A' bc bk t := ⟨h.lrn.trans hl, ht.common, ht.known⟩
theorem TownW.start {w : World} {bt bc bk : Nat} {a1 a2 a3 a4 : Option Addr} {k1 k2 k3 k4 : Nat} {t : PeW} {but : Nat} (hm : TownW w bt bc bk a1 a2 a3 a4 k1 k2 k3 k4 t but) : TwG w w bc bk t := ⟨Lrn.refl _ _ _, hm.common, hm.known⟩
theorem Lrn.cellsN {bc bk : Nat} {A A' : World} (h : Lrn bc bk A A') {b : Nat} {o : Obj} (hb : A.heap[b]? = some o) (h1 : b ≠ bc) (h2 : b ≠ bk) : A'.heap[b]? = some o :=
  (h.block b (lt_of_block hb) h1 h2).trans hb
set_option maxRecDepth 100000 in
set_option maxHeartbeats 2000000 in
theorem PSome_any (a1 a2 a3 a4 : Option Addr) (k1 k2 k3 k4 : Nat) (t : PeW) (bt bc bk but : Nat) (w : World) (hm : TownW w bt bc bk a1 a2 a3 a4 k1 k2 k3 k4 t but) (hv : PeOk t) (hbut : but < 16) :
    Calls Tryz.prog 83 #[.pointer (some ⟨bt, 0, none⟩)] w fun e w' => e = .returned (.bool (decide (0 < (fairL t but).length))) ∧ Lrn bc bk w w' ∧ TownW w' bt bc bk a1 a2 a3 a4 k1 k2 k3 k4 t but := by
  have FR := Lib.hid (fun W : World => PFair_any bt W)
  have hlo1 := hm.bc_lt
  have hlo2 := hm.bk_lt
  have hSE := PFair_seq a1 a2 a3 a4 k1 k2 k3 k4 t bt bc bk but (w.heap.size + 1) hv hbut
  refine (callsIn_wide (n := 0)).1 ?_
  refine callsIn_of_wp_marks Tryz.func83 rfl trivial ?_ rfl
  simp only [Tryz.ntmps83, List.size_toArray, List.length_cons, List.length_nil, Nat.reduceAdd, Nat.reduceSub, Array.replicate_succ, Array.replicate_zero, List.push_toArray, List.append_toArray, List.nil_append, List.cons_append]
  refine (wpIn_wide (n := 0)).2 ?_
  go_wp2_with (go_at_call 44; go_must ((with_reducible refine (FR.out _).mono ?_); rintro e w3 ⟨rfl, rfl⟩; dsimp only))
  have hsz : ((w.alloc (.cells #[.bool false] 4)).alloc (.cells #[.pointer (some ⟨bt, 0, none⟩)] 100)).heap.size = w.heap.size + 1 + 1 := by simp
  have hb0 : Below w.heap.size w ((w.alloc (.cells #[.bool false] 4)).alloc (.cells #[.pointer (some ⟨bt, 0, none⟩)] 100)) := ((Below.refl _ w).alloc (Nat.le_refl _) _).alloc (by simp) _
  have hR0 : ((w.alloc (.cells #[.bool false] 4)).alloc (.cells #[.pointer (some ⟨bt, 0, none⟩)] 100)).heap[w.heap.size]? = some (.cells #[.bool false] 4 (0, 0)) := (heap_alloc_old _ _ (by simp)).trans (alloc_atE _ _ rfl)
  have hC0 : ((w.alloc (.cells #[.bool false] 4)).alloc (.cells #[.pointer (some ⟨bt, 0, none⟩)] 100)).heap[w.heap.size + 1]? = some (.cells #[.pointer (some ⟨bt, 0, none⟩)] 100 (0, 0)) := alloc_atE _ _ (by simp)
  refine (wpIn_wide (n := 0)).1 ?_
  refine wpIn_rangeFunc_Y (gf := 93) (lb := #[.pointer (some ⟨w.heap.size + 1, 0, none⟩)]) (by go_simp) (enters_of Tryz.func93 (by kernel_rfl) rfl) hSE (Nat.le_refl _)
    (fun A A' h => h.1.above (by omega) (by omega)) (fun _ => rfl)
    (fun pre A => pre = [] ∧ TwG w A bc bk t ∧ A.heap[w.heap.size]? = some (.cells #[.bool false] 4 (0, 0)) ∧ A.heap[w.heap.size + 1]? = some (.cells #[.pointer (some ⟨bt, 0, none⟩)] 100 (0, 0)))
    (fun c pre A => c = .ret ∧ 0 < (fairL t but).length ∧ TwG w A bc bk t ∧ A.heap[w.heap.size]? = some (.cells #[.bool true] 4 (0, 0)))
    (fun s A A' h ⟨hb, _⟩ => ⟨h.1, h.2.1.below hb (by omega) (by omega) (by omega), (hb.block _ (by omega)).trans h.2.2.1, (hb.block _ (by omega)).trans h.2.2.2⟩)
    (fun c s A A' h ⟨hb, _⟩ => ⟨h.1, h.2.1, h.2.2.1.below hb (by omega) (by omega) (by omega), (hb.block _ (by omega)).trans h.2.2.2⟩)
    (fun s A A' h hR => ⟨h.1, h.2.1.step hR.1 hR.2, hR.1.cellsN h.2.2.1 (by omega) (by omega), hR.1.cellsN h.2.2.2 (by omega) (by omega)⟩)
    (fun s A h => ⟨h.2.1.town hm, h.2.2.2⟩)
    ⟨rfl, hm.start.below hb0 (Nat.le_refl _) hlo1 hlo2, hR0, hC0⟩ ?round ?done ?stop
  case round =>
    intro l pre x W hl1 hl2 hI hpre
    have hpos : 0 < (fairL t but).length := by obtain ⟨t, ht⟩ := hpre; rw [← ht]; simp; omega
    gi_wp2
    refine ⟨Above.refl _ _, hI, ?_⟩
    intro Wb hs2 hblk hIb
    obtain ⟨-, hG, hR, hC⟩ := hIb
    have r0 := blk_cell 0 hR rfl
    simp only [List.getElem_toArray, List.getElem_cons_zero] at r0
    have rf := blk_free 0 hR
    have rz := lt_of_block hR
    gi_wp2
    refine ⟨Above.of_set _ _ _ _ _ (by omega), rfl, hpos, hG.below ((Below.refl w.heap.size Wb).setCell (by simp) _) (Nat.le_refl _) hlo1 hlo2, blk_set 0 _ hR⟩
  case done =>
    intro D W hD hI hK
    obtain ⟨h0, hG, hR, hC⟩ := hI
    have r0 := blk_cell 0 hR rfl
    simp only [List.getElem_toArray, List.getElem_cons_zero] at r0
    have rf := blk_free 0 hR
    have rz := lt_of_block hR
    have H0 := Lib.hid h0
    clear h0
    have hKs : (W.setCell ⟨w.heap.size, 0, none⟩ (.bool false)).heap[D]? = some (.deferred (some [])) := (Below.heap_setCell _ _ _ _ (fun e => by simp only at e; omega)).trans hK
    have hRs := blk_set 0 (.bool false) hR
    have hGs := hG.below ((((Below.refl w.heap.size W).setCell (by simp) (.bool false) : Below w.heap.size W (W.setCell ⟨w.heap.size, 0, none⟩ (.bool false)))).trans (below_putP _ w.heap.size D (.deferred none) (by omega))) (Nat.le_refl _) hlo1 hlo2
    go_wp2
    refine ⟨by simp, .inl ⟨_, _, rfl, run_takeDeferred hKs, ?_⟩⟩
    have c1 : ((W.setCell ⟨w.heap.size, 0, none⟩ (.bool false)).putObj D (.deferred none)).cell? ⟨w.heap.size, 0, none⟩ = some (.bool false) := blk_cell 0 ((World.putObj_heap_other (by omega)).trans hRs) rfl
    refine ⟨.bool false, ?_, ret_bool (by rw [H0.out]; simp), hGs.lrn, hGs.town hm⟩
    rw [results_one rfl]
    go_simp
  case stop =>
    intro D c pre W hD hI hK
    obtain ⟨rfl, hpos, hG, hR⟩ := hI
    have hGs := hG.below (below_putP W w.heap.size D (.deferred none) (by omega)) (Nat.le_refl _) hlo1 hlo2
    gi_wp2
    refine ⟨by simp, .inl ⟨_, _, rfl, run_takeDeferred hK, ?_⟩⟩
    have c1 : (W.putObj D (.deferred none)).cell? ⟨w.heap.size, 0, none⟩ = some (.bool true) := blk_cell 0 ((World.putObj_heap_other (by omega)).trans hR) rfl
    refine ⟨.bool true, ?_, ret_bool (by simp; omega), hGs.lrn, hGs.town hm⟩
    rw [results_one rfl]
    go_simp
theorem box_town {w W : World} {a1 a2 a3 a4 : Option Addr} {k1 k2 k3 k4 : Nat} {t : PeW} (h : Below (w.heap.size + 1) (w.alloc (.cells #[.int .i64 t.ear.sounds, .slice a1 t.ear.alphas.length k1, .slice a2 t.ear.spells.length k2, .int .i64 t.vills, .slice a3 t.ments.length k3, .slice a4 t.ties.length k4] 29)) W) : W.cell? ⟨w.heap.size, 0, none⟩ = some (.int .i64 t.ear.sounds) ∧ W.cell? ⟨w.heap.size, 1, none⟩ = some (.slice a1 t.ear.alphas.length k1) ∧ W.cell? ⟨w.heap.size, 2, none⟩ = some (.slice a2 t.ear.spells.length k2) ∧ W.cell? ⟨w.heap.size, 3, none⟩ = some (.int .i64 t.vills) ∧ W.cell? ⟨w.heap.size, 4, none⟩ = some (.slice a3 t.ments.length k3) ∧ W.cell? ⟨w.heap.size, 5, none⟩ = some (.slice a4 t.ties.length k4) ∧ w.heap.size < W.heap.size := by
  have hX : (w.alloc (.cells #[.int .i64 t.ear.sounds, .slice a1 t.ear.alphas.length k1, .slice a2 t.ear.spells.length k2, .int .i64 t.vills, .slice a3 t.ments.length k3, .slice a4 t.ties.length k4] 29)).heap[w.heap.size]? = some (.cells #[.int .i64 t.ear.sounds, .slice a1 t.ear.alphas.length k1, .slice a2 t.ear.spells.length k2, .int .i64 t.vills, .slice a3 t.ments.length k3, .slice a4 t.ties.length k4] 29 (0, 0)) := alloc_atE _ _ rfl
  have hB := (h.block _ (by omega)).trans hX
  exact ⟨blk_cell 0 hB rfl, blk_cell 1 hB rfl, blk_cell 2 hB rfl, blk_cell 3 hB rfl, blk_cell 4 hB rfl, blk_cell 5 hB rfl, lt_of_block hB⟩
theorem PLook0_any (a1 a2 a3 a4 : Option Addr) (k1 k2 k3 k4 : Nat) (t : PeW) (w : World) (hm : TownC w a1 a2 a3 a4 k1 k2 k3 k4 t) :
    Calls Tryz.prog 41 #[(.agg #[.int .i64 t.ear.sounds, .slice a1 t.ear.alphas.length k1, .slice a2 t.ear.spells.length k2, .int .i64 t.vills, .slice a3 t.ments.length k3, .slice a4 t.ties.length k4]), .int .i64 0] w fun e w' => ∃ bt bc bk : Nat, e = .returned (.pointer (some ⟨bt, 0, none⟩)) ∧ TownW w' bt bc bk a1 a2 a3 a4 k1 k2 k3 k4 t 0 ∧ Below w.heap.size w w' ∧ w.heap.size ≤ bt ∧ w.heap.size ≤ bc ∧ w.heap.size ≤ bk := PLook_any a1 a2 a3 a4 k1 k2 k3 k4 t 0 w hm
/-- enter: a town that is looked at, or there is no truth. -/
def EnterPost (w : World) (a1 a2 a3 a4 : Option Addr) (k1 k2 k3 k4 : Nat) (t : PeW) (e : Ending) (w' : World) : Prop :=
  (fairL t 0 = [] ∧ e = .returned (.tuple #[.pointer none, .int .i64 8]) ∧ Below w.heap.size w w') ∨
  (fairL t 0 ≠ [] ∧ ∃ bt bc bk : Nat, e = .returned (.tuple #[.pointer (some ⟨bt, 0, none⟩), .int .i64 0]) ∧ TownW w' bt bc bk a1 a2 a3 a4 k1 k2 k3 k4 t 0 ∧ Below w.heap.size w w' ∧ w.heap.size ≤ bt ∧ w.heap.size ≤ bc ∧ w.heap.size ≤ bk)
set_option maxRecDepth 100000 in
set_option maxHeartbeats 2000000 in
theorem PEnter_any (a1 a2 a3 a4 : Option Addr) (k1 k2 k3 k4 : Nat) (t : PeW) (F : Nat) (caps : Array Value) (w : World) (hm : TownC w a1 a2 a3 a4 k1 k2 k3 k4 t) (hv : PeValid t) (hCF : ∀ (xs : Array Value) (W : World), (callFunc F xs).run Tryz.prog W = .ok (.enter F xs) W)
    (hF : ∀ V, Below w.heap.size w V → Calls Tryz.prog F caps V fun e w' => e = .returned (.int .i64 0) ∧ Below V.heap.size V w') :
    Calls Tryz.prog 43 #[(.agg #[.int .i64 t.ear.sounds, .slice a1 t.ear.alphas.length k1, .slice a2 t.ear.spells.length k2, .int .i64 t.vills, .slice a3 t.ments.length k3, .slice a4 t.ties.length k4]), .func (.func F) #[] caps] w (EnterPost w a1 a2 a3 a4 k1 k2 k3 k4 t) := by
  have C := Lib.hid (fun (V : World) (h : Below (w.heap.size + 1) (w.alloc (.cells #[.int .i64 t.ear.sounds, .slice a1 t.ear.alphas.length k1, .slice a2 t.ear.spells.length k2, .int .i64 t.vills, .slice a3 t.ments.length k3, .slice a4 t.ties.length k4] 29)) V) => PCheck_any a1 a2 a3 a4 k1 k2 k3 k4 t V (hm.mono (box_old h)) hv)
  have LK := Lib.hid (fun (V : World) (h : Below (w.heap.size + 1) (w.alloc (.cells #[.int .i64 t.ear.sounds, .slice a1 t.ear.alphas.length k1, .slice a2 t.ear.spells.length k2, .int .i64 t.vills, .slice a3 t.ments.length k3, .slice a4 t.ties.length k4] 29)) V) => PLook0_any a1 a2 a3 a4 k1 k2 k3 k4 t V (hm.mono (box_old h)))
  have SM := Lib.hid (fun (V : World) (bt bc bk : Nat) (h : TownW V bt bc bk a1 a2 a3 a4 k1 k2 k3 k4 t 0) => PSome_any a1 a2 a3 a4 k1 k2 k3 k4 t bt bc bk 0 V h hv.ok (by omega))
  have HF := Lib.hid (fun (V : World) (h : Below (w.heap.size + 1) (w.alloc (.cells #[.int .i64 t.ear.sounds, .slice a1 t.ear.alphas.length k1, .slice a2 t.ear.spells.length k2, .int .i64 t.vills, .slice a3 t.ments.length k3, .slice a4 t.ties.length k4] 29)) V) => hF V (box_old h))
  have hQ := Below.refl (w.heap.size + 1) (w.alloc (.cells #[.int .i64 t.ear.sounds, .slice a1 t.ear.alphas.length k1, .slice a2 t.ear.spells.length k2, .int .i64 t.vills, .slice a3 t.ments.length k3, .slice a4 t.ties.length k4] 29))
  obtain ⟨x0, x1, x2, x3, x4, x5, xz⟩ := box_town hQ
  have HPost : Hid (∀ e w', EnterPost w a1 a2 a3 a4 k1 k2 k3 k4 t e w' ↔ EnterPost w a1 a2 a3 a4 k1 k2 k3 k4 t e w') := Lib.hid fun _ _ => Iff.rfl
  clear hm hv hF
  go_enter Tryz.func43, Tryz.ntmps43
  go_wp2_with (first
    | (go_at_call 41; go_must ((with_reducible refine (LK.out _ hQ3).mono ?_); rintro e w4 ⟨bt, bc, bk, rfl, ht4, hb4, g1, g2, g3⟩; have hQ4 := box_on hQ3 hb4; dsimp only))
    | ((with_reducible refine (HF.out _ hQ2).mono ?_); rintro e w3 ⟨rfl, hb3⟩; have hQ3 := box_on hQ2 hb3; obtain ⟨x0, x1, x2, x3, x4, x5, xz⟩ := box_town hQ3; dsimp only)
    | (go_at_call 39; go_must ((with_reducible refine (C.out _ hQ).mono ?_); rintro e w2 ⟨rfl, hb2⟩; have hQ2 := box_on hQ hb2; obtain ⟨x0, x1, x2, x3, x4, x5, xz⟩ := box_town hQ2; dsimp only)))
  have SW := SM.out _ _ _ _ ht4
  have hz4 := box_size hQ4
  have hL4 : Below w.heap.size w w4 := box_old hQ4
  by_cases hne : fairL t 0 = []
  · have e1 : decide (0 < (fairL t 0).length) = false := by rw [hne]; rfl
    rw [e1] at SW
    have HNE := Lib.hid hne
    clear e1 hne
    (with_reducible refine SW.mono ?_)
    rintro e w5 ⟨rfl, hl5, ht5⟩
    dsimp only
    go_wp2
    go_ret2
    exact .inl ⟨HNE.out, rfl, hl5.own hL4 (by omega) (by omega)⟩
  · have e1 : decide (0 < (fairL t 0).length) = true := by simp; exact List.length_pos_iff.2 hne
    rw [e1] at SW
    have HNE := Lib.hid hne
    clear e1 hne
    (with_reducible refine SW.mono ?_)
    rintro e w5 ⟨rfl, hl5, ht5⟩
    dsimp only
    go_wp2
    go_ret2
    exact .inr ⟨HNE.out, bt, bc, bk, rfl, ht5, hl5.own hL4 (by omega) (by omega), by omega, by omega, by omega⟩
end Go.Proofs.YtklconegomgjaaaGreat
