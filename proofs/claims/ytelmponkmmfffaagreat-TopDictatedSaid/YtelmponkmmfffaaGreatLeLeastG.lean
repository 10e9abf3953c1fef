/- What is proved here: contracts of a reader's fits and step. Conditions: the reader lies in memory; the place is one of it. -/
/- What is proved here: contracts of a reader's left$1 and of letter.least with it, from the contracts of corrections at the places that can follow. Conditions: the reader lies in memory; the place is one of it. -/
import Derived.Test.YtelmponkmmfffaaGreatLeWaysG
import Derived.Test.YtelmponkmmfffaaGreatLeWays2
import Derived.BigQuiet
import Derived.Test.YtelmponkmmfffaaGreatDeBest1G
set_option linter.unusedVariables false
set_option linter.unusedSimpArgs false
namespace Go.Proofs.YtelmponkmmfffaaGreat
open Go Go.RowKit Go.Shelf
variable (br bo : Nat) (aa ab : Option Addr) (ca cb : Nat) (a b : List ByteArray)
set_option maxRecDepth 100000 in
set_option maxHeartbeats 4000000 in
theorem RFits_any (i k : Nat) (w : World) (hm : RdW w br bo aa ab ca cb a b) (hi : i < a.length) (hk : k < b.length) (ha : a.length ≤ 60) (hb : b.length ≤ 60) :
    Calls Tryz.prog 125 #[.pointer (some ⟨br, 0, none⟩), .agg #[.int .i64 (i : Int), .int .i64 (k : Int)]] w fun e w' => e = .returned (.bool (fitB b[k] a[i])) ∧ Below w.heap.size w w' := by
  obtain ⟨X, hX⟩ : ∃ X : World, X = w.alloc (.cells #[.int .i64 (i : Int), .int .i64 (k : Int)] 141) := ⟨_, rfl⟩
  have hwX : Below w.heap.size w X := by rw [hX]; exact (Below.refl _ w).alloc (Nat.le_refl _) _
  have g1 : X.heap[w.heap.size]? = some (.cells #[.int .i64 (i : Int), .int .i64 (k : Int)] 141 (0, 0)) := by rw [hX]; exact alloc_at _ _ rfl
  have hmX := hm.below hwX
  obtain ⟨b1, o1, e1, z1, c1⟩ := hmX.from_ i hi
  obtain ⟨b2, o2, e2, z2, c2⟩ := hmX.shape k hk
  have r0 := blk_cell 0 hmX.blk rfl
  have r1 := blk_cell 1 hmX.blk rfl
  have rz := lt_of_block hmX.blk
  have p0 := blk_cell 0 g1 rfl
  have p1 := blk_cell 1 g1 rfl
  have pz := lt_of_block g1
  simp only [List.getElem_toArray, List.getElem_cons_zero, List.getElem_cons_succ] at r0 r1 p0 p1
  subst e1
  subst e2
  have h1 := emp_eq b[k]
  have h2 := str_eq b[k] a[i]
  have HF := Lib.hid (show fitB b[k] a[i] = (decide (b[k] = noW) || decide (b[k] = a[i])) from rfl)
  generalize fitB b[k] a[i] = r at HF ⊢
  generalize decide (b[k] = noW) = c at h1 HF
  generalize decide (b[k] = a[i]) = d at h2 HF
  generalize a[i] = x at *
  generalize b[k] = y at *
  have hiI : (i : Int) < (a.length : Int) := by omega
  have hkI : (k : Int) < (b.length : Int) := by omega
  have HX := Lib.hid hX
  clear hX hm hmX g1
  go_enter Tryz.func125, Tryz.ntmps125
  go_upto_region 1 with (fail)
  rw [← HX.out]
  clear HX
  cases c
  · go_quiet (fail)
    go_wp2
    go_ret
    exact ⟨ret_bool (by rw [HF.out]; simp), below_drewN' hwX _⟩
  · go_quiet (fail)
    go_wp2
    go_ret
    exact ⟨ret_bool (by rw [HF.out]; simp), below_drewN' hwX _⟩
theorem results_ct {fn : Func} {p q : Tmp} {ty : TypeId} (h : fn.results = #[.cell p ty, .tmp q]) (tmps : Array Value) (P : Program) (w : World) :
    (results fn tmps).run P w = ((asAddr (tmps.getD p undef)).run P w).andThen fun a w₁ => ((loadVar ty a).run P w₁).andThen fun x w₂ => .ok (.tuple #[x, tmps.getD q undef]) w₂ := by
  simp only [results, h]
  simp [Sem.run_bind, Result.andThen]
/-- Three blocks of step: the place, the answer, the next place. -/
structure Stp (W : World) (B : Nat) (i k i' k' : Int) : Prop where
  p : W.heap[B]? = some (.cells #[.int .i64 i, .int .i64 k] 141 (0, 0))
  r : W.heap[B + 1]? = some (.cells #[.int .i64 0, .int .i64 0] 141 (0, 0))
  n : W.heap[B + 1 + 1]? = some (.cells #[.int .i64 i', .int .i64 k'] 141 (0, 0))
theorem Stp.cells {W : World} {B : Nat} {i k i' k' : Int} (h : Stp W B i k i' k') : (W.cell? ⟨B, 0, none⟩ = some (.int .i64 i) ∧ W.cell? ⟨B, 1, none⟩ = some (.int .i64 k) ∧ B < W.heap.size) ∧ (W.cell? ⟨B + 1, 0, none⟩ = some (.int .i64 0) ∧ W.cell? ⟨B + 1, 1, none⟩ = some (.int .i64 0) ∧ W.frozen? ⟨B + 1, 0, none⟩ = false ∧ W.frozen? ⟨B + 1, 1, none⟩ = false ∧ B + 1 < W.heap.size) ∧ (W.cell? ⟨B + 1 + 1, 0, none⟩ = some (.int .i64 i') ∧ W.cell? ⟨B + 1 + 1, 1, none⟩ = some (.int .i64 k') ∧ W.frozen? ⟨B + 1 + 1, 0, none⟩ = false ∧ W.frozen? ⟨B + 1 + 1, 1, none⟩ = false ∧ B + 1 + 1 < W.heap.size) :=
  ⟨⟨blk_cell 0 h.p rfl, blk_cell 1 h.p rfl, lt_of_block h.p⟩, ⟨blk_cell 0 h.r rfl, blk_cell 1 h.r rfl, blk_free 0 h.r, blk_free 1 h.r, lt_of_block h.r⟩, ⟨blk_cell 0 h.n rfl, blk_cell 1 h.n rfl, blk_free 0 h.n, blk_free 1 h.n, lt_of_block h.n⟩⟩
theorem Stp.below {W W' : World} {B : Nat} {i k i' k' : Int} (h : Stp W B i k i' k') (hb : Below W.heap.size W W') : Stp W' B i k i' k' := ⟨(hb.block _ (lt_of_block h.p)).trans h.p, (hb.block _ (lt_of_block h.r)).trans h.r, (hb.block _ (lt_of_block h.n)).trans h.n⟩
theorem Stp.set0 {W : World} {B : Nat} {i k i' k' : Int} (h : Stp W B i k i' k') (v : Int) : Stp (W.setCell ⟨B + 1 + 1, 0, none⟩ (.int .i64 v)) B i k v k' := ⟨(Below.heap_setCell _ _ _ _ (by simp only; omega)).trans h.p, (Below.heap_setCell _ _ _ _ (by simp)).trans h.r, blk_set 0 _ h.n⟩
theorem Stp.set1 {W : World} {B : Nat} {i k i' k' : Int} (h : Stp W B i k i' k') (v : Int) : Stp (W.setCell ⟨B + 1 + 1, 1, none⟩ (.int .i64 v)) B i k i' v := ⟨(Below.heap_setCell _ _ _ _ (by simp only; omega)).trans h.p, (Below.heap_setCell _ _ _ _ (by simp)).trans h.r, blk_set 1 _ h.n⟩
/-- What step answers. -/
def stepV (kind i k : Nat) : Value := match stepP a b kind i k with
  | none => .tuple #[plV (i, k), .int .i64 (-1)]
  | some (i', k', c) => .tuple #[plV (i', k'), .int .i64 c]
-- steps
set_option maxRecDepth 100000 in
set_option maxHeartbeats 8000000 in
theorem RStep0_any (i k : Nat) (w : World) (hm : RdW w br bo aa ab ca cb a b) (hi : i ≤ a.length) (hk : k ≤ b.length) (ha : a.length ≤ 60) (hb : b.length ≤ 60) :
    Calls Tryz.prog 77 #[.pointer (some ⟨br, 0, none⟩), .int .i64 0, .agg #[.int .i64 (i : Int), .int .i64 (k : Int)]] w fun e w' => e = .returned (stepV a b 0 i k) ∧ Below w.heap.size w w' := by
  obtain ⟨X, hX⟩ : ∃ X : World, X = ((w.alloc (.cells #[.int .i64 (i : Int), .int .i64 (k : Int)] 141)).alloc (.cells #[.int .i64 0, .int .i64 0] 141)).alloc (.cells #[.int .i64 (i : Int), .int .i64 (k : Int)] 141) := ⟨_, rfl⟩
  have hwX : Below w.heap.size w X := by rw [hX]; exact (((Below.refl _ w).alloc (Nat.le_refl _) _).alloc (by simp) _).alloc (by simp; omega) _
  have g0 : X.heap[w.heap.size]? = some (.cells #[.int .i64 (i : Int), .int .i64 (k : Int)] 141 (0, 0)) := by rw [hX]; exact (heap_alloc_old _ _ (by simp; omega)).trans ((heap_alloc_old _ _ (by simp)).trans (alloc_at _ _ rfl))
  have g1 : X.heap[w.heap.size + 1]? = some (.cells #[.int .i64 0, .int .i64 0] 141 (0, 0)) := by rw [hX]; exact (heap_alloc_old _ _ (by simp)).trans (alloc_at _ _ (by simp))
  have g2 : X.heap[w.heap.size + 1 + 1]? = some (.cells #[.int .i64 (i : Int), .int .i64 (k : Int)] 141 (0, 0)) := by rw [hX]; exact alloc_at _ _ (by simp)
  have hS : Stp X w.heap.size i k i k := ⟨g0, g1, g2⟩
  have HRD := Lib.hid (fun (V : World) (h : Below w.heap.size w V) => hm.below h)
  have hsv := Lib.hid (show stepV a b 0 i k = (if i < a.length ∧ k < b.length ∧ fitB (b[k]?.getD noW) (a[i]?.getD noW) = true then .tuple #[plV (i + 1, k + 1), .int .i64 0] else .tuple #[plV (i, k), .int .i64 (-1)]) by unfold stepV stepP; simp only; by_cases h : i < a.length ∧ k < b.length ∧ fitB (b[k]?.getD noW) (a[i]?.getD noW) = true; (rw [if_pos h, if_pos h]); (rw [if_neg h, if_neg h]))
  generalize stepV a b 0 i k = sv at *
  obtain ⟨-, -, n0, n1, nf0, nf1, nz⟩ := hS.cells
  have HX := Lib.hid hX
  clear hX hm g0 g1 g2
  go_enter Tryz.func77, Tryz.ntmps77
  go_upto_region 3 with (fail)
  rw [← HX.out]
  clear HX
  go_upto_region 7 with (fail)
  obtain ⟨Z, hZ⟩ : ∃ Z : World, Z = (X.setCell ⟨w.heap.size + 1 + 1, 1, none⟩ (.int .i64 ((k : Int) + 1))).setCell ⟨w.heap.size + 1 + 1, 0, none⟩ (.int .i64 ((i : Int) + 1)) := ⟨_, rfl⟩
  rw [← hZ]
  have hSZ : Stp Z w.heap.size i k ((i : Int) + 1) ((k : Int) + 1) := by rw [hZ]; exact (hS.set1 _).set0 _
  have hXZ : Below w.heap.size X Z := by rw [hZ]; exact ((Below.refl _ _).setCell (by simp; omega) _).setCell (by simp; omega) _
  have hwZ := hwX.trans hXZ
  have hmZ := HRD.out Z hwZ
  clear hZ n0 n1 nf0 nf1 nz
  obtain ⟨⟨p0, p1, pz⟩, -, n0, n1, -, -, nz⟩ := hSZ.cells
  have r0 := blk_cell 0 hmZ.blk rfl
  have r1 := blk_cell 1 hmZ.blk rfl
  have rz := lt_of_block hmZ.blk
  simp only [List.getElem_toArray, List.getElem_cons_zero, List.getElem_cons_succ] at r0 r1
  have HS2 := Lib.hid hSZ
  clear hSZ hmZ hS
  by_cases hli : i < a.length
  · have hna : ¬ (a.length : Int) < (i : Int) + 1 := by omega
    by_cases hlk : k < b.length
    · have hnb : ¬ (b.length : Int) < (k : Int) + 1 := by omega
      go_quiet (fail)
      obtain ⟨Y, hY⟩ : ∃ Y : World, Y = Z.drewN nq := ⟨_, rfl⟩
      rw [← hY]
      have hbY : Below Z.heap.size Z Y := by rw [hY]; exact below_draws _ _ _
      have hSY := HS2.out.below hbY
      have hwY := hwZ.trans (hbY.mono hwZ.size)
      clear hY hbY p0 p1 pz n0 n1 nz r0 r1 rz
      have FT := RFits_any br bo aa ab ca cb a b i k Y (HRD.out Y hwY) hli hlk ha hb
      have hsv2 := hsv.out
      rw [List.getElem?_eq_getElem hli, List.getElem?_eq_getElem hlk, Option.getD_some, Option.getD_some] at hsv2
      generalize fitB b[k] a[i] = q at FT hsv2
      have FT := Lib.hid FT
      have HSV := Lib.hid hsv2
      clear hsv hsv2
      obtain ⟨⟨p0, p1, pz⟩, ⟨q0, q1, q2, q3, qz⟩, n0, n1, -, -, nz⟩ := hSY.cells
      have HSY := Lib.hid hSY
      clear hSY
      go_upto_if 56 with (go_at_call 125; go_must ((with_reducible refine FT.out.mono ?_); rintro e w5 ⟨rfl, hb5⟩; dsimp only))
      have hw5 := hwY.trans (hb5.mono hwY.size)
      have hS5 := HSY.out.below hb5
      clear FT p0 p1 pz q0 q1 q2 q3 qz n0 n1 nz
      obtain ⟨⟨p0, p1, pz⟩, ⟨q0, q1, q2, q3, qz⟩, n0, n1, -, -, nz⟩ := hS5.cells
      cases q
      · go_wp2
        refine bodyPost_ret (v := .tuple #[.agg #[.int .i64 (i : Int), .int .i64 (k : Int)], .int .i64 (-1)]) ?_ rfl ⟨by rw [HSV.out, if_neg (fun h => by simp at h)]; try rfl, ?_⟩
        · rw [results_ct rfl]
          go_simp
        · exact (hw5.setCell (by simp) _).setCell (by simp) _
      · go_wp2
        refine bodyPost_ret (v := .tuple #[.agg #[.int .i64 ((i : Int) + 1), .int .i64 ((k : Int) + 1)], .int .i64 0]) ?_ rfl ⟨by rw [HSV.out, if_pos ⟨hli, hlk, by first | trivial | rfl⟩]; try rfl, ?_⟩
        · rw [results_ct rfl]
          go_simp
        · exact (hw5.setCell (by simp) _).setCell (by simp) _
    · have hnb : (b.length : Int) < (k : Int) + 1 := by omega
      go_quiet (fail)
      obtain ⟨Y, hY⟩ : ∃ Y : World, Y = Z.drewN nq := ⟨_, rfl⟩
      rw [← hY]
      have hbY : Below Z.heap.size Z Y := by rw [hY]; exact below_draws _ _ _
      have hSY := HS2.out.below hbY
      have hwY := hwZ.trans (hbY.mono hwZ.size)
      clear hY hbY p0 p1 pz n0 n1 nz r0 r1 rz
      obtain ⟨⟨p0, p1, pz⟩, ⟨q0, q1, q2, q3, qz⟩, n0, n1, -, -, nz⟩ := hSY.cells
      go_wp2
      refine bodyPost_ret (v := .tuple #[.agg #[.int .i64 (i : Int), .int .i64 (k : Int)], .int .i64 (-1)]) ?_ rfl ⟨by rw [hsv.out, if_neg (fun h => hlk h.2.1)]; try rfl, ?_⟩
      · rw [results_ct rfl]
        go_simp
      · exact (hwY.setCell (by simp) _).setCell (by simp) _
  · have hna : (a.length : Int) < (i : Int) + 1 := by omega
    go_quiet (fail)
    obtain ⟨Y, hY⟩ : ∃ Y : World, Y = Z.drewN nq := ⟨_, rfl⟩
    rw [← hY]
    have hbY : Below Z.heap.size Z Y := by rw [hY]; exact below_draws _ _ _
    have hSY := HS2.out.below hbY
    have hwY := hwZ.trans (hbY.mono hwZ.size)
    clear hY hbY p0 p1 pz n0 n1 nz r0 r1 rz
    obtain ⟨⟨p0, p1, pz⟩, ⟨q0, q1, q2, q3, qz⟩, n0, n1, -, -, nz⟩ := hSY.cells
    go_wp2
    refine bodyPost_ret (v := .tuple #[.agg #[.int .i64 (i : Int), .int .i64 (k : Int)], .int .i64 (-1)]) ?_ rfl ⟨by rw [hsv.out, if_neg (fun h => hli h.1)]; try rfl, ?_⟩
    · rw [results_ct rfl]
      go_simp
    · exact (hwY.setCell (by simp) _).setCell (by simp) _
set_option maxRecDepth 100000 in
set_option maxHeartbeats 8000000 in
theorem RStep1_any (i k : Nat) (w : World) (hm : RdW w br bo aa ab ca cb a b) (hi : i ≤ a.length) (hk : k ≤ b.length) (ha : a.length ≤ 60) (hb : b.length ≤ 60) :
    Calls Tryz.prog 77 #[.pointer (some ⟨br, 0, none⟩), .int .i64 1, .agg #[.int .i64 (i : Int), .int .i64 (k : Int)]] w fun e w' => e = .returned (stepV a b 1 i k) ∧ Below w.heap.size w w' := by
  obtain ⟨X, hX⟩ : ∃ X : World, X = ((w.alloc (.cells #[.int .i64 (i : Int), .int .i64 (k : Int)] 141)).alloc (.cells #[.int .i64 0, .int .i64 0] 141)).alloc (.cells #[.int .i64 (i : Int), .int .i64 (k : Int)] 141) := ⟨_, rfl⟩
  have hwX : Below w.heap.size w X := by rw [hX]; exact (((Below.refl _ w).alloc (Nat.le_refl _) _).alloc (by simp) _).alloc (by simp; omega) _
  have g0 : X.heap[w.heap.size]? = some (.cells #[.int .i64 (i : Int), .int .i64 (k : Int)] 141 (0, 0)) := by rw [hX]; exact (heap_alloc_old _ _ (by simp; omega)).trans ((heap_alloc_old _ _ (by simp)).trans (alloc_at _ _ rfl))
  have g1 : X.heap[w.heap.size + 1]? = some (.cells #[.int .i64 0, .int .i64 0] 141 (0, 0)) := by rw [hX]; exact (heap_alloc_old _ _ (by simp)).trans (alloc_at _ _ (by simp))
  have g2 : X.heap[w.heap.size + 1 + 1]? = some (.cells #[.int .i64 (i : Int), .int .i64 (k : Int)] 141 (0, 0)) := by rw [hX]; exact alloc_at _ _ (by simp)
  have hS : Stp X w.heap.size i k i k := ⟨g0, g1, g2⟩
  have HRD := Lib.hid (fun (V : World) (h : Below w.heap.size w V) => hm.below h)
  have hsv := Lib.hid (show stepV a b 1 i k = (if i < a.length ∧ k < b.length ∧ fitB (b[k]?.getD noW) (a[i]?.getD noW) = false then .tuple #[plV (i + 1, k + 1), .int .i64 1] else .tuple #[plV (i, k), .int .i64 (-1)]) by unfold stepV stepP; simp only; by_cases h : i < a.length ∧ k < b.length ∧ fitB (b[k]?.getD noW) (a[i]?.getD noW) = false; (rw [if_pos h, if_pos h]); (rw [if_neg h, if_neg h]))
  generalize stepV a b 1 i k = sv at *
  obtain ⟨-, -, n0, n1, nf0, nf1, nz⟩ := hS.cells
  have HX := Lib.hid hX
  clear hX hm g0 g1 g2
  go_enter Tryz.func77, Tryz.ntmps77
  go_upto_region 3 with (fail)
  rw [← HX.out]
  clear HX
  go_upto_region 7 with (fail)
  obtain ⟨Z, hZ⟩ : ∃ Z : World, Z = (X.setCell ⟨w.heap.size + 1 + 1, 1, none⟩ (.int .i64 ((k : Int) + 1))).setCell ⟨w.heap.size + 1 + 1, 0, none⟩ (.int .i64 ((i : Int) + 1)) := ⟨_, rfl⟩
  rw [← hZ]
  have hSZ : Stp Z w.heap.size i k ((i : Int) + 1) ((k : Int) + 1) := by rw [hZ]; exact (hS.set1 _).set0 _
  have hXZ : Below w.heap.size X Z := by rw [hZ]; exact ((Below.refl _ _).setCell (by simp; omega) _).setCell (by simp; omega) _
  have hwZ := hwX.trans hXZ
  have hmZ := HRD.out Z hwZ
  clear hZ n0 n1 nf0 nf1 nz
  obtain ⟨⟨p0, p1, pz⟩, -, n0, n1, -, -, nz⟩ := hSZ.cells
  have r0 := blk_cell 0 hmZ.blk rfl
  have r1 := blk_cell 1 hmZ.blk rfl
  have rz := lt_of_block hmZ.blk
  simp only [List.getElem_toArray, List.getElem_cons_zero, List.getElem_cons_succ] at r0 r1
  have HS2 := Lib.hid hSZ
  clear hSZ hmZ hS
  by_cases hli : i < a.length
  · have hna : ¬ (a.length : Int) < (i : Int) + 1 := by omega
    by_cases hlk : k < b.length
    · have hnb : ¬ (b.length : Int) < (k : Int) + 1 := by omega
      go_quiet (fail)
      obtain ⟨Y, hY⟩ : ∃ Y : World, Y = Z.drewN nq := ⟨_, rfl⟩
      rw [← hY]
      have hbY : Below Z.heap.size Z Y := by rw [hY]; exact below_draws _ _ _
      have hSY := HS2.out.below hbY
      have hwY := hwZ.trans (hbY.mono hwZ.size)
      clear hY hbY p0 p1 pz n0 n1 nz r0 r1 rz
      have FT := RFits_any br bo aa ab ca cb a b i k Y (HRD.out Y hwY) hli hlk ha hb
      have hsv2 := hsv.out
      rw [List.getElem?_eq_getElem hli, List.getElem?_eq_getElem hlk, Option.getD_some, Option.getD_some] at hsv2
      generalize fitB b[k] a[i] = q at FT hsv2
      have FT := Lib.hid FT
      have HSV := Lib.hid hsv2
      clear hsv hsv2
      obtain ⟨⟨p0, p1, pz⟩, ⟨q0, q1, q2, q3, qz⟩, n0, n1, -, -, nz⟩ := hSY.cells
      have HSY := Lib.hid hSY
      clear hSY
      go_upto_if 56 with (go_at_call 125; go_must ((with_reducible refine FT.out.mono ?_); rintro e w5 ⟨rfl, hb5⟩; dsimp only))
      have hw5 := hwY.trans (hb5.mono hwY.size)
      have hS5 := HSY.out.below hb5
      clear FT p0 p1 pz q0 q1 q2 q3 qz n0 n1 nz
      obtain ⟨⟨p0, p1, pz⟩, ⟨q0, q1, q2, q3, qz⟩, n0, n1, -, -, nz⟩ := hS5.cells
      cases q
      · go_wp2
        refine bodyPost_ret (v := .tuple #[.agg #[.int .i64 ((i : Int) + 1), .int .i64 ((k : Int) + 1)], .int .i64 1]) ?_ rfl ⟨by rw [HSV.out, if_pos ⟨hli, hlk, by first | trivial | rfl⟩]; try rfl, ?_⟩
        · rw [results_ct rfl]
          go_simp
        · exact (hw5.setCell (by simp) _).setCell (by simp) _
      · go_wp2
        refine bodyPost_ret (v := .tuple #[.agg #[.int .i64 (i : Int), .int .i64 (k : Int)], .int .i64 (-1)]) ?_ rfl ⟨by rw [HSV.out, if_neg (fun h => by simp at h)]; try rfl, ?_⟩
        · rw [results_ct rfl]
          go_simp
        · exact (hw5.setCell (by simp) _).setCell (by simp) _
    · have hnb : (b.length : Int) < (k : Int) + 1 := by omega
      go_quiet (fail)
      obtain ⟨Y, hY⟩ : ∃ Y : World, Y = Z.drewN nq := ⟨_, rfl⟩
      rw [← hY]
      have hbY : Below Z.heap.size Z Y := by rw [hY]; exact below_draws _ _ _
      have hSY := HS2.out.below hbY
      have hwY := hwZ.trans (hbY.mono hwZ.size)
      clear hY hbY p0 p1 pz n0 n1 nz r0 r1 rz
      obtain ⟨⟨p0, p1, pz⟩, ⟨q0, q1, q2, q3, qz⟩, n0, n1, -, -, nz⟩ := hSY.cells
      go_wp2
      refine bodyPost_ret (v := .tuple #[.agg #[.int .i64 (i : Int), .int .i64 (k : Int)], .int .i64 (-1)]) ?_ rfl ⟨by rw [hsv.out, if_neg (fun h => hlk h.2.1)]; try rfl, ?_⟩
      · rw [results_ct rfl]
        go_simp
      · exact (hwY.setCell (by simp) _).setCell (by simp) _
  · have hna : (a.length : Int) < (i : Int) + 1 := by omega
    go_quiet (fail)
    obtain ⟨Y, hY⟩ : ∃ Y : World, Y = Z.drewN nq := ⟨_, rfl⟩
    rw [← hY]
    have hbY : Below Z.heap.size Z Y := by rw [hY]; exact below_draws _ _ _
    have hSY := HS2.out.below hbY
    have hwY := hwZ.trans (hbY.mono hwZ.size)
    clear hY hbY p0 p1 pz n0 n1 nz r0 r1 rz
    obtain ⟨⟨p0, p1, pz⟩, ⟨q0, q1, q2, q3, qz⟩, n0, n1, -, -, nz⟩ := hSY.cells
    go_wp2
    refine bodyPost_ret (v := .tuple #[.agg #[.int .i64 (i : Int), .int .i64 (k : Int)], .int .i64 (-1)]) ?_ rfl ⟨by rw [hsv.out, if_neg (fun h => hli h.1)]; try rfl, ?_⟩
    · rw [results_ct rfl]
      go_simp
    · exact (hwY.setCell (by simp) _).setCell (by simp) _
set_option maxRecDepth 100000 in
set_option maxHeartbeats 8000000 in
theorem RStep2_any (i k : Nat) (w : World) (hm : RdW w br bo aa ab ca cb a b) (hi : i ≤ a.length) (hk : k ≤ b.length) (ha : a.length ≤ 60) (hb : b.length ≤ 60) :
    Calls Tryz.prog 77 #[.pointer (some ⟨br, 0, none⟩), .int .i64 2, .agg #[.int .i64 (i : Int), .int .i64 (k : Int)]] w fun e w' => e = .returned (stepV a b 2 i k) ∧ Below w.heap.size w w' := by
  obtain ⟨X, hX⟩ : ∃ X : World, X = ((w.alloc (.cells #[.int .i64 (i : Int), .int .i64 (k : Int)] 141)).alloc (.cells #[.int .i64 0, .int .i64 0] 141)).alloc (.cells #[.int .i64 (i : Int), .int .i64 (k : Int)] 141) := ⟨_, rfl⟩
  have hwX : Below w.heap.size w X := by rw [hX]; exact (((Below.refl _ w).alloc (Nat.le_refl _) _).alloc (by simp) _).alloc (by simp; omega) _
  have g0 : X.heap[w.heap.size]? = some (.cells #[.int .i64 (i : Int), .int .i64 (k : Int)] 141 (0, 0)) := by rw [hX]; exact (heap_alloc_old _ _ (by simp; omega)).trans ((heap_alloc_old _ _ (by simp)).trans (alloc_at _ _ rfl))
  have g1 : X.heap[w.heap.size + 1]? = some (.cells #[.int .i64 0, .int .i64 0] 141 (0, 0)) := by rw [hX]; exact (heap_alloc_old _ _ (by simp)).trans (alloc_at _ _ (by simp))
  have g2 : X.heap[w.heap.size + 1 + 1]? = some (.cells #[.int .i64 (i : Int), .int .i64 (k : Int)] 141 (0, 0)) := by rw [hX]; exact alloc_at _ _ (by simp)
  have hS : Stp X w.heap.size i k i k := ⟨g0, g1, g2⟩
  have HRD := Lib.hid (fun (V : World) (h : Below w.heap.size w V) => hm.below h)
  have hsv := Lib.hid (show stepV a b 2 i k = (if i < a.length then .tuple #[plV (i + 1, k), .int .i64 1] else .tuple #[plV (i, k), .int .i64 (-1)]) by by_cases h : i < a.length <;> simp [stepV, stepP, h])
  generalize stepV a b 2 i k = sv at *
  obtain ⟨-, -, n0, n1, nf0, nf1, nz⟩ := hS.cells
  have HX := Lib.hid hX
  clear hX hm g0 g1 g2
  go_enter Tryz.func77, Tryz.ntmps77
  go_upto_region 3 with (fail)
  rw [← HX.out]
  clear HX
  go_upto_region 7 with (fail)
  obtain ⟨Z, hZ⟩ : ∃ Z : World, Z = X.setCell ⟨w.heap.size + 1 + 1, 0, none⟩ (.int .i64 ((i : Int) + 1)) := ⟨_, rfl⟩
  rw [← hZ]
  have hSZ : Stp Z w.heap.size i k ((i : Int) + 1) ((k : Int)) := by rw [hZ]; exact hS.set0 _
  have hXZ : Below w.heap.size X Z := by rw [hZ]; exact (Below.refl _ _).setCell (by simp; omega) _
  have hwZ := hwX.trans hXZ
  have hmZ := HRD.out Z hwZ
  clear hZ n0 n1 nf0 nf1 nz
  obtain ⟨⟨p0, p1, pz⟩, -, n0, n1, -, -, nz⟩ := hSZ.cells
  have r0 := blk_cell 0 hmZ.blk rfl
  have r1 := blk_cell 1 hmZ.blk rfl
  have rz := lt_of_block hmZ.blk
  simp only [List.getElem_toArray, List.getElem_cons_zero, List.getElem_cons_succ] at r0 r1
  have HS2 := Lib.hid hSZ
  clear hSZ hmZ hS
  by_cases hlt : i < a.length
  · have hkb : ¬ (b.length : Int) < (k : Int) := by omega
    have hni : ¬ (a.length : Int) < (i : Int) + 1 := by omega
    go_quiet (fail)
    obtain ⟨Y, hY⟩ : ∃ Y : World, Y = Z.drewN nq := ⟨_, rfl⟩
    rw [← hY]
    have hbY : Below Z.heap.size Z Y := by rw [hY]; exact below_draws _ _ _
    have hSY := HS2.out.below hbY
    have hwY := hwZ.trans (hbY.mono hwZ.size)
    clear hY hbY p0 p1 pz n0 n1 nz r0 r1 rz
    obtain ⟨⟨p0, p1, pz⟩, ⟨q0, q1, q2, q3, qz⟩, n0, n1, -, -, nz⟩ := hSY.cells
    go_wp2
    refine bodyPost_ret (v := .tuple #[.agg #[.int .i64 ((i : Int) + 1), .int .i64 ((k : Int))], .int .i64 1]) ?_ rfl ⟨by rw [hsv.out, if_pos hlt]; try rfl, ?_⟩
    · rw [results_ct rfl]
      go_simp
    · exact (hwY.setCell (by simp) _).setCell (by simp) _
  · have hkb : ¬ (b.length : Int) < (k : Int) := by omega
    have hni : (a.length : Int) < (i : Int) + 1 := by omega
    go_quiet (fail)
    obtain ⟨Y, hY⟩ : ∃ Y : World, Y = Z.drewN nq := ⟨_, rfl⟩
    rw [← hY]
    have hbY : Below Z.heap.size Z Y := by rw [hY]; exact below_draws _ _ _
    have hSY := HS2.out.below hbY
    have hwY := hwZ.trans (hbY.mono hwZ.size)
    clear hY hbY p0 p1 pz n0 n1 nz r0 r1 rz
    obtain ⟨⟨p0, p1, pz⟩, ⟨q0, q1, q2, q3, qz⟩, n0, n1, -, -, nz⟩ := hSY.cells
    go_wp2
    refine bodyPost_ret (v := .tuple #[.agg #[.int .i64 (i : Int), .int .i64 (k : Int)], .int .i64 (-1)]) ?_ rfl ⟨by rw [hsv.out, if_neg hlt]; try rfl, ?_⟩
    · rw [results_ct rfl]
      go_simp
    · exact (hwY.setCell (by simp) _).setCell (by simp) _
set_option maxRecDepth 100000 in
set_option maxHeartbeats 8000000 in
theorem RStep3_any (i k : Nat) (w : World) (hm : RdW w br bo aa ab ca cb a b) (hi : i ≤ a.length) (hk : k ≤ b.length) (ha : a.length ≤ 60) (hb : b.length ≤ 60) :
    Calls Tryz.prog 77 #[.pointer (some ⟨br, 0, none⟩), .int .i64 3, .agg #[.int .i64 (i : Int), .int .i64 (k : Int)]] w fun e w' => e = .returned (stepV a b 3 i k) ∧ Below w.heap.size w w' := by
  obtain ⟨X, hX⟩ : ∃ X : World, X = ((w.alloc (.cells #[.int .i64 (i : Int), .int .i64 (k : Int)] 141)).alloc (.cells #[.int .i64 0, .int .i64 0] 141)).alloc (.cells #[.int .i64 (i : Int), .int .i64 (k : Int)] 141) := ⟨_, rfl⟩
  have hwX : Below w.heap.size w X := by rw [hX]; exact (((Below.refl _ w).alloc (Nat.le_refl _) _).alloc (by simp) _).alloc (by simp; omega) _
  have g0 : X.heap[w.heap.size]? = some (.cells #[.int .i64 (i : Int), .int .i64 (k : Int)] 141 (0, 0)) := by rw [hX]; exact (heap_alloc_old _ _ (by simp; omega)).trans ((heap_alloc_old _ _ (by simp)).trans (alloc_at _ _ rfl))
  have g1 : X.heap[w.heap.size + 1]? = some (.cells #[.int .i64 0, .int .i64 0] 141 (0, 0)) := by rw [hX]; exact (heap_alloc_old _ _ (by simp)).trans (alloc_at _ _ (by simp))
  have g2 : X.heap[w.heap.size + 1 + 1]? = some (.cells #[.int .i64 (i : Int), .int .i64 (k : Int)] 141 (0, 0)) := by rw [hX]; exact alloc_at _ _ (by simp)
  have hS : Stp X w.heap.size i k i k := ⟨g0, g1, g2⟩
  have HRD := Lib.hid (fun (V : World) (h : Below w.heap.size w V) => hm.below h)
  have hsv := Lib.hid (show stepV a b 3 i k = (if k < b.length then .tuple #[plV (i, k + 1), .int .i64 1] else .tuple #[plV (i, k), .int .i64 (-1)]) by by_cases h : k < b.length <;> simp [stepV, stepP, h])
  generalize stepV a b 3 i k = sv at *
  obtain ⟨-, -, n0, n1, nf0, nf1, nz⟩ := hS.cells
  have HX := Lib.hid hX
  clear hX hm g0 g1 g2
  go_enter Tryz.func77, Tryz.ntmps77
  go_upto_region 3 with (fail)
  rw [← HX.out]
  clear HX
  go_upto_region 7 with (fail)
  obtain ⟨Z, hZ⟩ : ∃ Z : World, Z = X.setCell ⟨w.heap.size + 1 + 1, 1, none⟩ (.int .i64 ((k : Int) + 1)) := ⟨_, rfl⟩
  rw [← hZ]
  have hSZ : Stp Z w.heap.size i k ((i : Int)) ((k : Int) + 1) := by rw [hZ]; exact hS.set1 _
  have hXZ : Below w.heap.size X Z := by rw [hZ]; exact (Below.refl _ _).setCell (by simp; omega) _
  have hwZ := hwX.trans hXZ
  have hmZ := HRD.out Z hwZ
  clear hZ n0 n1 nf0 nf1 nz
  obtain ⟨⟨p0, p1, pz⟩, -, n0, n1, -, -, nz⟩ := hSZ.cells
  have r0 := blk_cell 0 hmZ.blk rfl
  have r1 := blk_cell 1 hmZ.blk rfl
  have rz := lt_of_block hmZ.blk
  simp only [List.getElem_toArray, List.getElem_cons_zero, List.getElem_cons_succ] at r0 r1
  have HS2 := Lib.hid hSZ
  clear hSZ hmZ hS
  by_cases hlt : k < b.length
  · have hia : ¬ (a.length : Int) < (i : Int) := by omega
    have hni : ¬ (b.length : Int) < (k : Int) + 1 := by omega
    go_quiet (fail)
    obtain ⟨Y, hY⟩ : ∃ Y : World, Y = Z.drewN nq := ⟨_, rfl⟩
    rw [← hY]
    have hbY : Below Z.heap.size Z Y := by rw [hY]; exact below_draws _ _ _
    have hSY := HS2.out.below hbY
    have hwY := hwZ.trans (hbY.mono hwZ.size)
    clear hY hbY p0 p1 pz n0 n1 nz r0 r1 rz
    obtain ⟨⟨p0, p1, pz⟩, ⟨q0, q1, q2, q3, qz⟩, n0, n1, -, -, nz⟩ := hSY.cells
    go_wp2
    refine bodyPost_ret (v := .tuple #[.agg #[.int .i64 ((i : Int)), .int .i64 ((k : Int) + 1)], .int .i64 1]) ?_ rfl ⟨by rw [hsv.out, if_pos hlt]; try rfl, ?_⟩
    · rw [results_ct rfl]
      go_simp
    · exact (hwY.setCell (by simp) _).setCell (by simp) _
  · have hia : ¬ (a.length : Int) < (i : Int) := by omega
    have hni : (b.length : Int) < (k : Int) + 1 := by omega
    go_quiet (fail)
    obtain ⟨Y, hY⟩ : ∃ Y : World, Y = Z.drewN nq := ⟨_, rfl⟩
    rw [← hY]
    have hbY : Below Z.heap.size Z Y := by rw [hY]; exact below_draws _ _ _
    have hSY := HS2.out.below hbY
    have hwY := hwZ.trans (hbY.mono hwZ.size)
    clear hY hbY p0 p1 pz n0 n1 nz r0 r1 rz
    obtain ⟨⟨p0, p1, pz⟩, ⟨q0, q1, q2, q3, qz⟩, n0, n1, -, -, nz⟩ := hSY.cells
    go_wp2
    refine bodyPost_ret (v := .tuple #[.agg #[.int .i64 (i : Int), .int .i64 (k : Int)], .int .i64 (-1)]) ?_ rfl ⟨by rw [hsv.out, if_neg hlt]; try rfl, ?_⟩
    · rw [results_ct rfl]
      go_simp
    · exact (hwY.setCell (by simp) _).setCell (by simp) _
end Go.Proofs.YtelmponkmmfffaaGreat
namespace Go.Proofs.YtelmponkmmfffaaGreat
open Go Go.RowKit Go.Shelf
def remP (a b : List ByteArray) (x : Nat × Nat) : Nat := (a.length - x.1) + (b.length - x.2)
/-- A place that is not remembered. -/
def NotL (W : World) (bo : Nat) (z : Nat × Nat) : Prop := ∃ T, MapV W Tryz.prog 141 bo T ∧ ∀ p ∈ T, p.1 ≠ plV z
theorem NotL.same {W W' : World} {bo : Nat} {z : Nat × Nat} (h : NotL W bo z) (e : W'.heap[bo]? = W.heap[bo]?) : NotL W' bo z := by
  obtain ⟨T, hT, hn⟩ := h
  exact ⟨T, hT.same e, hn⟩
/-- What is not remembered at places from which so much is left is not remembered behind it. -/
def KeepL (a b : List ByteArray) (n bo : Nat) (W W' : World) : Prop := ∀ z, n ≤ remP a b z → NotL W bo z → NotL W' bo z
theorem KeepL.refl (a b : List ByteArray) (n bo : Nat) (W : World) : KeepL a b n bo W W := fun _ _ h => h
theorem KeepL.trans {a b : List ByteArray} {n bo : Nat} {W V U : World} (h : KeepL a b n bo W V) (g : KeepL a b n bo V U) : KeepL a b n bo W U := fun z hz h9 => g z hz (h z hz h9)
theorem KeepL.below {a b : List ByteArray} {n bo : Nat} {W V : World} (h : Below W.heap.size W V) (hl : bo < W.heap.size) : KeepL a b n bo W V := fun _ _ h9 => h9.same (h.block _ hl)
theorem KeepL.mono {a b : List ByteArray} {n m bo : Nat} {W V : World} (h : KeepL a b n bo W V) (hn : n ≤ m) : KeepL a b m bo W V := fun z hz h9 => h z (by omega) h9
/-- The contracts of corrections and left at a place. -/
def CorrC (br bo : Nat) (aa ab : Option Addr) (ca cb : Nat) (a b : List ByteArray) (x : Nat × Nat) : Prop := ∀ W : World, RdW W br bo aa ab ca cb a b → Calls Tryz.prog 75 #[.pointer (some ⟨br, 0, none⟩), plV x] W fun e w' => e = .returned (.int .i64 (leftP a b x.1 x.2).2) ∧ W.grownBy w' (some bo) ∧ RdW w' br bo aa ab ca cb a b ∧ KeepL a b (remP a b x + 1) bo W w'
def LeftC (br bo : Nat) (aa ab : Option Addr) (ca cb : Nat) (a b : List ByteArray) (x : Nat × Nat) : Prop := ∀ W : World, RdW W br bo aa ab ca cb a b → Calls Tryz.prog 74 #[.pointer (some ⟨br, 0, none⟩), plV x] W fun e w' => e = .returned (.tuple #[.int .i64 (leftP a b x.1 x.2).2, .int .i64 ((leftP a b x.1 x.2).1 : Int)]) ∧ W.grownBy w' (some bo) ∧ RdW w' br bo aa ab ca cb a b ∧ KeepL a b (remP a b x) bo W w'
def AskC (br bo : Nat) (aa ab : Option Addr) (ca cb : Nat) (a b : List ByteArray) (x : Nat × Nat) (q0 q1 kind : Nat) : Prop := ∀ W : World, RdW W br bo aa ab ca cb a b → W.heap[q0]? = some (.cells #[.pointer (some ⟨br, 0, none⟩)] 138 (0, 0)) → W.heap[q1]? = some (.cells #[.int .i64 (x.1 : Int), .int .i64 (x.2 : Int)] 141 (0, 0)) →
  Calls Tryz.prog 120 #[.int .i64 (kind : Int), .pointer (some ⟨q0, 0, none⟩), .pointer (some ⟨q1, 0, none⟩)] W fun e w' => e = .returned (.int .i64 (askP a b x.1 x.2 kind)) ∧ W.grownBy w' (some bo) ∧ RdW w' br bo aa ab ca cb a b ∧ KeepL a b (remP a b x) bo W w'
variable (br bo : Nat) (aa ab : Option Addr) (ca cb : Nat) (a b : List ByteArray)
theorem RStep_any (kind : Nat) (hkd : kind < 4) (i k : Nat) (w : World) (hm : RdW w br bo aa ab ca cb a b) (hi : i ≤ a.length) (hk : k ≤ b.length) (ha : a.length ≤ 60) (hb : b.length ≤ 60) :
    Calls Tryz.prog 77 #[.pointer (some ⟨br, 0, none⟩), .int .i64 (kind : Int), plV (i, k)] w fun e w' => e = .returned (stepV a b kind i k) ∧ Below w.heap.size w w' := by
  have : kind = 0 ∨ kind = 1 ∨ kind = 2 ∨ kind = 3 := by omega
  rcases this with rfl | rfl | rfl | rfl
  · exact RStep0_any br bo aa ab ca cb a b i k w hm hi hk ha hb
  · exact RStep1_any br bo aa ab ca cb a b i k w hm hi hk ha hb
  · exact RStep2_any br bo aa ab ca cb a b i k w hm hi hk ha hb
  · exact RStep3_any br bo aa ab ca cb a b i k w hm hi hk ha hb
set_option maxRecDepth 100000 in
set_option maxHeartbeats 4000000 in
theorem RAsk_any (x : Nat × Nat) (hx : x.1 ≤ a.length ∧ x.2 ≤ b.length) (ha : a.length ≤ 60) (hb : b.length ≤ 60) (IH : ∀ y : Nat × Nat, y.1 ≤ a.length ∧ y.2 ≤ b.length → remP a b y < remP a b x → CorrC br bo aa ab ca cb a b y) (q0 q1 kind : Nat) (hkd : kind < 4) :
    AskC br bo aa ab ca cb a b x q0 q1 kind := by
  intro W hm h0 h1
  obtain ⟨i, k⟩ := x
  simp only at hx h1 ⊢
  have S := Lib.hid (RStep_any br bo aa ab ca cb a b kind hkd i k W hm hx.1 hx.2 ha hb)
  have c0 := blk_cell 0 h0 rfl
  have z0 := lt_of_block h0
  have d0 := blk_cell 0 h1 rfl
  have d1 := blk_cell 1 h1 rfl
  have dz := lt_of_block h1
  simp only [List.getElem_toArray, List.getElem_cons_zero, List.getElem_cons_succ] at c0 d0 d1
  have HM := Lib.hid hm
  have hlo := hm.bo_lt
  have HA := Lib.hid (show askP a b i k kind = match stepP a b kind i k with | none => -1 | some (i', k', c) => c + (leftP a b i' k').2 from rfl)
  have hst : stepV a b kind i k = match stepP a b kind i k with | none => .tuple #[plV (i, k), .int .i64 (-1)] | some (i', k', c) => .tuple #[plV (i', k'), .int .i64 c] := rfl
  rw [hst] at S
  have HIN := Lib.hid (fun i' k' c (h : stepP a b kind i k = some (i', k', c)) => stepP_in h hx.1 hx.2)
  have HBD := Lib.hid (fun i' k' (h1 : i' ≤ a.length) (h2 : k' ≤ b.length) => left_bd a b ((a.length - i') + (b.length - k')) i' k' h1 h2 (Nat.le_refl _))
  generalize askP a b i k kind = ask at *
  cases hs : stepP a b kind i k with
  | none =>
    rw [hs] at S HA
    simp only at S HA
    have HA2 := Lib.hid HA.out
    clear HIN HBD h0 h1 hm hst hs IH
    go_enter Tryz.func120, Tryz.ntmps120
    go_wp2_with (go_at_call 77; go_must ((with_reducible refine S.out.mono ?_); rintro e w2 ⟨rfl, hb2⟩; dsimp only))
    have hb3 : Below W.heap.size W (w2.alloc (.cells #[.int .i64 (i : Int), .int .i64 (k : Int)] 141)) := hb2.alloc hb2.size _
    go_ret
    exact ⟨by rw [HA2.out]; rfl, grown_below hb3, HM.out.below hb3, .below hb3 hlo⟩
  | some y =>
    obtain ⟨i', k', c⟩ := y
    rw [hs] at S HA
    simp only at S HA
    obtain ⟨j1, j2, j3, j4, j5⟩ := HIN.out i' k' c hs
    have hbd := HBD.out i' k' j1 j2
    have HC := Lib.hid (IH (i', k') ⟨j1, j2⟩ j3)
    have HA2 := Lib.hid HA.out
    have hrem : remP a b (i', k') < remP a b (i, k) := j3
    clear HIN HBD h0 h1 hm hst hs IH
    have hc0 : ¬ c < 0 := by omega
    have hl120 : (leftP a b i' k').2 ≤ 120 := by omega
    go_enter Tryz.func120, Tryz.ntmps120
    go_upto_region 2 with (go_at_call 77; go_must ((with_reducible refine S.out.mono ?_); rintro e w2 ⟨rfl, hb2⟩; dsimp only))
    obtain ⟨Y, hY⟩ : ∃ Y : World, Y = w2.alloc (.cells #[.int .i64 (i' : Int), .int .i64 (k' : Int)] 141) := ⟨_, rfl⟩
    rw [← hY]
    have hbY : Below W.heap.size W Y := by rw [hY]; exact hb2.alloc hb2.size _
    have gY : Y.heap[w2.heap.size]? = some (.cells #[.int .i64 (i' : Int), .int .i64 (k' : Int)] 141 (0, 0)) := by rw [hY]; exact alloc_at _ _ rfl
    have e0 := blk_cell 0 gY rfl
    have e1 := blk_cell 1 gY rfl
    have ez := lt_of_block gY
    simp only [List.getElem_toArray, List.getElem_cons_zero, List.getElem_cons_succ] at e0 e1
    replace c0 := cell_below hbY c0
    replace z0 := Nat.lt_of_lt_of_le z0 hbY.size
    clear hY gY d0 d1 dz
    have CC := Lib.hid (HC.out Y (HM.out.below hbY))
    go_wp2_with (go_at_call 75; go_must ((with_reducible refine CC.out.mono ?_); rintro e w3 ⟨rfl, hg3, hR3, hn3⟩; dsimp only))
    go_ret
    exact ⟨by rw [HA2.out]; rfl, grown_trans (grown_below hbY) hg3, hR3, (KeepL.below hbY hlo).trans (hn3.mono (by omega))⟩
/-- The least one of the first kinds. -/
def leastK (f : Nat → Int) : Nat → Nat × Int
  | 0 => (0, -1)
  | k + 1 => if 0 ≤ f k ∧ ((leastK f k).2 < 0 ∨ f k < (leastK f k).2) then (k, f k) else leastK f k
theorem leastK_all (f : Nat → Int) : leastK f 4 = leastF f [0, 1, 2, 3] (0, -1) := rfl
theorem leastK_lt (f : Nat → Int) : ∀ k, k ≤ 4 → (leastK f k).1 < 4
  | 0, _ => by simp [leastK]
  | k + 1, h => by
    simp only [leastK]
    split
    · simp only; omega
    · exact leastK_lt f k (by omega)
set_option maxRecDepth 100000 in
set_option maxHeartbeats 8000000 in
theorem RLeast_any (x : Nat × Nat) (q0 q1 q2 : Nat) (w : World) (hm : RdW w br bo aa ab ca cb a b) (hx : x.1 ≤ a.length ∧ x.2 ≤ b.length) (ha : a.length ≤ 60) (hb : b.length ≤ 60) (g0 : w.heap[q0]? = some (.cells #[.pointer (some ⟨br, 0, none⟩)] 138 (0, 0))) (g1 : w.heap[q1]? = some (.cells #[.int .i64 (x.1 : Int), .int .i64 (x.2 : Int)] 141 (0, 0)))
    (g2 : w.heap[q2]? = some (.cells #[.int .i64 0, .int .i64 1, .int .i64 2, .int .i64 3] 3 (0, 0))) (HA : ∀ kind, kind < 4 → AskC br bo aa ab ca cb a b x q0 q1 kind) :
    Calls Tryz.prog 80 #[.slice (some ⟨q2, 0, none⟩) 4 4, .func (.func 120) #[] #[.pointer (some ⟨q0, 0, none⟩), .pointer (some ⟨q1, 0, none⟩)]] w fun e w' => e = .returned (.tuple #[.int .i64 ((leastK (askP a b x.1 x.2) 4).1 : Int), .int .i64 (leastK (askP a b x.1 x.2) 4).2]) ∧ w.grownBy w' (some bo) ∧ RdW w' br bo aa ab ca cb a b ∧ KeepL a b (remP a b x) bo w w' := by
  have HM := Lib.hid hm
  have n0 := hm.other g0
  have n1 := hm.other g1
  have n2 := hm.other g2
  have HG0 := Lib.hid (fun (V : World) (h : w.grownBy V (some bo)) => grown_keep h g0 n0)
  have HG1 := Lib.hid (fun (V : World) (h : w.grownBy V (some bo)) => grown_keep h g1 n1)
  have HG2 := Lib.hid (fun (V : World) (h : w.grownBy V (some bo)) => (by
    have g := grown_keep h g2 n2
    exact ⟨fun k hk => (by
      have : k = 0 ∨ k = 1 ∨ k = 2 ∨ k = 3 := by omega
      rcases this with rfl | rfl | rfl | rfl <;> exact blk_cell _ g rfl), lt_of_block g⟩ : (∀ k, k < 4 → V.cell? ⟨q2, k, none⟩ = some (.int .i64 (k : Int))) ∧ q2 < V.heap.size))
  have HAK := Lib.hid (fun (kind : Nat) (hk : kind < 4) (W : World) (h1 : RdW W br bo aa ab ca cb a b) (h2 : W.heap[q0]? = some (.cells #[.pointer (some ⟨br, 0, none⟩)] 138 (0, 0))) (h3 : W.heap[q1]? = some (.cells #[.int .i64 (x.1 : Int), .int .i64 (x.2 : Int)] 141 (0, 0))) => show Calls Tryz.prog 120 #[.int .i64 (kind : Int), .pointer (some ⟨q0, 0, none⟩), .pointer (some ⟨q1, 0, none⟩)] W fun e w' => e = .returned (.int .i64 (askP a b x.1 x.2 kind)) ∧ W.grownBy w' (some bo) ∧ RdW w' br bo aa ab ca cb a b ∧ KeepL a b (remP a b x) bo W w' from HA kind hk W h1 h2 h3)
  have HLT := Lib.hid (leastK_lt (askP a b x.1 x.2))
  have HLS := Lib.hid (fun k => show leastK (askP a b x.1 x.2) (k + 1) = if 0 ≤ askP a b x.1 x.2 k ∧ ((leastK (askP a b x.1 x.2) k).2 < 0 ∨ askP a b x.1 x.2 k < (leastK (askP a b x.1 x.2) k).2) then (k, askP a b x.1 x.2 k) else leastK (askP a b x.1 x.2) k from rfl)
  clear hm g0 g1 g2 HA n0 n1 n2
  generalize askP a b x.1 x.2 = f at *
  go_enter Tryz.func80, Tryz.ntmps80
  go_upto_region 3 with (fail)
  go_loopw [4, 5, 11] (fun u v i V => ∃ k : Nat, k ≤ 4 ∧ u = .int .i64 ((leastK f k).1 : Int) ∧ v = .int .i64 (leastK f k).2 ∧ i = .int .i64 k ∧ w.grownBy V (some bo) ∧ RdW V br bo aa ab ca cb a b ∧ KeepL a b (remP a b x) bo w V) (fun _ _ i _ => 4 - (intOf i).toNat)
  case atStart => exact ⟨0, by omega, rfl, rfl, rfl, World.grownBy.refl _ _, HM.out, .refl _ _ _ _ _⟩
  case round =>
    rename World => V
    obtain ⟨k, hk, rfl, rfl, rfl, hg, hR, hN⟩ := hrel
    by_cases hlt : k < 4
    · obtain ⟨h2, z2⟩ := HG2.out V hg
      have h2k := h2 k hlt
      have AC := Lib.hid (HAK.out k hlt V hR (HG0.out V hg) (HG1.out V hg))
      have hls := HLS.out k
      have hltI : (k : Int) < 4 := by omega
      clear h2 hR
      generalize f k = own at *
      generalize leastK f k = pr at *
      obtain ⟨b0, n0⟩ := pr
      simp only at hls
      by_cases h1 : 0 ≤ own
      · by_cases h2 : n0 < 0
        · go_wp2_with (go_at_call 120; go_must ((with_reducible refine AC.out.mono ?_); rintro e w4 ⟨rfl, hg4, hR4, hN4⟩; dsimp only))
          go_roundw
          case rel => exact ⟨k + 1, by omega, by rw [hls, if_pos ⟨h1, .inl h2⟩]; try rfl, by rw [hls, if_pos ⟨h1, .inl h2⟩]; try rfl, by go_num, grown_trans hg hg4, hR4, hN.trans hN4⟩
          case measure => simp [intOf]; omega
        · by_cases h3 : own < n0
          · go_wp2_with (go_at_call 120; go_must ((with_reducible refine AC.out.mono ?_); rintro e w4 ⟨rfl, hg4, hR4, hN4⟩; dsimp only))
            go_roundw
            case rel => exact ⟨k + 1, by omega, by rw [hls, if_pos ⟨h1, .inr h3⟩]; try rfl, by rw [hls, if_pos ⟨h1, .inr h3⟩]; try rfl, by go_num, grown_trans hg hg4, hR4, hN.trans hN4⟩
            case measure => simp [intOf]; omega
          · go_wp2_with (go_at_call 120; go_must ((with_reducible refine AC.out.mono ?_); rintro e w4 ⟨rfl, hg4, hR4, hN4⟩; dsimp only))
            go_roundw
            case rel => exact ⟨k + 1, by omega, by rw [hls, if_neg (fun h => h.2.elim h2 h3)]; try rfl, by rw [hls, if_neg (fun h => h.2.elim h2 h3)]; try rfl, by go_num, grown_trans hg hg4, hR4, hN.trans hN4⟩
            case measure => simp [intOf]; omega
      · go_wp2_with (go_at_call 120; go_must ((with_reducible refine AC.out.mono ?_); rintro e w4 ⟨rfl, hg4, hR4, hN4⟩; dsimp only))
        go_roundw
        case rel => exact ⟨k + 1, by omega, by rw [hls, if_neg (fun h => h1 h.1)]; try rfl, by rw [hls, if_neg (fun h => h1 h.1)]; try rfl, by go_num, grown_trans hg hg4, hR4, hN.trans hN4⟩
        case measure => simp [intOf]; omega
    · obtain rfl : k = 4 := by omega
      go_wp2
      go_ret2
      exact ⟨rfl, hg, hR, hN⟩
end Go.Proofs.YtelmponkmmfffaaGreat
