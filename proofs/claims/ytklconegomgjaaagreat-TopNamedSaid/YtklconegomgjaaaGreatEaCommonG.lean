/- What is proved here: the contracts of list, of enter of layer 1 at a valid book, and of Count, First. Conditions: the book lies in memory and is valid; numbers that are in range. -/
/- What is proved here: the contracts of First, Alike and Common of layer 1, at a valid book and numbers that are in order. Conditions: the book lies in memory. -/
/- What is proved here: the contract of Common of layer 1, at a valid book and ascending numbers. Conditions: the book lies in memory. -/
import Derived.Test.YtklconegomgjaaaGreatEaFirstG
import Derived.Test.YtklconegomgjaaaGreatFewG
import Derived.Deep.OwnRows
import Derived.Laws.CopyOwn
set_option linter.unusedVariables false
set_option linter.unusedSimpArgs false
namespace Go.Proofs.YtklconegomgjaaaGreat
open Go Go.RowKit Go.Shelf

theorem blkI_intsE {W : World} {b : Nat} {t : TypeId} {L : List Int} (h : W.heap[b]? = some (.cells ((L.map (Value.int .i64)).toArray) t (0, 0))) : IntsC W (some ⟨b, 0, none⟩) L := fun i hi =>
  ⟨b, 0, rfl, lt_of_block h, by rw [Nat.zero_add]; exact blk_cell i h (by simp [hi])⟩
set_option maxRecDepth 100000 in
set_option maxHeartbeats 1000000 in
theorem EList_any {h : List Int} (hl : h.length ≤ 5) (w : World) :
    Calls Tryz.prog 68 #[heardV h] w fun e w' => ∃ v, e = .returned v ∧ IntsN w.heap.size w' v h ∧ Below w.heap.size w w' := by
  obtain ⟨i, hi, hz, hsz, hby⟩ := info_parts E_int.info
  have hsz1 := Lib.hid (show (Tryz.prog.info? 3).map (·.size) = some 1 by rw [hi]; simp [hsz])
  have hcn := Lib.hid (show (h.map (Value.int .i64)).length = Nat.min 5 h.length by rw [List.length_map]; exact (Nat.min_eq_right hl).symm)
  have hcfit := Lib.hid (show 0 + (h.map (Value.int .i64)).length ≤ (madeCells #[Value.int .i64 0] h.length).size by rw [List.length_map, size_madeCells]; simp)
  have hcone := Lib.hid (show ∀ v ∈ h.map (Value.int .i64), v.oneCell' = true from fun v hv => by obtain ⟨y, _, rfl⟩ := List.mem_map.1 hv; rfl)
  go_enter Tryz.func68, Tryz.ntmps68
  go_upto_region 1 with (fail)
  obtain ⟨X, hX⟩ : ∃ X : World, X = w.alloc (.cells (heardCells h) 95) := ⟨_, rfl⟩
  rw [← hX]
  have hx1 : X.heap[w.heap.size]? = some (.cells (heardCells h) 95 (0, 0)) := by rw [hX]; exact alloc_atE _ _ rfl
  have hbX : Below w.heap.size w X := by rw [hX]; exact (Below.refl _ _).alloc (Nat.le_refl _) _
  clear hX
  have c0 := blk_cell 0 hx1 rfl
  simp only [heardCells, List.getElem_toArray, List.getElem_cons_zero] at c0
  have xz := lt_of_block hx1
  have hcsrc := Lib.hid (fun (j : Nat) (v : Value) (hj : (h.map (Value.int .i64))[j]? = some v) => show (X.alloc (.cells (madeCells #[Value.int .i64 0] h.length) 3)).cell? ((⟨w.heap.size, 1, none⟩ : Addr).add j) = some v from by
    rw [Addr.add_lit]
    rw [List.getElem?_map] at hj
    obtain ⟨y, hy, rfl⟩ := Option.map_eq_some_iff.1 hj
    obtain ⟨hlt, rfl⟩ := List.getElem?_eq_some_iff.1 hy
    refine blk_cell (1 + j) ((heap_alloc_old _ _ xz).trans hx1) ?_
    have hy2 : hrd h j = h[j] := by unfold hrd; rw [hy]; rfl
    have hj5 : j < 5 := by omega
    obtain rfl | rfl | rfl | rfl | rfl : j = 0 ∨ j = 1 ∨ j = 2 ∨ j = 3 ∨ j = 4 := by omega
    all_goals exact congrArg (fun z => some (Value.int .i64 z)) hy2)
  clear hx1
  have hl5 : (h.length : Int) ≤ 5 := by omega
  go_wp2_with (first
    | (refine wpList_make_row _ rfl (.tmp 5) (.tmp 5) _ rfl 3 i (.int .i64 0) E_int.und hi hz hsz rfl .i64 .i64 h.length rfl rfl (by rw [hby]; omega) (by omega) ?_; go_frame)
    | (refine wpList_copy_own rfl (.tmp 7) (.tmp 9) _ _ rfl 3 E_int.und hsz1.out X.heap.size 0 h.length h.length ⟨w.heap.size, 1, none⟩ 5 5 rfl rfl (madeCells #[Value.int .i64 0] h.length) 3 (blk_new _ _) (h.map (Value.int .i64)) hcn.out hcsrc.out hcfit.out hcone.out ?_; go_frame))
  have hzX := hbX.size
  have hBf : Below w.heap.size w ((X.alloc (.cells (madeCells #[Value.int .i64 0] h.length) 3)).setRow X.heap.size (List.take 0 (madeCells #[Value.int .i64 0] h.length).toList ++ (List.map (Value.int .i64) h ++ List.drop (0 + (List.map (Value.int .i64) h).length) (madeCells #[Value.int .i64 0] h.length).toList)).toArray) := below_setRow (hbX.alloc hzX _) hzX _
  have hIf : ((X.alloc (.cells (madeCells #[Value.int .i64 0] h.length) 3)).setRow X.heap.size (List.take 0 (madeCells #[Value.int .i64 0] h.length).toList ++ (List.map (Value.int .i64) h ++ List.drop (0 + (List.map (Value.int .i64) h).length) (madeCells #[Value.int .i64 0] h.length).toList)).toArray).heap[X.heap.size]? = some (.cells ((h.map (Value.int .i64)).toArray) 3 (0, 0)) := by
    have h1 := setRow_heap (X.alloc (.cells (madeCells #[Value.int .i64 0] h.length) 3)) X.heap.size _ (List.take 0 (madeCells #[Value.int .i64 0] h.length).toList ++ (List.map (Value.int .i64) h ++ List.drop (0 + (List.map (Value.int .i64) h).length) (madeCells #[Value.int .i64 0] h.length).toList)).toArray 3 _ (blk_new _ _)
    have e : (List.take 0 (madeCells #[Value.int .i64 0] h.length).toList ++ (List.map (Value.int .i64) h ++ List.drop (0 + (List.map (Value.int .i64) h).length) (madeCells #[Value.int .i64 0] h.length).toList)) = h.map (Value.int .i64) := by
      rw [List.take_zero, List.nil_append, List.drop_eq_nil_of_le (by rw [Array.length_toList, size_madeCells, List.length_map]; simp), List.append_nil]
    rw [e] at h1 ⊢
    exact h1
  go_ret
  exact ⟨_, rfl, ⟨some ⟨X.heap.size, 0, none⟩, h.length, rfl, ⟨Nat.le_refl _, by omega, fun h => by cases h⟩, blkI_intsE hIf, fun ad e => by cases e; exact hzX⟩, hBf⟩
theorem any_in {l : List Int} {n : Nat} (h : ∀ x ∈ l, 0 ≤ x ∧ x < n) : l.any (outB 0 ((n : Int) - 1)) = false := by
  rw [List.any_eq_false]
  intro x hx
  have := h x hx
  unfold outB
  simp
  omega
set_option maxRecDepth 100000 in
set_option maxHeartbeats 1000000 in
theorem EEnter_any (a1 a2 : Option Addr) (k1 k2 : Nat) (b : EaB) (n : Nat) (a : Option Addr) (l : List Int) (c : Nat) (w : World) (hm : BookC w a1 a2 k1 k2 b) (hv : EaValid b) (hn : n ≤ 1000) (hl : l.length ≤ 9223372036854775807) (hi : IntsC w a l) (hx : ∀ x ∈ l, 0 ≤ x ∧ x < n) :
    Calls Tryz.prog 37 #[(.agg #[.int .i64 b.sounds, .slice a1 b.alphas.length k1, .slice a2 b.spells.length k2]), .int .i64 (n : Int), .slice a l.length c] w fun e w' => ∃ bm bo : Nat, e = .returned (.tuple #[.pointer (some ⟨bm, 0, none⟩), .int .i64 0]) ∧ BookW w' bm bo a1 a2 k1 k2 b ∧ Below w.heap.size w w' ∧ w.heap.size ≤ bm ∧ w.heap.size ≤ bo := by
  have hQ0 := Below.refl (w.heap.size + 1) (w.alloc (.cells #[.int .i64 b.sounds, .slice a1 b.alphas.length k1, .slice a2 b.spells.length k2] 25))
  have KE : Hid (∀ V, Below (w.heap.size + 1) (w.alloc (.cells #[.int .i64 b.sounds, .slice a1 b.alphas.length k1, .slice a2 b.spells.length k2] 25)) V → (V.cell? ⟨w.heap.size, 0, none⟩ = some (.int .i64 b.sounds) ∧ V.cell? ⟨w.heap.size, 1, none⟩ = some (.slice a1 b.alphas.length k1) ∧ V.cell? ⟨w.heap.size, 2, none⟩ = some (.slice a2 b.spells.length k2) ∧ w.heap.size < V.heap.size)) := Lib.hid (fun V hV => ⟨box_cell hV 0 _ rfl, box_cell hV 1 _ rfl, box_cell hV 2 _ rfl, box_size hV⟩)
  have CK := Lib.hid (ECheck_any a1 a2 k1 k2 b (w.alloc (.cells #[.int .i64 b.sounds, .slice a1 b.alphas.length k1, .slice a2 b.spells.length k2] 25)) (hm.mono (box_old hQ0)) hv)
  have LK := Lib.hid (fun (V : World) (hb : Below w.heap.size w V) => ELook_any a1 a2 k1 k2 b V (hm.mono hb) hv)
  have BY := Lib.hid (fun (V : World) (hb : Below w.heap.size w V) => (show Calls Tryz.prog 76 #[.int .i64 0, .int .i64 ((n : Int) - 1), .slice a l.length c] V fun e w' => e = .returned (.bool false) ∧ Below V.heap.size V w' from by
    have := EBeyond_any a l c 0 ((n : Int) - 1) V hl (hi.mono hb)
    rwa [any_in hx] at this))
  have hnI : (n : Int) ≤ 1000 := by omega
  clear hm hv hi hx
  go_enter Tryz.func37, Tryz.ntmps37
  go_wp2_with (first
    | (go_at_call 85; go_must ((with_reducible refine (LK.out _ (box_old hQ3)).mono ?_); rintro e w4 ⟨bm, bo, rfl, hB4, hb4, hlo, hlo2⟩; dsimp only))
    | (go_at_call 76; go_must ((with_reducible refine (BY.out _ (box_old hQ2)).mono ?_); rintro e w3 ⟨rfl, hb3⟩; have hQ3 := hQ2.trans (hb3.mono (box_size hQ2)); obtain ⟨x0, x1, x2, xz⟩ := KE.out _ hQ3; dsimp only))
    | (go_at_call 84; go_must ((with_reducible refine CK.out.mono ?_); rintro e w2 ⟨rfl, hb2⟩; have hQ2 := hQ0.trans (hb2.mono (by simp)); obtain ⟨x0, x1, x2, xz⟩ := KE.out _ hQ2; dsimp only)))
  go_ret2
  have hz := (box_old hQ3).size
  exact ⟨bm, bo, rfl, hB4, (box_old hQ3).trans (hb4.mono hz), by omega, by omega⟩
theorem pow_wrapL : ∀ k : Nat, k < 5 → IntKind.i64.wrap (2 ^ k) = (2 : Int) ^ k := by decide +kernel
theorem two_ltE {n k : Nat} (hk : k < n) : 2 ^ k < 2 ^ n := Nat.pow_lt_pow_right (by omega) hk
theorem EEnterOne_any (a1 a2 : Option Addr) (k1 k2 : Nat) (b : EaB) (n i p : Nat) (w : World) (hm : BookC w a1 a2 k1 k2 b) (hv : EaValid b) (hn : n ≤ 1000) (hi : i < n) (hc : w.cell? ⟨p, 0, none⟩ = some (.int .i64 (i : Int))) :
    Calls Tryz.prog 37 #[(.agg #[.int .i64 b.sounds, .slice a1 b.alphas.length k1, .slice a2 b.spells.length k2]), .int .i64 (n : Int), .slice (some ⟨p, 0, none⟩) 1 1] w fun e w' => ∃ bm bo : Nat, e = .returned (.tuple #[.pointer (some ⟨bm, 0, none⟩), .int .i64 0]) ∧ BookW w' bm bo a1 a2 k1 k2 b ∧ Below w.heap.size w w' ∧ w.heap.size ≤ bm ∧ w.heap.size ≤ bo :=
  EEnter_any a1 a2 k1 k2 b n (some ⟨p, 0, none⟩) [(i : Int)] 1 w hm hv hn (by simp) (fun j hj => by
    have e : j = 0 := by simpa using hj
    subst e
    exact ⟨p, 0, rfl, lt_of_cell hc, by simpa using hc⟩) (fun x hx => by
    have e : x = (i : Int) := by simpa using hx
    omega)
theorem EEnterTwo_any (a1 a2 : Option Addr) (k1 k2 : Nat) (b : EaB) (n i j p : Nat) (w : World) (hm : BookC w a1 a2 k1 k2 b) (hv : EaValid b) (hn : n ≤ 1000) (hi : i < n) (hj : j < n) (hc : w.cell? ⟨p, 0, none⟩ = some (.int .i64 (i : Int))) (hd : w.cell? ⟨p, 1, none⟩ = some (.int .i64 (j : Int))) :
    Calls Tryz.prog 37 #[(.agg #[.int .i64 b.sounds, .slice a1 b.alphas.length k1, .slice a2 b.spells.length k2]), .int .i64 (n : Int), .slice (some ⟨p, 0, none⟩) 2 2] w fun e w' => ∃ bm bo : Nat, e = .returned (.tuple #[.pointer (some ⟨bm, 0, none⟩), .int .i64 0]) ∧ BookW w' bm bo a1 a2 k1 k2 b ∧ Below w.heap.size w w' ∧ w.heap.size ≤ bm ∧ w.heap.size ≤ bo :=
  EEnter_any a1 a2 k1 k2 b n (some ⟨p, 0, none⟩) [(i : Int), (j : Int)] 2 w hm hv hn (by simp) (fun k hk => by
    have e : k = 0 ∨ k = 1 := (by have hk2 : k < 2 := (by simpa using hk); omega)
    rcases e with rfl | rfl
    · exact ⟨p, 0, rfl, lt_of_cell hc, by simpa using hc⟩
    · exact ⟨p, 0, rfl, lt_of_cell hd, by simpa using hd⟩) (fun x hx => by
    have e : x = (i : Int) ∨ x = (j : Int) := by simpa using hx
    rcases e with e | e <;> omega)
/-- A first set of one spelling, at a book that is looked at. -/
theorem EFirstOne_any (a1 a2 : Option Addr) (k1 k2 : Nat) (b : EaB) (bm bo i : Nat) (w : World) (hm : BookW w bm bo a1 a2 k1 k2 b) (hv : EaValid b) (hi : i < b.spells.length) :
    Calls Tryz.prog 38 #[.pointer (some ⟨bm, 0, none⟩), .int .i64 ((2 : Int) ^ i)] w fun e w' => e = .returned (.tuple #[heardV ((comN b (2 ^ i)).headD []), .int .i64 ((comN b (2 ^ i)).length : Int)]) ∧ Below w.heap.size w w' :=
  by
    have := EFirstOf_any a1 a2 k1 k2 b bm bo (2 ^ i) w hm hv (two_ltE hi) (by have := Nat.two_pow_pos i; omega)
    rwa [show (((2 ^ i : Nat)) : Int) = (2 : Int) ^ i by simp] at this
set_option maxRecDepth 100000 in
set_option maxHeartbeats 1000000 in
theorem ECount_any (a1 a2 : Option Addr) (k1 k2 : Nat) (b : EaB) (i : Nat) (w : World) (hm : BookC w a1 a2 k1 k2 b) (hv : EaValid b) (hi : i < b.spells.length) :
    Calls Tryz.prog 22 #[(.agg #[.int .i64 b.sounds, .slice a1 b.alphas.length k1, .slice a2 b.spells.length k2]), .int .i64 (i : Int)] w fun e w' => e = .returned (.tuple #[.int .i64 ((comN b (2 ^ i)).length : Int), .int .i64 0]) ∧ Below w.heap.size w w' := by
  have hQ0 := Below.refl (w.heap.size + 1) (w.alloc (.cells #[.int .i64 b.sounds, .slice a1 b.alphas.length k1, .slice a2 b.spells.length k2] 25))
  have hQ1 := hQ0.alloc (by simp) (.cells #[.int .i64 (i : Int)] 3)
  have hns := hv.ns
  have hl2 := hm.oks.len
  have EN := Lib.hid (EEnterOne_any a1 a2 k1 k2 b b.spells.length i (w.heap.size + 1) ((w.alloc (.cells #[.int .i64 b.sounds, .slice a1 b.alphas.length k1, .slice a2 b.spells.length k2] 25)).alloc (.cells #[.int .i64 (i : Int)] 3)) (hm.mono (box_old hQ1)) hv (by omega) hi (by simp))
  have FO := Lib.hid (fun (V : World) (bm bo : Nat) (h : BookW V bm bo a1 a2 k1 k2 b) => EFirstOne_any a1 a2 k1 k2 b bm bo i V h hv hi)
  have hw := pow_wrapL i (by omega)
  have hi64 : (i : Int) < 64 := by omega
  clear hm hv
  go_enter Tryz.func22, Tryz.ntmps22
  go_wp2_with (first
    | (go_at_call 38; go_must ((with_reducible refine (FO.out _ _ _ hB2).mono ?_); rintro e w3 ⟨rfl, hb3⟩; dsimp only))
    | (go_at_call 37; go_must ((with_reducible refine EN.out.mono ?_); rintro e w2 ⟨bm, bo, rfl, hB2, hb2, hlo, hlo2⟩; dsimp only)))
  go_ret2
  have hz := (box_old hQ1).size
  exact ⟨rfl, ((box_old hQ1).trans (hb2.mono hz)).trans (hb3.mono (by have := hb2.size; omega)) |>.alloc (by have := hb2.size; have := hb3.size; omega) _⟩
end Go.Proofs.YtklconegomgjaaaGreat
namespace Go.Proofs.YtklconegomgjaaaGreat
open Go Go.RowKit Go.Shelf

theorem head_ok {b : EaB} (set : Nat) : HeardOk b.sounds.toNat ((comN b set).headD []) := by
  cases h : comN b set with
  | nil => exact ⟨by simp, by simp⟩
  | cons x l =>
    have : x ∈ comN b set := by rw [h]; simp
    exact (mem_comN.1 this).1
set_option maxRecDepth 100000 in
set_option maxHeartbeats 1000000 in
theorem EFirst_any (a1 a2 : Option Addr) (k1 k2 : Nat) (b : EaB) (i : Nat) (w : World) (hm : BookC w a1 a2 k1 k2 b) (hv : EaValid b) (hi : i < b.spells.length) :
    Calls Tryz.prog 23 #[(.agg #[.int .i64 b.sounds, .slice a1 b.alphas.length k1, .slice a2 b.spells.length k2]), .int .i64 (i : Int)] w fun e w' => ∃ v, e = .returned (.tuple #[v, .int .i64 0]) ∧ IntsN w.heap.size w' v ((comN b (2 ^ i)).headD []) ∧ Below w.heap.size w w' := by
  have hQ0 := Below.refl (w.heap.size + 1) (w.alloc (.cells #[.int .i64 b.sounds, .slice a1 b.alphas.length k1, .slice a2 b.spells.length k2] 25))
  have hQ1 := hQ0.alloc (by simp) (.cells #[.int .i64 (i : Int)] 3)
  have hns := hv.ns
  have hl2 := hm.oks.len
  have EN := Lib.hid (EEnterOne_any a1 a2 k1 k2 b b.spells.length i (w.heap.size + 1) ((w.alloc (.cells #[.int .i64 b.sounds, .slice a1 b.alphas.length k1, .slice a2 b.spells.length k2] 25)).alloc (.cells #[.int .i64 (i : Int)] 3)) (hm.mono (box_old hQ1)) hv (by omega) hi (by simp))
  have FO := (fun (V : World) (bm bo : Nat) (h : BookW V bm bo a1 a2 k1 k2 b) => EFirstOne_any a1 a2 k1 k2 b bm bo i V h hv hi)
  have hho := head_ok (b := b) (2 ^ i)
  generalize (comN b (2 ^ i)).headD [] = x at FO hho ⊢
  generalize (comN b (2 ^ i)).length = n at FO
  replace FO := Lib.hid FO
  have LI := Lib.hid (fun V => EList_any hho.1 V)
  have hw := pow_wrapL i (by omega)
  have hi64 : (i : Int) < 64 := by omega
  clear hm hv hho
  go_enter Tryz.func23, Tryz.ntmps23
  go_wp2_with (first
    | (go_at_call 68; go_must ((with_reducible refine (LI.out _).mono ?_); rintro e w4 ⟨v4, rfl, hi4, hb4⟩; dsimp only))
    | (go_at_call 38; go_must ((with_reducible refine (FO.out _ _ _ hB2).mono ?_); rintro e w3 ⟨rfl, hb3⟩; dsimp only))
    | (go_at_call 37; go_must ((with_reducible refine EN.out.mono ?_); rintro e w2 ⟨bm, bo, rfl, hB2, hb2, hlo, hlo2⟩; dsimp only)))
  go_ret2
  have hz := (box_old hQ1).size
  have hb5 : Below w.heap.size w (w3.alloc (.cells (heardCells x) 95)) := (((box_old hQ1).trans (hb2.mono hz)).trans (hb3.mono (by have := hb2.size; omega))).alloc (by have := hb2.size; have := hb3.size; omega) _
  have hz5 := hb5.size
  obtain ⟨ad, c, e1, e2, e3, e4⟩ := hi4
  exact ⟨_, rfl, ⟨ad, c, e1, e2, e3, fun x e => Nat.le_trans hz5 (e4 x e)⟩, hb5.trans (hb4.mono hz5)⟩
theorem or_twoE : ∀ i : Nat, i < 5 → ∀ j : Nat, j < 5 → bits BinOp.or IntKind.i64 ((2 : Int) ^ i) ((2 : Int) ^ j) = ((2 ^ i ||| 2 ^ j : Nat) : Int) := by decide +kernel
set_option maxRecDepth 100000 in
set_option maxHeartbeats 2000000 in
theorem EAlike_any (a1 a2 : Option Addr) (k1 k2 : Nat) (b : EaB) (i j : Nat) (w : World) (hm : BookC w a1 a2 k1 k2 b) (hv : EaValid b) (hi : i < b.spells.length) (hj : j < b.spells.length) (hij : i ≠ j) :
    Calls Tryz.prog 8 #[(.agg #[.int .i64 b.sounds, .slice a1 b.alphas.length k1, .slice a2 b.spells.length k2]), .int .i64 (i : Int), .int .i64 (j : Int)] w fun e w' => e = .returned (.tuple #[.int .i64 (alikeN b i j), .int .i64 0]) ∧ Below w.heap.size w w' := by
  have hQ0 := Below.refl (w.heap.size + 1) (w.alloc (.cells #[.int .i64 b.sounds, .slice a1 b.alphas.length k1, .slice a2 b.spells.length k2] 25))
  have hQ1 := hQ0.alloc (by simp) (.cells #[.int .i64 (i : Int), .int .i64 (j : Int)] 3)
  have hns := hv.ns
  have hl2 := hm.oks.len
  have EN := Lib.hid (EEnterTwo_any a1 a2 k1 k2 b b.spells.length i j (w.heap.size + 1) ((w.alloc (.cells #[.int .i64 b.sounds, .slice a1 b.alphas.length k1, .slice a2 b.spells.length k2] 25)).alloc (.cells #[.int .i64 (i : Int), .int .i64 (j : Int)] 3)) (hm.mono (box_old hQ1)) hv (by omega) hi hj (by simp) (by simp))
  have FO := (fun (V : World) (bm bo : Nat) (h : BookW V bm bo a1 a2 k1 k2 b) => EFirstOne_any a1 a2 k1 k2 b bm bo i V h hv hi)
  have FP := (fun (V : World) (bm bo : Nat) (h : BookW V bm bo a1 a2 k1 k2 b) => EFirstOne_any a1 a2 k1 k2 b bm bo j V h hv hj)
  have FB := (fun (V : World) (bm bo : Nat) (h : BookW V bm bo a1 a2 k1 k2 b) => EFirstOf_any a1 a2 k1 k2 b bm bo (2 ^ i ||| 2 ^ j) V h hv (Nat.or_lt_two_pow (two_ltE hi) (two_ltE hj)) (fun e => by
    have := Nat.two_pow_pos i
    have h2 : 2 ^ i ≤ 2 ^ i ||| 2 ^ j := Nat.left_le_or
    omega))
  have hxo := head_ok (b := b) (2 ^ i)
  have hyo := head_ok (b := b) (2 ^ j)
  have hS4 : b.sounds.toNat ≤ 4 := by have := hv.sounds; omega
  have HA : Hid (alikeN b i j = if (comN b (2 ^ i)).length = 1 ∧ (comN b (2 ^ j)).length = 1 ∧ (comN b (2 ^ i)).headD [] = (comN b (2 ^ j)).headD [] then 1 else if (comN b (2 ^ i ||| 2 ^ j)).length = 0 then 2 else 0) := Lib.hid rfl
  have HZ := Lib.hid (fun W => heard_eqE hS4 hxo hyo W)
  generalize alikeN b i j = r at HA ⊢
  generalize (comN b (2 ^ i)).headD [] = x at FO hxo HA HZ
  generalize (comN b (2 ^ j)).headD [] = y at FP hyo HA HZ
  generalize (comN b (2 ^ i ||| 2 ^ j)).headD [] = z at FB
  generalize (comN b (2 ^ i)).length = mx at FO HA
  generalize (comN b (2 ^ j)).length = my at FP HA
  generalize (comN b (2 ^ i ||| 2 ^ j)).length = mz at FB HA
  replace FO := Lib.hid FO
  replace FP := Lib.hid FP
  replace FB := Lib.hid FB
  have hw := pow_wrapL i (by omega)
  have hw2 := pow_wrapL j (by omega)
  have hor := or_twoE i (by omega) j (by omega)
  have hi64 : (i : Int) < 64 := by omega
  have hj64 : (j : Int) < 64 := by omega
  have gij := eqn_f (a := i) (b := j) hij
  clear hm hv hxo hyo hij
  go_enter Tryz.func8, Tryz.ntmps8
  go_upto_region 8 with (first
    | (go_at_call 38; ((with_reducible refine (FP.out _ _ _ (hB2.below (hb3.alloc hb3.size _))).mono ?_); rintro e w4 ⟨rfl, hb4⟩; dsimp only))
    | (go_at_call 38; go_must ((with_reducible refine (FO.out _ _ _ hB2).mono ?_); rintro e w3 ⟨rfl, hb3⟩; dsimp only))
    | (go_at_call 37; go_must ((with_reducible refine EN.out.mono ?_); rintro e w2 ⟨bm, bo, rfl, hB2, hb2, hlo, hlo2⟩; dsimp only)))
  have hB4 : BookW (w4.alloc (.cells (heardCells y) 95)) bm bo a1 a2 k1 k2 b := ((hB2.below (hb3.alloc hb3.size _)).below hb4).below ((Below.refl _ _).alloc (Nat.le_refl _) _)
  have hx3 : (w3.alloc (.cells (heardCells x) 95)).heap[w3.heap.size]? = some (.cells (heardCells x) 95 (0, 0)) := alloc_atE _ _ rfl
  have hx4 : (w4.alloc (.cells (heardCells y) 95)).heap[w3.heap.size]? = some (.cells (heardCells x) 95 (0, 0)) := (heap_alloc_old _ _ (by have := hb4.size; simp at this; omega)).trans ((hb4.block _ (by simp)).trans hx3)
  have hy4 : (w4.alloc (.cells (heardCells y) 95)).heap[w4.heap.size]? = some (.cells (heardCells y) 95 (0, 0)) := alloc_atE _ _ rfl
  have hz1 := (box_old hQ1).size
  have hb5 : Below w.heap.size w (w4.alloc (.cells (heardCells y) 95)) := ((((box_old hQ1).trans (hb2.mono hz1)).trans ((hb3.alloc hb3.size (.cells (heardCells x) 95)).mono (by have := hb2.size; omega))).trans (hb4.mono (by have := hb2.size; have := hb3.size; simp; omega))).alloc (by have := hb2.size; have := hb3.size; have := hb4.size; simp at this; omega) _
  obtain ⟨V, hV⟩ : ∃ V : World, V = w4.alloc (.cells (heardCells y) 95) := ⟨_, rfl⟩
  rw [← hV] at hB4 hx4 hy4 hb5 ⊢
  have hxz := lt_of_block hx4
  have hyz := lt_of_block hy4
  clear hV hx3 hb4 hb3 hb2 hB2 hQ0 hQ1 EN FO FP hlo hlo2
  go_cut [15] from 14 to 58 (fun v U => v = .int .i64 (mz : Int) ∧ Below V.heap.size V U)
  case first =>
    have hbd : Below V.heap.size V V.drew := below_drew' (Below.refl _ _)
    have FBV := Lib.hid (fun (U : World) (h : Below V.heap.size V U) => FB.out U bm bo (hB4.below h))
    clear HA HZ FB hx4 hy4
    (focus go_region_with (go_at_call 38; first
      | ((with_reducible refine (FBV.out _ hbd).mono ?_); rintro e U2 ⟨rfl, hU2⟩; dsimp only)
      | ((with_reducible refine (FBV.out _ (below_drew' ((Below.refl _ _).alloc (Nat.le_refl _) _))).mono ?_); rintro e U2 ⟨rfl, hU2⟩; have hcb : U2.heap[V.heap.size]? = some (.cells (heardCells []) 95 (0, 0)) := (hU2.block _ (by simp)).trans (alloc_atE V _ rfl); have q0 := blk_cell 0 hcb rfl; have q1 := blk_cell 1 hcb rfl; have q2 := blk_cell 2 hcb rfl; have q3 := blk_cell 3 hcb rfl; have q4 := blk_cell 4 hcb rfl; have q5 := blk_cell 5 hcb rfl; have g0 := blk_free 0 hcb; have g1 := blk_free 1 hcb; have g2 := blk_free 2 hcb; have g3 := blk_free 3 hcb; have g4 := blk_free 4 hcb; have g5 := blk_free 5 hcb; have gz := lt_of_block hcb; (simp only [heardCells, List.getElem_toArray, List.getElem_cons_zero, List.getElem_cons_succ] at q0 q1 q2 q3 q4 q5); dsimp only)))
    all_goals
      go_wp2
      go_meet
      case rel =>
        refine ⟨rfl, ?_⟩
        first
        | with_reducible exact (hbd.trans (hU2.mono hbd.size)).alloc (by have := hU2.size; have := hbd.size; omega) _
        | (have hbe : Below V.heap.size V U2 := (below_drew' ((Below.refl _ _).alloc (Nat.le_refl _) _)).trans (hU2.mono (by simp))
           show Below V.heap.size V (setHeard U2 V.heap.size z)
           exact setHeard_below hbe (Nat.le_refl _))
  case rest =>
    obtain ⟨rfl, hbU⟩ := hcut
    rename World => U
    have hxU := (hbU.block _ hxz).trans hx4
    have hyU := (hbU.block _ hyz).trans hy4
    have c0 := blk_cell 0 hxU rfl
    have c1 := blk_cell 1 hxU rfl
    have c2 := blk_cell 2 hxU rfl
    have c3 := blk_cell 3 hxU rfl
    have c4 := blk_cell 4 hxU rfl
    have c5 := blk_cell 5 hxU rfl
    have d0 := blk_cell 0 hyU rfl
    have d1 := blk_cell 1 hyU rfl
    have d2 := blk_cell 2 hyU rfl
    have d3 := blk_cell 3 hyU rfl
    have d4 := blk_cell 4 hyU rfl
    have d5 := blk_cell 5 hyU rfl
    have cz := lt_of_block hxU
    have dz := lt_of_block hyU
    simp only [heardCells, List.getElem_toArray, List.getElem_cons_zero, List.getElem_cons_succ] at c0 c1 c2 c3 c4 c5 d0 d1 d2 d3 d4 d5
    have HB := Lib.hid (hb5.trans (hbU.mono hb5.size))
    clear hx4 hy4 hxU hyU hB4 hb5 hbU hxz hyz FB
    by_cases h1 : mx = 1
    · have e1 : ((mx : Int) == 1) = true := eqi_t (by omega)
      by_cases h2 : my = 1
      · have e2 : ((my : Int) == 1) = true := eqi_t (by omega)
        by_cases h3 : x = y
        · have HR := Lib.hid (HA.out.trans (if_pos ⟨h1, h2, h3⟩))
          have HE := HZ.out
          rw [decide_eq_true h3] at HE
          clear h1 h2 h3 HA HZ
          go_wp2
          go_ret2
          exact ⟨by rw [HR.out]; rfl, HB.out⟩
        · have HR := Lib.hid (HA.out.trans (if_neg (fun h => h3 h.2.2)))
          have HE := HZ.out
          rw [decide_eq_false h3] at HE
          clear h1 h2 h3 HA HZ
          by_cases h4 : mz = 0
          · have e4 : ((mz : Int) == 0) = true := eqi_t (by omega)
            have HR2 := Lib.hid (HR.out.trans (if_pos h4))
            clear h4 HR
            go_wp2
            go_ret2
            exact ⟨by rw [HR2.out]; rfl, HB.out⟩
          · have e4 : ((mz : Int) == 0) = false := eqi_f (by omega)
            have HR2 := Lib.hid (HR.out.trans (if_neg h4))
            clear h4 HR
            go_wp2
            go_ret2
            exact ⟨by rw [HR2.out]; rfl, HB.out⟩
      · have e2 : ((my : Int) == 1) = false := eqi_f (by omega)
        have HR := Lib.hid (HA.out.trans (if_neg (fun h => h2 h.2.1)))
        clear h1 h2 HA HZ
        by_cases h4 : mz = 0
        · have e4 : ((mz : Int) == 0) = true := eqi_t (by omega)
          have HR2 := Lib.hid (HR.out.trans (if_pos h4))
          clear h4 HR
          go_wp2
          go_ret2
          exact ⟨by rw [HR2.out]; rfl, HB.out⟩
        · have e4 : ((mz : Int) == 0) = false := eqi_f (by omega)
          have HR2 := Lib.hid (HR.out.trans (if_neg h4))
          clear h4 HR
          go_wp2
          go_ret2
          exact ⟨by rw [HR2.out]; rfl, HB.out⟩
    · have e1 : ((mx : Int) == 1) = false := eqi_f (by omega)
      have HR := Lib.hid (HA.out.trans (if_neg (fun h => h1 h.1)))
      clear h1 HA HZ
      by_cases h4 : mz = 0
      · have e4 : ((mz : Int) == 0) = true := eqi_t (by omega)
        have HR2 := Lib.hid (HR.out.trans (if_pos h4))
        clear h4 HR
        go_wp2
        go_ret2
        exact ⟨by rw [HR2.out]; rfl, HB.out⟩
      · have e4 : ((mz : Int) == 0) = false := eqi_f (by omega)
        have HR2 := Lib.hid (HR.out.trans (if_neg h4))
        clear h4 HR
        go_wp2
        go_ret2
        exact ⟨by rw [HR2.out]; rfl, HB.out⟩
end Go.Proofs.YtklconegomgjaaaGreat
namespace Go.Proofs.YtklconegomgjaaaGreat
open Go Go.RowKit Go.Shelf

theorem setOf_snoc (l : List Int) (x : Int) : setOf (l ++ [x]) = setOf l ||| 2 ^ x.toNat := by
  unfold setOf
  rw [List.foldl_append]
  simp [Nat.one_shiftLeft]
theorem setOf_numbers {s n : Nat} (hs : s < 2 ^ n) : setOf (bitsList s n) = s := by
  apply Nat.eq_of_testBit_eq
  intro k
  rw [setOf_bit _ _ (fun x hx => ((bits_mem s n x).1 hx).1), Bool.eq_iff_iff, decide_eq_true_eq, bits_mem]
  constructor
  · rintro ⟨_, _, h⟩
    simpa using h
  · intro h
    refine ⟨by omega, ?_, by simpa using h⟩
    have : k < n := by
      apply Classical.byContradiction
      intro hn
      have := Nat.testBit_lt_two_pow (x := s) (i := k) (Nat.lt_of_lt_of_le hs (Nat.pow_le_pow_right (by omega) (by omega)))
      rw [h] at this
      cases this
    omega
theorem setOf_pos {l : List Int} (h : l ≠ []) (h0 : ∀ x ∈ l, 0 ≤ x) : setOf l ≠ 0 := by
  intro e
  match l, h with
  | x :: l, _ =>
    have := setOf_bit (x :: l) x.toNat h0
    rw [e, Nat.zero_testBit] at this
    have hx := h0 x (by simp)
    simp only [Int.toNat_of_nonneg hx] at this
    simp at this
theorem or_bitC : ∀ c : Nat, c < 32 → ∀ k : Nat, k < 5 → bits BinOp.or .i64 (c : Int) ((2 : Int) ^ k) = ((c ||| 2 ^ k : Nat) : Int) := by decide +kernel
/-- The number before the k-th one; below 0: there is none. -/
def lastOf' (l : List Int) (k : Nat) : Int := if k = 0 then -1 else l[k - 1]?.getD 0
theorem lastOf'_lt {n : Int} {l : List Int} (h : incr n l) {k : Nat} (hk : k < l.length) : lastOf' l k < l[k] := by
  unfold lastOf'
  split
  · have := (h.2 _ (List.getElem_mem hk)).1; omega
  · next h0 =>
    rw [List.getElem?_eq_getElem (by omega)]
    exact List.pairwise_iff_getElem.1 h.1 (k - 1) k (by omega) hk (by omega)
theorem lastOf'_next {l : List Int} {k : Nat} (hk : k < l.length) : lastOf' l (k + 1) = l[k] := by
  unfold lastOf'
  rw [if_neg (by omega), Nat.add_sub_cancel, List.getElem?_eq_getElem hk]
  rfl
set_option maxRecDepth 100000 in
set_option maxHeartbeats 2000000 in
theorem ECommon_any (a1 a2 : Option Addr) (k1 k2 : Nat) (b : EaB) (a : Option Addr) (l : List Int) (c : Nat) (w : World) (hm : BookC w a1 a2 k1 k2 b) (hv : EaValid b) (ho : SlOk a l.length c) (hi : IntsC w a l) (hl : incr b.spells.length l) (h0 : l ≠ []) :
    Calls Tryz.prog 25 #[(.agg #[.int .i64 b.sounds, .slice a1 b.alphas.length k1, .slice a2 b.spells.length k2]), .slice a l.length c] w fun e w' => ∃ v, e = .returned (.tuple #[v, .int .i64 (if (comN b (setOf l)).isEmpty = true then 9 else 0)]) ∧ IntsN w.heap.size w' v ((comN b (setOf l)).headD []) ∧ Below w.heap.size w w' := by
  have hQ0 := Below.refl (w.heap.size + 1) (w.alloc (.cells #[.int .i64 b.sounds, .slice a1 b.alphas.length k1, .slice a2 b.spells.length k2] 25))
  have hns := hv.ns
  have hl1 := ho.len
  have hl2 := hm.oks.len
  have hx : ∀ x ∈ l, 0 ≤ x ∧ x < b.spells.length := hl.2
  have EN := Lib.hid (EEnter_any a1 a2 k1 k2 b b.spells.length a l c (w.alloc (.cells #[.int .i64 b.sounds, .slice a1 b.alphas.length k1, .slice a2 b.spells.length k2] 25)) (hm.mono (box_old hQ0)) hv (by omega) hl1 (hi.mono (box_old hQ0)) hx)
  have hslt : setOf l < 2 ^ b.spells.length := setOf_lt l _ hx
  have hspos := setOf_pos h0 (fun x h => (hx x h).1)
  have FB := (fun (V : World) (bm bo : Nat) (h : BookW V bm bo a1 a2 k1 k2 b) => EFirstOf_any a1 a2 k1 k2 b bm bo (setOf l) V h hv hslt hspos)
  have hho := head_ok (b := b) (setOf l)
  have HSL : Hid (∀ k, k ≤ l.length → setOf (l.take k) < 32) := Lib.hid (fun k _ => Nat.lt_of_lt_of_le (setOf_lt _ b.spells.length (fun x h => hx x (List.mem_of_mem_take h))) (Nat.pow_le_pow_right (n := 2) (by omega) hns))
  have HIN := Lib.hid (fun k (hk : k < l.length) => lastOf'_lt hl hk)
  have HXB := Lib.hid hx
  have HI := Lib.hid (fun (V : World) (h : Below w.heap.size w V) => hi.mono h)
  obtain ⟨em, hem⟩ : ∃ em : Bool, em = (comN b (setOf l)).isEmpty := ⟨_, rfl⟩
  have hlen : ((comN b (setOf l)).length = 0 ↔ em = true) := by rw [hem, List.isEmpty_iff, List.length_eq_zero_iff]
  have hnil : em = true → (comN b (setOf l)).headD [] = [] := by rw [hem, List.isEmpty_iff]; intro h; rw [h]; rfl
  rw [← hem]
  generalize (comN b (setOf l)).headD [] = x at FB hho hnil ⊢
  generalize (comN b (setOf l)).length = m at FB hlen
  have LI := Lib.hid (fun V => EList_any hho.1 V)
  obtain ⟨s, hs⟩ : ∃ s, s = setOf l := ⟨_, rfl⟩
  rw [← hs] at FB hslt hspos
  have HS := Lib.hid hs
  have hs0 : ((s : Int) == 0) = false := eqi_f (by omega)
  replace FB := Lib.hid FB
  clear hm hv hho hx hem hl hs hspos hslt
  go_enter Tryz.func25, Tryz.ntmps25
  go_upto_region 6 with (go_at_call 37; go_must ((with_reducible refine EN.out.mono ?_); rintro e w2 ⟨bm, bo, rfl, hB2, hb2, hlo, hlo2⟩; dsimp only))
  have hbw2 := (box_old hQ0).trans (hb2.mono (by simp))
  have hi2 := HI.out _ hbw2
  clear hQ0 hb2 hi EN HI
  go_loop [8, 9, 28] (fun st la i => ∃ k : Nat, k ≤ l.length ∧ i = .int .i64 k ∧ st = .int .i64 (setOf (l.take k) : Int) ∧ la = .int .i64 (lastOf' l k)) (fun _ _ i => l.length - (intOf i).toNat)
  case atStart => exact ⟨0, Nat.zero_le _, rfl, rfl, rfl⟩
  case round =>
    obtain ⟨k, hk, rfl, rfl, rfl⟩ := hrel
    by_cases hlt : k < l.length
    · have h1 := HIN.out k hlt
      have hx := HXB.out _ (List.getElem_mem hlt)
      have hsl := HSL.out k hk
      have HN := Lib.hid (setOf_snoc (l.take k) l[k])
      rw [← List.take_succ_eq_append_getElem hlt] at HN
      have HLN := Lib.hid (lastOf'_next hlt)
      obtain ⟨b', off, rfl, hb', hc⟩ := hi2 k hlt
      generalize l[k] = y at h1 hx HN HLN hc
      obtain ⟨n, rfl⟩ : ∃ n : Nat, y = (n : Int) := ⟨y.toNat, by omega⟩
      simp only [Int.toNat_natCast] at HN
      have hw := pow_wrapL n (by omega)
      have hor := or_bitC (setOf (l.take k)) hsl n (by omega)
      have hn64 : (n : Int) < 64 := by omega
      have hgt : ¬ (n : Int) ≤ lastOf' l k := by omega
      rw [← HN.out] at hor
      clear h1 hx HN
      generalize setOf (l.take k) = sk at hor
      obtain ⟨sk1, hk1⟩ : ∃ sk1, sk1 = setOf (l.take (k + 1)) := ⟨_, rfl⟩
      rw [← hk1] at hor
      replace hk1 := Lib.hid hk1
      go_wp2
      go_round
      case rel => exact ⟨k + 1, by omega, by go_num, by rw [hk1.out], by rw [HLN.out]⟩
      case measure => simp [intOf]; omega
    · obtain rfl : k = l.length := by omega
      rw [List.take_length, ← HS.out]
      clear hi2 HSL HIN HXB
      cases em
      · have hm0 : ((m : Int) == 0) = false := eqi_f (fun h => by have := hlen.1 (by omega); cases this)
        clear hlen hnil
        go_wp2_with (first
          | (go_at_call 68; go_must ((with_reducible refine (LI.out _).mono ?_); rintro e w4 ⟨v4, rfl, hi4, hb4⟩; dsimp only))
          | (go_at_call 38; go_must ((with_reducible refine (FB.out _ _ _ hB2).mono ?_); rintro e w3 ⟨rfl, hb3⟩; dsimp only)))
        go_ret2
        have hb5 : Below w.heap.size w (w3.alloc (.cells (heardCells x) 95)) := (hbw2.trans (hb3.mono hbw2.size)).alloc (by have := hbw2.size; have := hb3.size; omega) _
        have hz5 := hb5.size
        obtain ⟨ad, c, e1, e2, e3, e4⟩ := hi4
        exact ⟨_, rfl, ⟨ad, c, e1, e2, e3, fun x e => Nat.le_trans hz5 (e4 x e)⟩, hb5.trans (hb4.mono hz5)⟩
      · have hm0 : ((m : Int) == 0) = true := eqi_t (by have := hlen.2 rfl; omega)
        have HX0 := Lib.hid (hnil rfl)
        clear hlen hnil
        go_wp2_with (go_at_call 38; go_must ((with_reducible refine (FB.out _ _ _ hB2).mono ?_); rintro e w3 ⟨rfl, hb3⟩; dsimp only))
        go_ret2
        have hb5 : Below w.heap.size w (w3.alloc (.cells (heardCells x) 95)) := (hbw2.trans (hb3.mono hbw2.size)).alloc (by have := hbw2.size; have := hb3.size; omega) _
        have hx0 := HX0.out
        subst hx0
        exact ⟨_, rfl, ⟨none, 0, rfl, ⟨by simp, by omega, fun _ => rfl⟩, IntsC.nil _ _, fun _ h => by cases h⟩, hb5⟩
end Go.Proofs.YtklconegomgjaaaGreat
