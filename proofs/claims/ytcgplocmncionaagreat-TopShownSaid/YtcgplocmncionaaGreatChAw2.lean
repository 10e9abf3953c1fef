/- What is proved here: the contract of the laws' Awake of layer 10. No condition. -/
import Derived.Test.YtcgplocmncionaaGreatChExG
set_option linter.unusedVariables false
set_option linter.unusedSimpArgs false
namespace Go.Proofs.YtcgplocmncionaaGreat
open Go Go.RowKit Go.Shelf

set_option maxRecDepth 100000 in
set_option maxHeartbeats 16000000 in
theorem CAwake_any (w : World) : Calls Tryz.prog 6 #[] w fun e w' => e = .returned (.bool true) ∧ Below w.heap.size w w' := by
  have CH := Lib.hid (CChest_any w)
  go_enter Tryz.func6, Tryz.ntmps6
  go_upto_region 2 with (go_at_call 27; go_must (refine CH.out.mono ?_; rintro e w1 ⟨ap, ac, ar, rfl, hM1, hb1⟩; dsimp only))
  obtain ⟨X, hX⟩ : ∃ X : World, X = w1.alloc (.cells #[.int .i64 3, .int .i64 4, .slice ap 2 2, .int .i64 6, .slice ac 4 4, .slice ar 1 1] 41) := ⟨_, rfl⟩
  rw [← hX]
  have h1X : Below w1.heap.size w1 X := by rw [hX]; exact (Below.refl _ _).alloc (Nat.le_refl _) _
  have hwX := hb1.trans (h1X.mono hb1.size)
  have g1 : X.heap[w1.heap.size]? = some (.cells #[.int .i64 3, .int .i64 4, .slice ap 2 2, .int .i64 6, .slice ac 4 4, .slice ar 1 1] 41 (0, 0)) := by rw [hX]; exact alloc_at _ _ rfl
  have M := Lib.hid (fun (V : World) (h : Below X.heap.size X V) => (hM1.mono h1X).mono h)
  have HC : Hid (∀ V, Below X.heap.size X V → (V.cell? ⟨w1.heap.size, 0, none⟩ = some (.int .i64 3) ∧ V.cell? ⟨w1.heap.size, 1, none⟩ = some (.int .i64 4) ∧ V.cell? ⟨w1.heap.size, 2, none⟩ = some (.slice ap 2 2) ∧ V.cell? ⟨w1.heap.size, 3, none⟩ = some (.int .i64 6) ∧ V.cell? ⟨w1.heap.size, 4, none⟩ = some (.slice ac 4 4) ∧ V.cell? ⟨w1.heap.size, 5, none⟩ = some (.slice ar 1 1) ∧ w1.heap.size < V.heap.size)) := Lib.hid (fun V h => by
    have g := (h.block _ (lt_of_block g1)).trans g1
    exact ⟨blk_cell 0 g rfl, blk_cell 1 g rfl, blk_cell 2 g rfl, blk_cell 3 g rfl, blk_cell 4 g rfl, blk_cell 5 g rfl, lt_of_block g⟩)
  clear hX hM1 hb1 h1X g1
  obtain ⟨l1, hl1⟩ : ∃ l : List Int, l = [2, 5] := ⟨_, rfl⟩
  obtain ⟨l2, hl2⟩ : ∃ l : List Int, l = [0, 1] := ⟨_, rfl⟩
  obtain ⟨l3, hl3⟩ : ∃ l : List Int, l = [0, 1, 3] := ⟨_, rfl⟩
  obtain ⟨l4, hl4⟩ : ∃ l : List Int, l = [0, 1] := ⟨_, rfl⟩
  obtain ⟨l5, hl5⟩ : ∃ l : List Int, l = [0, 1, 3] := ⟨_, rfl⟩
  obtain ⟨l6, hl6⟩ : ∃ l : List Int, l = [0, 1] := ⟨_, rfl⟩
  obtain ⟨l7, hl7⟩ : ∃ l : List Int, l = [1, 3] := ⟨_, rfl⟩
  obtain ⟨l8, hl8⟩ : ∃ l : List Int, l = [0, 3] := ⟨_, rfl⟩
  have F1 := fun (V : World) (h : Below X.heap.size X V) => X_Lost ap ac ar V (M.out V h)
  rw [← hl1] at F1
  replace F1 := Lib.hid F1
  have F2 := fun (V : World) (h : Below X.heap.size X V) => X_Find ap ac ar V 0 [0, 1] (by decide) (by decide +kernel) (M.out V h)
  change ∀ V, _ → Calls _ _ #[_, .int .i64 0, _] _ _ at F2
  rw [← hl2] at F2
  replace F2 := Lib.hid F2
  have F3 := fun (V : World) (h : Below X.heap.size X V) => X_Find ap ac ar V 1 [0, 1, 3] (by decide) (by decide +kernel) (M.out V h)
  change ∀ V, _ → Calls _ _ #[_, .int .i64 1, _] _ _ at F3
  rw [← hl3] at F3
  replace F3 := Lib.hid F3
  have F4 := fun (V : World) (h : Below X.heap.size X V) => X_KeyS ap ac ar V 0 1 3 [0, 1] (by decide) (by decide) (by decide +kernel) (by decide +kernel) (M.out V h)
  change ∀ V, _ → Calls _ _ #[_, .int .i64 0, _] _ _ at F4
  rw [← hl4] at F4
  replace F4 := Lib.hid F4
  have F5 := fun (V : World) (h : Below X.heap.size X V) => X_KeyN ap ac ar V 0 3 9 (by decide) (by decide) (by decide +kernel) (M.out V h)
  change ∀ V, _ → Calls _ _ #[_, .int .i64 0, _] _ _ at F5
  replace F5 := Lib.hid F5
  have F6 := fun (V : World) (h : Below X.heap.size X V) => X_KeyN ap ac ar V 1 4 2 (by decide) (by decide) (by decide +kernel) (M.out V h)
  change ∀ V, _ → Calls _ _ #[_, .int .i64 1, _] _ _ at F6
  replace F6 := Lib.hid F6
  have F7 := fun (V : World) (h : Below X.heap.size X V) => X_KeyN ap ac ar V 0 2 7 (by decide) (by decide) (by decide +kernel) (M.out V h)
  change ∀ V, _ → Calls _ _ #[_, .int .i64 0, _] _ _ at F7
  replace F7 := Lib.hid F7
  have F8 := fun (V : World) (h : Below X.heap.size X V) => X_Knows ap ac ar V (M.out V h)
  rw [← hl5] at F8
  replace F8 := Lib.hid F8
  have F9 := fun (V : World) (h : Below X.heap.size X V) => X_WhyS ap ac ar V (M.out V h)
  rw [← hl6] at F9
  replace F9 := Lib.hid F9
  have F10 := fun (V : World) (h : Below X.heap.size X V) => X_WhyN ap ac ar V (M.out V h)
  replace F10 := Lib.hid F10
  have F11 := fun (V : World) (h : Below X.heap.size X V) => X_Lock ap ac ar V (M.out V h)
  rw [← hl7] at F11
  replace F11 := Lib.hid F11
  have F12 := fun (V : World) (h : Below X.heap.size X V) => X_Least ap ac ar V (M.out V h)
  rw [← hl8] at F12
  replace F12 := Lib.hid F12
  replace hl1 := Lib.hid hl1
  replace hl2 := Lib.hid hl2
  replace hl3 := Lib.hid hl3
  replace hl4 := Lib.hid hl4
  replace hl5 := Lib.hid hl5
  replace hl6 := Lib.hid hl6
  replace hl7 := Lib.hid hl7
  replace hl8 := Lib.hid hl8
  have hQ := Below.refl X.heap.size X
  have hx := HC.out _ hQ
  go_upto_region 13 with (first
    | (go_at_call 12; (with_reducible refine (F11.out _ hQ).mono ?_); rintro e w12 ⟨a7, c7, rfl, o7, i7, hb⟩; replace hQ := q_on hQ hb; replace hx := HC.out _ hQ; replace i1 := i1.mono hb; replace i2 := i2.mono hb; replace i3 := i3.mono hb; replace i4 := i4.mono hb; replace i5 := i5.mono hb; replace i6 := i6.mono hb; dsimp only)
    | (go_at_call 30; (with_reducible refine (F10.out _ hQ).mono ?_); rintro e w11 ⟨rfl, hb⟩; replace hQ := q_on hQ hb; replace hx := HC.out _ hQ; replace i1 := i1.mono hb; replace i2 := i2.mono hb; replace i3 := i3.mono hb; replace i4 := i4.mono hb; replace i5 := i5.mono hb; replace i6 := i6.mono hb; dsimp only)
    | (go_at_call 30; (with_reducible refine (F9.out _ hQ).mono ?_); rintro e w10 ⟨a6, c6, rfl, o6, i6, hb⟩; replace hQ := q_on hQ hb; replace hx := HC.out _ hQ; replace i1 := i1.mono hb; replace i2 := i2.mono hb; replace i3 := i3.mono hb; replace i4 := i4.mono hb; replace i5 := i5.mono hb; dsimp only)
    | (go_at_call 11; (with_reducible refine (F8.out _ hQ).mono ?_); rintro e w9 ⟨a5, c5, rfl, o5, i5, hb⟩; replace hQ := q_on hQ hb; replace hx := HC.out _ hQ; replace i1 := i1.mono hb; replace i2 := i2.mono hb; replace i3 := i3.mono hb; replace i4 := i4.mono hb; dsimp only)
    | (go_at_call 29; (with_reducible refine (F7.out _ hQ).mono ?_); rintro e w8 ⟨rfl, hb⟩; replace hQ := q_on hQ hb; replace hx := HC.out _ hQ; replace i1 := i1.mono hb; replace i2 := i2.mono hb; replace i3 := i3.mono hb; replace i4 := i4.mono hb; dsimp only)
    | (go_at_call 29; (with_reducible refine (F6.out _ hQ).mono ?_); rintro e w7 ⟨rfl, hb⟩; replace hQ := q_on hQ hb; replace hx := HC.out _ hQ; replace i1 := i1.mono hb; replace i2 := i2.mono hb; replace i3 := i3.mono hb; replace i4 := i4.mono hb; dsimp only)
    | (go_at_call 29; (with_reducible refine (F5.out _ hQ).mono ?_); rintro e w6 ⟨rfl, hb⟩; replace hQ := q_on hQ hb; replace hx := HC.out _ hQ; replace i1 := i1.mono hb; replace i2 := i2.mono hb; replace i3 := i3.mono hb; replace i4 := i4.mono hb; dsimp only)
    | (go_at_call 29; (with_reducible refine (F4.out _ hQ).mono ?_); rintro e w5 ⟨a4, c4, rfl, o4, i4, hb⟩; replace hQ := q_on hQ hb; replace hx := HC.out _ hQ; replace i1 := i1.mono hb; replace i2 := i2.mono hb; replace i3 := i3.mono hb; dsimp only)
    | (go_at_call 10; (with_reducible refine (F3.out _ hQ).mono ?_); rintro e w4 ⟨a3, c3, rfl, o3, i3, hb⟩; replace hQ := q_on hQ hb; replace hx := HC.out _ hQ; replace i1 := i1.mono hb; replace i2 := i2.mono hb; dsimp only)
    | (go_at_call 10; (with_reducible refine (F2.out _ hQ).mono ?_); rintro e w3 ⟨a2, c2, rfl, o2, i2, hb⟩; replace hQ := q_on hQ hb; replace hx := HC.out _ hQ; replace i1 := i1.mono hb; dsimp only)
    | (go_at_call 28; (with_reducible refine (F1.out _ hQ).mono ?_); rintro e w2 ⟨a1, c1, rfl, o1, i1, hb⟩; replace hQ := q_on hQ hb; replace hx := HC.out _ hQ;  dsimp only))
  have hQ12 := hQ
  go_wp2_with (first
    | (go_at_call 32; (with_reducible refine (Ints_two (c := c8) 0 3 3 hl8.out i8).mono ?_); rintro e w28 ⟨rfl, hb⟩; replace hQ := q_on hQ hb;  dsimp only)
    | (go_at_call 32; (with_reducible refine (Ints_two (c := c7) 1 3 3 hl7.out i7).mono ?_); rintro e w27 ⟨rfl, hb⟩; replace hQ := q_on hQ hb; replace i8 := i8.mono hb; dsimp only)
    | (go_at_call 32; (with_reducible refine (Ints_two (c := c6) 0 1 3 hl6.out i6).mono ?_); rintro e w26 ⟨rfl, hb⟩; replace hQ := q_on hQ hb; replace i7 := i7.mono hb; replace i8 := i8.mono hb; dsimp only)
    | (go_at_call 32; (with_reducible refine (Ints_three (c := c5) 0 1 3 3 hl5.out i5).mono ?_); rintro e w25 ⟨rfl, hb⟩; replace hQ := q_on hQ hb; replace i6 := i6.mono hb; replace i7 := i7.mono hb; replace i8 := i8.mono hb; dsimp only)
    | (go_at_call 32; (with_reducible refine (Ints_two (c := c4) 0 1 3 hl4.out i4).mono ?_); rintro e w24 ⟨rfl, hb⟩; replace hQ := q_on hQ hb; replace i5 := i5.mono hb; replace i6 := i6.mono hb; replace i7 := i7.mono hb; replace i8 := i8.mono hb; dsimp only)
    | (go_at_call 32; (with_reducible refine (Ints_three (c := c3) 0 1 3 3 hl3.out i3).mono ?_); rintro e w23 ⟨rfl, hb⟩; replace hQ := q_on hQ hb; replace i4 := i4.mono hb; replace i5 := i5.mono hb; replace i6 := i6.mono hb; replace i7 := i7.mono hb; replace i8 := i8.mono hb; dsimp only)
    | (go_at_call 32; (with_reducible refine (Ints_two (c := c2) 0 1 3 hl2.out i2).mono ?_); rintro e w22 ⟨rfl, hb⟩; replace hQ := q_on hQ hb; replace i3 := i3.mono hb; replace i4 := i4.mono hb; replace i5 := i5.mono hb; replace i6 := i6.mono hb; replace i7 := i7.mono hb; replace i8 := i8.mono hb; dsimp only)
    | (go_at_call 32; (with_reducible refine (Ints_two (c := c1) 2 5 3 hl1.out i1).mono ?_); rintro e w21 ⟨rfl, hb⟩; replace hQ := q_on hQ hb; replace i2 := i2.mono hb; replace i3 := i3.mono hb; replace i4 := i4.mono hb; replace i5 := i5.mono hb; replace i6 := i6.mono hb; replace i7 := i7.mono hb; replace i8 := i8.mono hb; dsimp only)
    | (go_at_call 31; (with_reducible refine (F12.out _ hQ).mono ?_); rintro e w13 ⟨a8, c8, rfl, o8, i8, hb⟩; replace hQ := q_on hQ hb; replace i1 := i1.mono hb; replace i2 := i2.mono hb; replace i3 := i3.mono hb; replace i4 := i4.mono hb; replace i5 := i5.mono hb; replace i6 := i6.mono hb; replace i7 := i7.mono hb; dsimp only))
  go_ret
  exact ⟨rfl, hwX.trans (hQ.mono hwX.size)⟩
end Go.Proofs.YtcgplocmncionaaGreat
