/- What is proved here: the contract of the laws' Awake of layer 1. No condition. -/
import Derived.Test.YtklconegomgjaaaGreatPeWhyG
set_option linter.unusedVariables false
set_option linter.unusedSimpArgs false
namespace Go.Proofs.YtklconegomgjaaaGreat
open Go Go.RowKit Go.Shelf

set_option maxRecDepth 100000 in
set_option maxHeartbeats 16000000 in
theorem EAwake_any (w : World) : Calls Tryz.prog 6 #[] w fun e w' => e = .returned (.bool true) ∧ Below w.heap.size w w' := by
  have CH := Lib.hid (EBook_any w)
  go_enter Tryz.func6, Tryz.ntmps6
  go_upto_region 2 with (go_at_call 21; go_must (refine CH.out.mono ?_; rintro e w1 ⟨a1, a2, rfl, hM1, hb1⟩; dsimp only))
  obtain ⟨X, hX⟩ : ∃ X : World, X = w1.alloc (.cells #[.int .i64 3, .slice a1 2 2, .slice a2 4 4] 25) := ⟨_, rfl⟩
  rw [← hX]
  have h1X : Below w1.heap.size w1 X := by rw [hX]; exact (Below.refl _ _).alloc (Nat.le_refl _) _
  have hwX := hb1.trans (h1X.mono hb1.size)
  have g1 : X.heap[w1.heap.size]? = some (.cells #[.int .i64 3, .slice a1 2 2, .slice a2 4 4] 25 (0, 0)) := by rw [hX]; exact alloc_atE _ _ rfl
  have M := Lib.hid (fun (V : World) (h : Below X.heap.size X V) => (hM1.mono h1X).mono h)
  have HC : Hid (∀ V, Below X.heap.size X V → (V.cell? ⟨w1.heap.size, 0, none⟩ = some (.int .i64 3) ∧ V.cell? ⟨w1.heap.size, 1, none⟩ = some (.slice a1 2 2) ∧ V.cell? ⟨w1.heap.size, 2, none⟩ = some (.slice a2 4 4) ∧ w1.heap.size < V.heap.size)) := Lib.hid (fun V h => by
    have g := (h.block _ (lt_of_block g1)).trans g1
    exact ⟨blk_cell 0 g rfl, blk_cell 1 g rfl, blk_cell 2 g rfl, lt_of_block g⟩)
  clear hX hM1 hb1 h1X g1
  obtain ⟨l1, hl1⟩ : ∃ l : List Int, l = [2] := ⟨_, rfl⟩
  obtain ⟨l2, hl2⟩ : ∃ l : List Int, l = [2, 0] := ⟨_, rfl⟩
  obtain ⟨l3, hl3⟩ : ∃ l : List Int, l = [] := ⟨_, rfl⟩
  obtain ⟨l4, hl4⟩ : ∃ l : List Int, l = [1] := ⟨_, rfl⟩
  have F1 := fun (V : World) (h : Below X.heap.size X V) => X_Count a1 a2 V (M.out V h)
  replace F1 := Lib.hid F1
  have F2 := fun (V : World) (h : Below X.heap.size X V) => X_EFirst a1 a2 V (M.out V h)
  rw [← hl1] at F2
  replace F2 := Lib.hid F2
  have F3 := fun (V : World) (h : Below X.heap.size X V) => X_Reads1 a1 a2 V (M.out V h)
  replace F3 := Lib.hid F3
  have F4 := fun (V : World) (h : Below X.heap.size X V) => X_Reads2 a1 a2 V (M.out V h)
  replace F4 := Lib.hid F4
  have F5 := fun (V : World) (h : Below X.heap.size X V) => X_Alike a1 a2 V (M.out V h) 2 3 1 (by decide) (by decide) (by decide) exBook_alike.1
  change ∀ V, _ → Calls _ _ #[_, .int .i64 2, .int .i64 3] _ _ at F5
  replace F5 := Lib.hid F5
  have F6 := fun (V : World) (h : Below X.heap.size X V) => X_Alike a1 a2 V (M.out V h) 0 1 0 (by decide) (by decide) (by decide) exBook_alike.2.1
  change ∀ V, _ → Calls _ _ #[_, .int .i64 0, .int .i64 1] _ _ at F6
  replace F6 := Lib.hid F6
  have F7 := fun (V : World) (h : Below X.heap.size X V) => X_Alike a1 a2 V (M.out V h) 1 2 2 (by decide) (by decide) (by decide) exBook_alike.2.2
  change ∀ V, _ → Calls _ _ #[_, .int .i64 1, .int .i64 2] _ _ at F7
  replace F7 := Lib.hid F7
  have F8 := fun (V : World) (h : Below X.heap.size X V) => X_Common1 a1 a2 V (M.out V h)
  rw [← hl2] at F8
  replace F8 := Lib.hid F8
  have F9 := fun (V : World) (h : Below X.heap.size X V) => X_Common2 a1 a2 V (M.out V h)
  rw [← hl3] at F9
  replace F9 := Lib.hid F9
  have F10 := fun (V : World) (h : Below X.heap.size X V) => X_Odd a1 a2 V (M.out V h)
  rw [← hl4] at F10
  replace F10 := Lib.hid F10
  have F11 := fun (V : World) (h : Below X.heap.size X V) => X_Spell1 a1 a2 V (M.out V h)
  replace F11 := Lib.hid F11
  have F12 := fun (V : World) (h : Below X.heap.size X V) => X_Spell2 a1 a2 V (M.out V h)
  replace F12 := Lib.hid F12
  have F13 := fun (V : World) (h : Below X.heap.size X V) => X_Name1 V
  replace F13 := Lib.hid F13
  have F14 := fun (V : World) (h : Below X.heap.size X V) => X_Name2 V
  replace F14 := Lib.hid F14
  replace hl1 := Lib.hid hl1
  replace hl2 := Lib.hid hl2
  replace hl3 := Lib.hid hl3
  replace hl4 := Lib.hid hl4
  have hQ := Below.refl X.heap.size X
  have hx := HC.out _ hQ
  go_upto_region 13 with (first
    | (go_at_call 27; (with_reducible refine (F11.out _ hQ).mono ?_); rintro e w12 ⟨rfl, hb⟩; replace hQ := q_onE hQ hb; replace hx := HC.out _ hQ; replace i1 := i1.mono hb; replace i2 := i2.mono hb; replace i3 := i3.mono hb; replace i4 := i4.mono hb; dsimp only)
    | (go_at_call 26; (with_reducible refine (F10.out _ hQ).mono ?_); rintro e w11 ⟨a4', c4, rfl, o4, i4, hb⟩; replace hQ := q_onE hQ hb; replace hx := HC.out _ hQ; replace i1 := i1.mono hb; replace i2 := i2.mono hb; replace i3 := i3.mono hb; dsimp only)
    | (go_at_call 25; (with_reducible refine (F9.out _ hQ).mono ?_); rintro e w10 ⟨a3', c3, rfl, o3, i3, hb⟩; replace hQ := q_onE hQ hb; replace hx := HC.out _ hQ; replace i1 := i1.mono hb; replace i2 := i2.mono hb; dsimp only)
    | (go_at_call 25; (with_reducible refine (F8.out _ hQ).mono ?_); rintro e w9 ⟨a2', c2, rfl, o2, i2, hb⟩; replace hQ := q_onE hQ hb; replace hx := HC.out _ hQ; replace i1 := i1.mono hb; dsimp only)
    | (go_at_call 8; (with_reducible refine (F7.out _ hQ).mono ?_); rintro e w8 ⟨rfl, hb⟩; replace hQ := q_onE hQ hb; replace hx := HC.out _ hQ; replace i1 := i1.mono hb; dsimp only)
    | (go_at_call 8; (with_reducible refine (F6.out _ hQ).mono ?_); rintro e w7 ⟨rfl, hb⟩; replace hQ := q_onE hQ hb; replace hx := HC.out _ hQ; replace i1 := i1.mono hb; dsimp only)
    | (go_at_call 8; (with_reducible refine (F5.out _ hQ).mono ?_); rintro e w6 ⟨rfl, hb⟩; replace hQ := q_onE hQ hb; replace hx := HC.out _ hQ; replace i1 := i1.mono hb; dsimp only)
    | (go_at_call 24; (with_reducible refine (F4.out _ hQ).mono ?_); rintro e w5 ⟨rfl, hb⟩; replace hQ := q_onE hQ hb; replace hx := HC.out _ hQ; replace i1 := i1.mono hb; dsimp only)
    | (go_at_call 24; (with_reducible refine (F3.out _ hQ).mono ?_); rintro e w4 ⟨rfl, hb⟩; replace hQ := q_onE hQ hb; replace hx := HC.out _ hQ; replace i1 := i1.mono hb; dsimp only)
    | (go_at_call 23; (with_reducible refine (F2.out _ hQ).mono ?_); rintro e w3 ⟨a1', c1, rfl, o1, i1, hb⟩; replace hQ := q_onE hQ hb; replace hx := HC.out _ hQ;  dsimp only)
    | (go_at_call 22; (with_reducible refine (F1.out _ hQ).mono ?_); rintro e w2 ⟨rfl, hb⟩; replace hQ := q_onE hQ hb; replace hx := HC.out _ hQ;  dsimp only))
  go_wp2_with (first
    | (go_at_call 29; (with_reducible refine (F14.out _ hQ).mono ?_); rintro e w15 ⟨rfl, hb⟩; replace hQ := q_onE hQ hb; replace hx := HC.out _ hQ; dsimp only)
    | (go_at_call 29; (with_reducible refine (F13.out _ hQ).mono ?_); rintro e w14 ⟨rfl, hb⟩; replace hQ := q_onE hQ hb; replace hx := HC.out _ hQ; dsimp only)
    | (go_at_call 28; (with_reducible refine (IntsE_one (c := c4) 1 3 hl4.out i4).mono ?_); rintro e w24 ⟨rfl, hb⟩; replace hQ := q_onE hQ hb;  dsimp only)
    | (go_at_call 28; (with_reducible refine (IntsE_two (c := c2) 2 0 3 hl2.out i2).mono ?_); rintro e w22 ⟨rfl, hb⟩; replace hQ := q_onE hQ hb; replace i4 := i4.mono hb; dsimp only)
    | (go_at_call 28; (with_reducible refine (IntsE_one (c := c1) 2 3 hl1.out i1).mono ?_); rintro e w21 ⟨rfl, hb⟩; replace hQ := q_onE hQ hb; replace i2 := i2.mono hb; replace i4 := i4.mono hb; dsimp only)
    | (go_at_call 27; (with_reducible refine (F12.out _ hQ).mono ?_); rintro e w13 ⟨rfl, hb⟩; replace hQ := q_onE hQ hb; replace hx := HC.out _ hQ; replace i1 := i1.mono hb; replace i2 := i2.mono hb; replace i3 := i3.mono hb; replace i4 := i4.mono hb; dsimp only))
  go_ret
  exact ⟨rfl, hwX.trans (hQ.mono hwX.size)⟩
end Go.Proofs.YtklconegomgjaaaGreat
