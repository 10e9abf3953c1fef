/- What is proved here: a list of mentions that is copied; what Who asks of a mention. Conditions: the mentions lie in memory. -/
import Derived.Test.YtklconegomgjaaaGreatEndGG
import Derived.Test.YtklconegomgjaaaGreatCmpG
set_option linter.unusedVariables false
set_option linter.unusedSimpArgs false
namespace Go.Proofs.YtklconegomgjaaaGreat
open Go Go.RowKit Go.Shelf

theorem E_ment : ElemInfo Tryz.prog 26 38 (.agg #[.int .i64 0, .int .i64 0, .int .i64 0, .int .i64 0, .int .i64 0]) 5 40 := ⟨by kernel_rfl, by kernel_rfl, rfl, by decide⟩
def mentCells (x : PeM) : List Value := [.int .i64 x.spell, .int .i64 x.vill, .int .i64 x.lo, .int .i64 x.hi, .int .i64 x.par]
theorem mentCells_len (x : PeM) : (mentCells x).length = 5 := rfl
theorem mentCells_one (x : PeM) : ∀ u ∈ mentCells x, u.oneCell' = true := fun u hu => by simp [mentCells] at hu; rcases hu with rfl | rfl | rfl | rfl | rfl <;> rfl
theorem ments_flat {w : World} {a : Option Addr} {l : List PeM} (h : PeMentsC w a l) : FlatAt mentCells 5 w a l := fun i hi => by
  obtain ⟨b, off, e, hlt, h0, h1, h2, h3, h4⟩ := h i hi
  refine ⟨b, off, e, hlt, fun r u hr hu => ?_⟩
  obtain rfl | rfl | rfl | rfl | rfl : r = 0 ∨ r = 1 ∨ r = 2 ∨ r = 3 ∨ r = 4 := by omega
  · rw [← hu]; exact h0
  · rw [← hu]; exact h1
  · rw [← hu]; exact h2
  · rw [← hu]; exact h3
  · rw [← hu]; exact h4
theorem flat_ments {w : World} {a : Option Addr} {l : List PeM} (h : FlatAt mentCells 5 w a l) : PeMentsC w a l := fun i hi => by
  obtain ⟨b, off, e, hlt, hr⟩ := h i hi
  exact ⟨b, off, e, hlt, hr 0 _ (by omega) rfl, hr 1 _ (by omega) rfl, hr 2 _ (by omega) rfl, hr 3 _ (by omega) rfl, hr 4 _ (by omega) rfl⟩
set_option maxRecDepth 100000 in
set_option maxHeartbeats 1000000 in
theorem PClone_any (a : Option Addr) (l : List PeM) (c : Nat) (w : World) (hl : l.length ≤ 1000) (ho : SlOk a l.length c) (hi : PeMentsC w a l) :
    Calls Tryz.prog 58 #[.slice a l.length c] w fun e w' => ∃ v, e = .returned v ∧ w'.ownsRow w.heap.size 38 5 v l.length (flatC mentCells l) ∧ Below w.heap.size w w' := by
  cases a with
  | none =>
    have h0 : c = 0 := ho.2.2 rfl
    have hl0 : l.length = 0 := by have := ho.1; omega
    have hln : l = [] := List.length_eq_zero_iff.1 hl0
    subst hln
    subst h0
    have hbin : (binOp BinOp.eql 26 (.slice none 0 0) (.slice none 0 0)).run Tryz.prog w = .ok (.bool true) w := by kernel_rfl
    go_enter Tryz.func58, Tryz.ntmps58
    go_wp2
    go_ret
    exact ⟨_, rfl, World.ownsRow_nil _ _ _ _, Below.refl _ _⟩
  | some ad =>
    have hbin : (binOp BinOp.eql 26 (.slice (some ad) l.length c) (.slice none 0 0)).run Tryz.prog w = .ok (.bool false) w := by
      generalize l.length = n
      kernel_rfl
    have hfl := ments_flat (hi.mono ((Below.refl _ w).alloc (Nat.le_refl _) (.cells #[] 38)))
    have hsr := SrcAt.flat (c := c) mentCells_len (by decide) mentCells_one (fun e => by cases e) hfl
    go_enter Tryz.func58, Tryz.ntmps58
    go_wp2_with (at_builtin; go_must (refine wpList_app (.tmp 5) (.tmp 6) E_ment rfl rfl rfl rfl w.heap.size 0 l.length [] (flatC mentCells l) (made_row w _ 5) hsr (by omega) (by decide) (by simp) ?_; intro v2 w3 ho2 hg2 _; (have hb3 := app_fresh hg2); (simp only [Nat.zero_add, List.nil_append] at ho2); clear hg2; simp only [Act.put, List.setIfInBounds_toArray, List.set_cons_succ, List.set_cons_zero]))
    go_ret
    exact ⟨_, rfl, ho2, hb3⟩
set_option maxRecDepth 100000 in
set_option maxHeartbeats 1000000 in
theorem PWho1_any (a1 a2 a3 a4 : Option Addr) (k1 k2 k3 k4 : Nat) (t : PeW) (p0 p1 : Nat) (x : PeM) (w : World) (hm : TownC w a1 a2 a3 a4 k1 k2 k3 k4 t) (hvl : 1 ≤ t.vills ∧ t.vills ≤ 4) (hx : mentErr t t.ments.length x = 0) (h0 : w.heap[p0]? = some (.cells #[.int .i64 t.ear.sounds, .slice a1 t.ear.alphas.length k1, .slice a2 t.ear.spells.length k2, .int .i64 t.vills, .slice a3 t.ments.length k3, .slice a4 t.ties.length k4] 29 (0, 0))) (h1 : w.heap[p1]? = some (.cells #[.int .i64 x.spell, .int .i64 x.vill, .int .i64 x.lo, .int .i64 x.hi, .int .i64 x.par] 38 (0, 0))) :
    Calls Tryz.prog 56 #[.pointer (some ⟨p0, 0, none⟩), .pointer (some ⟨p1, 0, none⟩)] w fun e w' => e = .returned (.int .i64 0) ∧ Below w.heap.size w w' := by
  have ME := Lib.hid (PMention_any a1 a2 a3 a4 k1 k2 k3 k4 t t.ments.length x w hm hvl hx)
  have x0 := blk_cell 0 h0 rfl
  have x1 := blk_cell 1 h0 rfl
  have x2 := blk_cell 2 h0 rfl
  have x3 := blk_cell 3 h0 rfl
  have x4 := blk_cell 4 h0 rfl
  have x5 := blk_cell 5 h0 rfl
  have xz := lt_of_block h0
  have y0 := blk_cell 0 h1 rfl
  have y1 := blk_cell 1 h1 rfl
  have y2 := blk_cell 2 h1 rfl
  have y3 := blk_cell 3 h1 rfl
  have y4 := blk_cell 4 h1 rfl
  have yz := lt_of_block h1
  simp only [List.getElem_toArray, List.getElem_cons_zero, List.getElem_cons_succ] at x0 x1 x2 x3 x4 x5 y0 y1 y2 y3 y4
  clear hm hx h0 h1
  go_enter Tryz.func56, Tryz.ntmps56
  go_wp2_with (go_at_call 57; go_must ((with_reducible refine ME.out.mono ?_); rintro e w3 ⟨rfl, hb3⟩; dsimp only))
  go_ret
  exact ⟨rfl, hb3⟩
end Go.Proofs.YtklconegomgjaaaGreat
