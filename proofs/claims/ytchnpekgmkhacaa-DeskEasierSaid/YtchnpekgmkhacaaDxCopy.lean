/- What is proved here: how a hall whose lists were copied lies in memory, and what stores into it do. No condition. -/
import Derived.Test.YtchnpekgmkhacaaDw6
set_option linter.unusedVariables false
set_option linter.unusedSimpArgs false
namespace Go.Proofs.Ytchnpekgmkhacaa
open Go Go.RowKit Go.Shelf

theorem custs_set (l : List DeC) (i : Nat) (h : i < l.length) (x : DeC) :
    (((((flatC custCells l).set (i * 5) (.string x.name)).set (i * 5 + 1) (.int .i64 x.kind)).set (i * 5 + 2) (.int .i64 x.lo)).set (i * 5 + 3) (.int .i64 x.hi)).set (i * 5 + 4) (.int .i64 x.ship) = flatC custCells (l.set i x) := by
  induction l generalizing i with
  | nil => simp at h
  | cons y l ih =>
    show ((((((.string y.name :: .int .i64 y.kind :: .int .i64 y.lo :: .int .i64 y.hi :: .int .i64 y.ship :: flatC custCells l : List Value).set (i * 5) _).set (i * 5 + 1) _).set (i * 5 + 2) _).set (i * 5 + 3) _).set (i * 5 + 4) _) = _
    cases i with
    | zero => rfl
    | succ i =>
      have := ih i (by simpa using h)
      rw [show (i + 1) * 5 = i * 5 + 5 from by omega, show i * 5 + 5 + 1 = i * 5 + 1 + 5 from by omega, show i * 5 + 5 + 2 = i * 5 + 2 + 5 from by omega, show i * 5 + 5 + 3 = i * 5 + 3 + 5 from by omega, show i * 5 + 5 + 4 = i * 5 + 4 + 5 from by omega]
      simp only [List.set_cons_succ, this]
      rfl
theorem writs_set (l : List DeW) (i : Nat) (h : i < l.length) (x : DeW) :
    ((((flatC writCells l).set (i * 4) (.string x.name)).set (i * 4 + 1) (.int .i64 x.kinds)).set (i * 4 + 2) (.int .i64 x.lo)).set (i * 4 + 3) (.int .i64 x.hi) = flatC writCells (l.set i x) := by
  induction l generalizing i with
  | nil => simp at h
  | cons y l ih =>
    show (((((.string y.name :: .int .i64 y.kinds :: .int .i64 y.lo :: .int .i64 y.hi :: flatC writCells l : List Value).set (i * 4) _).set (i * 4 + 1) _).set (i * 4 + 2) _).set (i * 4 + 3) _) = _
    cases i with
    | zero => rfl
    | succ i =>
      have := ih i (by simpa using h)
      rw [show (i + 1) * 4 = i * 4 + 4 from by omega, show i * 4 + 4 + 1 = i * 4 + 1 + 4 from by omega, show i * 4 + 4 + 2 = i * 4 + 2 + 4 from by omega, show i * 4 + 4 + 3 = i * 4 + 3 + 4 from by omega]
      simp only [List.set_cons_succ, this]
      rfl
/-- A hall whose lists are the call's own. -/
structure CopyH (base bl : Nat) (aw ac : Option Addr) (kw kc : Nat) (wax : Int) (ws : List DeW) (cs : List DeC) (V : World) : Prop where
  hb : base ≤ bl
  blk : V.heap[bl]? = some (.cells #[.int .i64 wax, .slice aw ws.length kw, .slice ac cs.length kc] 25 (0, 0))
  ow : V.ownsRow base 72 4 (.slice aw ws.length kw) ws.length (flatC writCells ws)
  oc : V.ownsRow base 55 5 (.slice ac cs.length kc) cs.length (flatC custCells cs)
variable {base bl g : Nat} {aw ac : Option Addr} {kw kc : Nat} {wax : Int} {ws : List DeW} {cs : List DeC} {V V' : World}
theorem CopyH.mono (k : CopyH base bl aw ac kw kc wax ws cs V) (h : Below V.heap.size V V') : CopyH base bl aw ac kw kc wax ws cs V' :=
  ⟨k.hb, (h.block _ (lt_of_block k.blk)).trans k.blk, own_below k.ow h, own_below k.oc h⟩
theorem CopyH.hall (k : CopyH base bl aw ac kw kc wax ws cs V) (h1 : ∀ x ∈ ws, x.name.size ≤ 9223372036854775807) (h2 : ∀ x ∈ cs, x.name.size ≤ 9223372036854775807) : HallC V aw ac kw kc ⟨wax, ws, cs⟩ := by
  obtain ⟨-, a, c, e, s1, w1⟩ := writs_own k.ow
  obtain ⟨rfl, -, rfl⟩ := Value.slice.inj e
  obtain ⟨-, a, c, e, s2, w2⟩ := custs_own k.oc
  obtain ⟨rfl, -, rfl⟩ := Value.slice.inj e
  exact ⟨s1, s2, w1, w2, h1, h2⟩
theorem kind_ne {base base' : Nat} {e f : TypeId} {s1 s2 n m : Nat} {v u : Value} {xs ys : List Value} (h1 : V.ownsRow base e s1 v n xs) (h2 : V.ownsRow base' f s2 u m ys) (hne : e ≠ f) {k : Nat} (hk : v.ownBlock = some k) : u.ownBlock ≠ some k := fun hu => by
  obtain ⟨c1, z1, e1⟩ := Lib.ownsRow_kind h1 k hk
  obtain ⟨c2, z2, e2⟩ := Lib.ownsRow_kind h2 k hu
  rw [e1] at e2
  injection e2 with e2
  injection e2 with _ e2 _
  exact hne e2
theorem kind_blk {base : Nat} {e f : TypeId} {s1 n b : Nat} {v : Value} {xs : List Value} {cells : Array Value} {z : Nat × Nat} (h1 : V.ownsRow base e s1 v n xs) (hb : V.heap[b]? = some (.cells cells f z)) (hne : e ≠ f) : v.ownBlock ≠ some b := fun hk => by
  obtain ⟨c1, z1, e1⟩ := Lib.ownsRow_kind h1 b hk
  rw [e1] at hb
  injection hb with hb
  injection hb with _ hb _
  exact hne hb
/-- A customer is put anew. -/
theorem CopyH.setC (k : CopyH base bl aw (some ⟨g, 0, none⟩) kw kc wax ws cs V) (i : Nat) (hi : i < cs.length) (x : DeC) :
    CopyH base bl aw (some ⟨g, 0, none⟩) kw kc wax ws (cs.set i x) (((((V.setCell ⟨g, i * 5, none⟩ (.string x.name)).setCell ⟨g, i * 5 + 1, none⟩ (.int .i64 x.kind)).setCell ⟨g, i * 5 + 2, none⟩ (.int .i64 x.lo)).setCell ⟨g, i * 5 + 3, none⟩ (.int .i64 x.hi)).setCell ⟨g, i * 5 + 4, none⟩ (.int .i64 x.ship)) := by
  have hbg : bl ≠ g := fun e => kind_blk k.oc k.blk (by decide) (show (Value.slice (some ⟨g, 0, none⟩) cs.length kc).ownBlock = some bl from by rw [e]; rfl)
  have hwg : (Value.slice aw ws.length kw).ownBlock ≠ some g := kind_ne k.oc k.ow (by decide) (show (Value.slice (some ⟨g, 0, none⟩) cs.length kc).ownBlock = some g from rfl)
  refine ⟨k.hb, ?_, ?_, ?_⟩
  · rw [List.length_set]
    exact (Below.heap_setCell _ _ _ _ hbg).trans ((Below.heap_setCell _ _ _ _ hbg).trans ((Below.heap_setCell _ _ _ _ hbg).trans ((Below.heap_setCell _ _ _ _ hbg).trans ((Below.heap_setCell _ _ _ _ hbg).trans k.blk))))
  · exact ownsRow_setCell_other (ownsRow_setCell_other (ownsRow_setCell_other (ownsRow_setCell_other (ownsRow_setCell_other k.ow hwg _) hwg _) hwg _) hwg _) hwg _
  · rw [List.length_set, ← custs_set cs i hi x]
    exact (((((k.oc.stored (i * 5) (.string x.name)).1.stored (i * 5 + 1) (.int .i64 x.kind)).1.stored (i * 5 + 2) (.int .i64 x.lo)).1.stored (i * 5 + 3) (.int .i64 x.hi)).1.stored (i * 5 + 4) (.int .i64 x.ship)).1
/-- A writer is put anew. -/
theorem CopyH.setW (k : CopyH base bl (some ⟨g, 0, none⟩) ac kw kc wax ws cs V) (i : Nat) (hi : i < ws.length) (x : DeW) :
    CopyH base bl (some ⟨g, 0, none⟩) ac kw kc wax (ws.set i x) cs ((((V.setCell ⟨g, i * 4, none⟩ (.string x.name)).setCell ⟨g, i * 4 + 1, none⟩ (.int .i64 x.kinds)).setCell ⟨g, i * 4 + 2, none⟩ (.int .i64 x.lo)).setCell ⟨g, i * 4 + 3, none⟩ (.int .i64 x.hi)) := by
  have hbg : bl ≠ g := fun e => kind_blk k.ow k.blk (by decide) (show (Value.slice (some ⟨g, 0, none⟩) ws.length kw).ownBlock = some bl from by rw [e]; rfl)
  have hwg : (Value.slice ac cs.length kc).ownBlock ≠ some g := kind_ne k.ow k.oc (by decide) (show (Value.slice (some ⟨g, 0, none⟩) ws.length kw).ownBlock = some g from rfl)
  refine ⟨k.hb, ?_, ?_, ?_⟩
  · rw [List.length_set]
    exact (Below.heap_setCell _ _ _ _ hbg).trans ((Below.heap_setCell _ _ _ _ hbg).trans ((Below.heap_setCell _ _ _ _ hbg).trans ((Below.heap_setCell _ _ _ _ hbg).trans k.blk)))
  · rw [List.length_set, ← writs_set ws i hi x]
    exact ((((k.ow.stored (i * 4) (.string x.name)).1.stored (i * 4 + 1) (.int .i64 x.kinds)).1.stored (i * 4 + 2) (.int .i64 x.lo)).1.stored (i * 4 + 3) (.int .i64 x.hi)).1
  · exact ownsRow_setCell_other (ownsRow_setCell_other (ownsRow_setCell_other (ownsRow_setCell_other k.oc hwg _) hwg _) hwg _) hwg _
/-- What a customer's cells hold, and that they are free. -/
theorem CopyH.cust (k : CopyH base bl aw (some ⟨g, 0, none⟩) kw kc wax ws cs V) (i : Nat) (hi : i < cs.length) :
    V.cell? ⟨g, i * 5, none⟩ = some (.string cs[i].name) ∧ V.cell? ⟨g, i * 5 + 1, none⟩ = some (.int .i64 cs[i].kind) ∧ V.cell? ⟨g, i * 5 + 2, none⟩ = some (.int .i64 cs[i].lo) ∧ V.cell? ⟨g, i * 5 + 3, none⟩ = some (.int .i64 cs[i].hi) ∧ V.cell? ⟨g, i * 5 + 4, none⟩ = some (.int .i64 cs[i].ship) ∧ (∀ j, V.frozen? ⟨g, j, none⟩ = false) ∧ g < V.heap.size ∧ cs.length ≤ kc ∧ base ≤ g := by
  have hG := fun (r : Nat) (hr : r < 5) => flatC_get custCells_len cs i hi r hr
  have hcl : ∀ (r : Nat) (u : Value), (flatC custCells cs)[i * 5 + r]? = some u → V.cell? ⟨g, i * 5 + r, none⟩ = some u := fun r u hu => by
    have := k.oc.cells (g := g) rfl (i * 5 + r) u hu
    simpa [Addr.add_lit] using this
  obtain ⟨-, a, c, e, s2, -⟩ := custs_own k.oc
  obtain ⟨rfl, -, rfl⟩ := Value.slice.inj e
  exact ⟨hcl 0 _ (hG 0 (by omega)), hcl 1 _ (hG 1 (by omega)), hcl 2 _ (hG 2 (by omega)), hcl 3 _ (hG 3 (by omega)), hcl 4 _ (hG 4 (by omega)), fun j => k.oc.frozenAt j, (k.oc.lt g rfl).2, s2.1, (k.oc.lt g rfl).1⟩
theorem CopyH.writ (k : CopyH base bl (some ⟨g, 0, none⟩) ac kw kc wax ws cs V) (i : Nat) (hi : i < ws.length) :
    V.cell? ⟨g, i * 4, none⟩ = some (.string ws[i].name) ∧ V.cell? ⟨g, i * 4 + 1, none⟩ = some (.int .i64 ws[i].kinds) ∧ V.cell? ⟨g, i * 4 + 2, none⟩ = some (.int .i64 ws[i].lo) ∧ V.cell? ⟨g, i * 4 + 3, none⟩ = some (.int .i64 ws[i].hi) ∧ (∀ j, V.frozen? ⟨g, j, none⟩ = false) ∧ g < V.heap.size ∧ ws.length ≤ kw ∧ base ≤ g := by
  have hG := fun (r : Nat) (hr : r < 4) => flatC_get writCells_len ws i hi r hr
  have hcl : ∀ (r : Nat) (u : Value), (flatC writCells ws)[i * 4 + r]? = some u → V.cell? ⟨g, i * 4 + r, none⟩ = some u := fun r u hu => by
    have := k.ow.cells (g := g) rfl (i * 4 + r) u hu
    simpa [Addr.add_lit] using this
  obtain ⟨-, a, c, e, s2, -⟩ := writs_own k.ow
  obtain ⟨rfl, -, rfl⟩ := Value.slice.inj e
  exact ⟨hcl 0 _ (hG 0 (by omega)), hcl 1 _ (hG 1 (by omega)), hcl 2 _ (hG 2 (by omega)), hcl 3 _ (hG 3 (by omega)), fun j => k.ow.frozenAt j, (k.ow.lt g rfl).2, s2.1, (k.ow.lt g rfl).1⟩
theorem set_modify_c (l : List DeC) (i : Nat) (hi : i < l.length) (f : DeC → DeC) : l.set i (f l[i]) = l.modify i f := by
  apply List.ext_getElem
  · simp
  · intro j h1 h2
    rw [List.getElem_set, List.getElem_modify]
    by_cases e : i = j <;> simp [e]
theorem set_modify_w (l : List DeW) (i : Nat) (hi : i < l.length) (f : DeW → DeW) : l.set i (f l[i]) = l.modify i f := by
  apply List.ext_getElem
  · simp
  · intro j h1 h2
    rw [List.getElem_set, List.getElem_modify]
    by_cases e : i = j <;> simp [e]
theorem names_c {l : List DeC} {f : DeC → DeC} (i : Nat) (hf : ∀ x, (f x).name = x.name) (h : ∀ x ∈ l, x.name.size ≤ 9223372036854775807) : ∀ x ∈ l.modify i f, x.name.size ≤ 9223372036854775807 := fun x hx => by
  obtain ⟨j, hj, rfl⟩ := List.getElem_of_mem hx
  rw [List.getElem_modify]
  have hj2 : j < l.length := by simpa using hj
  split
  · rw [hf]; exact h _ (List.getElem_mem hj2)
  · exact h _ (List.getElem_mem hj2)
theorem names_w {l : List DeW} {f : DeW → DeW} (i : Nat) (hf : ∀ x, (f x).name = x.name) (h : ∀ x ∈ l, x.name.size ≤ 9223372036854775807) : ∀ x ∈ l.modify i f, x.name.size ≤ 9223372036854775807 := fun x hx => by
  obtain ⟨j, hj, rfl⟩ := List.getElem_of_mem hx
  rw [List.getElem_modify]
  have hj2 : j < l.length := by simpa using hj
  split
  · rw [hf]; exact h _ (List.getElem_mem hj2)
  · exact h _ (List.getElem_mem hj2)
end Go.Proofs.Ytchnpekgmkhacaa
