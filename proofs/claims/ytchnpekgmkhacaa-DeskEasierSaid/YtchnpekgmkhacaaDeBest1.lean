/- What is proved here: what the search for Best's plan lays in memory, and how it stays; plain facts on it. No condition. -/
import Derived.Test.YtchnpekgmkhacaaDeOver2
import Derived.Test.YtchnpekgmkhacaaDeEnter
import Derived.Stop.RegionWithIn
import Derived.Lib.OwnKind
set_option linter.unusedVariables false
set_option linter.unusedSimpArgs false
namespace Go.Proofs.Ytchnpekgmkhacaa
open Go Go.RowKit Go.Shelf

theorem find_congr {α : Type} {p q : α → Bool} : ∀ (l : List α), (∀ x ∈ l, p x = q x) → l.find? p = l.find? q
  | [], _ => rfl
  | x :: l, h => by
    rw [List.find?_cons, List.find?_cons, h x (by simp), find_congr l fun y hy => h y (List.mem_cons_of_mem _ hy)]
theorem find_fuel {h : DeH} {wm cm : Nat} {over : Int} : ∀ (f g : Nat) (x : DeSt), x.writer ≤ h.writers.length → leftD h x ≤ f → leftD h x ≤ g → findF h wm cm over f x = findF h wm cm over g x
  | 0, 0, _, _, _, _ => rfl
  | 0, g + 1, x, hx, hf, _ => by
    have hw : x.writer = h.writers.length := by unfold leftD at hf; omega
    have hn : nextD h wm cm x = [] := by unfold nextD; rw [if_pos hw]
    rw [findF, findF, hn]; rfl
  | f + 1, 0, x, hx, _, hg => by
    have hw : x.writer = h.writers.length := by unfold leftD at hg; omega
    have hn : nextD h wm cm x = [] := by unfold nextD; rw [if_pos hw]
    rw [findF, findF, hn]; rfl
  | f + 1, g + 1, x, hx, hf, hg => by
    rw [findF, findF]
    have e : (nextD h wm cm x).find? (fun y => overF h wm cm f y.2 == over) = (nextD h wm cm x).find? (fun y => overF h wm cm g y.2 == over) := find_congr _ fun y hy => by
      have := next_left hx hy
      rw [over_fuel (f := f) (g := g) this.2 (by omega) (by omega)]
    rw [e]
    cases hn : (nextD h wm cm x).find? (fun y => overF h wm cm g y.2 == over) with
    | none => rfl
    | some y =>
      have hy := List.mem_of_find?_eq_some hn
      have := next_left hx hy
      show y.1 :: _ = y.1 :: _
      rw [find_fuel f g y.2 this.2 (by omega) (by omega)]
def fD (h : DeH) (wm cm : Nat) (over : Int) (x : DeSt) : List Int := findF h wm cm over (leftD h x) x
theorem fD_eq {h : DeH} {wm cm : Nat} {over : Int} {x : DeSt} (hx : x.writer ≤ h.writers.length) : fD h wm cm over x = match (nextD h wm cm x).find? (fun y => ovD h wm cm y.2 == over) with | some y => y.1 :: fD h wm cm over y.2 | none => [] := by
  unfold fD
  cases e : leftD h x with
  | zero =>
    have hw : x.writer = h.writers.length := by unfold leftD at e; omega
    have hn : nextD h wm cm x = [] := by unfold nextD; rw [if_pos hw]
    rw [hn]; rfl
  | succ f =>
    rw [findF]
    have e2 : (nextD h wm cm x).find? (fun y => overF h wm cm f y.2 == over) = (nextD h wm cm x).find? (fun y => ovD h wm cm y.2 == over) := find_congr _ fun y hy => by
      have := next_left hx hy
      unfold ovD
      rw [over_fuel (f := f) (g := leftD h y.2) this.2 (by omega) (Nat.le_refl _)]
    rw [e2]
    cases hn : (nextD h wm cm x).find? (fun y => ovD h wm cm y.2 == over) with
    | none => rfl
    | some y =>
      have hy := List.mem_of_find?_eq_some hn
      have := next_left hx hy
      show y.1 :: _ = y.1 :: _
      rw [find_fuel f (leftD h y.2) y.2 this.2 (by omega) (Nat.le_refl _)]
theorem fD_some {h : DeH} {wm cm : Nat} {over : Int} {x : DeSt} (hx : x.writer ≤ h.writers.length) {pre : List (Int × DeSt)} {y : Int × DeSt} (hp : pre ++ [y] <+: nextD h wm cm x) (hn : ∀ z ∈ pre, ovD h wm cm z.2 ≠ over) (ho : ovD h wm cm y.2 = over) : fD h wm cm over x = y.1 :: fD h wm cm over y.2 := by
  rw [fD_eq hx]
  obtain ⟨t, ht⟩ := hp
  have e : (nextD h wm cm x).find? (fun y => ovD h wm cm y.2 == over) = some y := by
    rw [← ht, List.append_assoc, List.find?_append, List.find?_eq_none.2 (fun z hz => by simpa using hn z hz)]
    simp [ho]
  rw [e]
theorem fD_none {h : DeH} {wm cm : Nat} {over : Int} {x : DeSt} (hx : x.writer ≤ h.writers.length) (hn : ∀ z ∈ nextD h wm cm x, ovD h wm cm z.2 ≠ over) : fD h wm cm over x = [] := by
  rw [fD_eq hx, List.find?_eq_none.2 (fun z hz => by simpa using hn z hz)]
theorem fD_len {h : DeH} {wm cm : Nat} {over : Int} : ∀ (n : Nat) (x : DeSt), x.writer ≤ h.writers.length → leftD h x ≤ n → (fD h wm cm over x).length ≤ leftD h x
  | n, x, hx, hl => by
    rw [fD_eq hx]
    cases hn : (nextD h wm cm x).find? (fun y => ovD h wm cm y.2 == over) with
    | none => simp
    | some y =>
      have hy := List.mem_of_find?_eq_some hn
      have h1 := next_left hx hy
      cases n with
      | zero => omega
      | succ n =>
        have := fD_len (h := h) (wm := wm) (cm := cm) (over := over) n y.2 h1.2 (by omega)
        show (fD h wm cm over y.2).length + 1 ≤ _
        omega

/-- The blocks of the search. -/
structure FiB where
  cb : Nat
  op : Nat
  bm : Nat
  bo : Nat
  hp : Nat
  ap : Nat
  fp : Nat
def FiB.caps (B : FiB) : Array Value := #[.pointer (some ⟨B.cb, 0, none⟩), .pointer (some ⟨B.hp, 0, none⟩), .pointer (some ⟨B.op, 0, none⟩), .pointer (some ⟨B.ap, 0, none⟩), .pointer (some ⟨B.fp, 0, none⟩)]
def FiB.ok (B : FiB) (b0 base : Nat) : Prop := b0 ≤ B.cb ∧ b0 ≤ B.op ∧ b0 ≤ B.bm ∧ b0 ≤ B.bo ∧ B.cb < B.hp ∧ B.op < B.hp ∧ B.bm < B.hp ∧ B.bo < B.hp ∧ B.hp < B.ap ∧ B.ap < B.fp ∧ B.fp < base
structure FindI (w0 W : World) (B : FiB) (base : Nat) (aw ac : Option Addr) (kw kc : Nat) (h : DeH) (over : Int) (v : Value) (L : List Int) : Prop where
  ord : B.ok w0.heap.size base
  below : Below w0.heap.size w0 W
  map : ∃ T, MapV W Try.prog 105 B.bo T ∧ MemoD h (fullW h) (fullC h) T
  blk : HBlk W B.bm B.bo aw ac kw kc h (fullW h) (fullC h)
  c : W.heap[B.cb]? = some (.cells #[.int .i64 h.wax, .slice aw h.writers.length kw, .slice ac h.customers.length kc] 25 (0, 0))
  hc : W.heap[B.hp]? = some (.cells #[.pointer (some ⟨B.bm, 0, none⟩)] 94 (0, 0))
  oc : W.heap[B.op]? = some (.cells #[.int .i64 over] 3 (0, 0))
  ac : W.heap[B.ap]? = some (.cells #[v] 42 (0, 0))
  fc : W.heap[B.fp]? = some (.cells #[.func (.func 76) #[] B.caps] 101 (0, 0))
  own : W.ownsRow base 3 1 v L.length (L.map (Value.int .i64))
section
variable {w0 W W' : World} {B : FiB} {base : Nat} {aw ac : Option Addr} {kw kc : Nat} {h : DeH} {over : Int} {v : Value} {L : List Int}
theorem FindI.hall (k : FindI w0 W B base aw ac kw kc h over v L) (hm : HallC w0 aw ac kw kc h) : HallW W B.bm B.bo aw ac kw kc h (fullW h) (fullC h) := ⟨hm.mono k.below, k.blk, k.map⟩
theorem FindI.base_le (k : FindI w0 W B base aw ac kw kc h over v L) : B.fp < W.heap.size := lt_of_block k.fc
/-- What is turned are blocks of no cells and no map of the search. -/
theorem FindI.turn (k : FindI w0 W B base aw ac kw kc h over v L) (hb : Below w0.heap.size w0 W') (hz : W.heap.size ≤ W'.heap.size) (he : ∀ b, b < W.heap.size → b < base ∨ v.ownBlock = some b → W'.heap[b]? = W.heap[b]?) : FindI w0 W' B base aw ac kw kc h over v L := by
  have ho := k.ord
  unfold FiB.ok at ho
  have hl := k.base_le
  obtain ⟨T, hT, hM⟩ := k.map
  refine ⟨k.ord, hb, ⟨T, hT.same (he _ hT.lt (.inl (by omega))), hM⟩, k.blk.same (he _ (lt_of_block k.blk) (.inl (by omega))), (he _ (lt_of_block k.c) (.inl (by omega))).trans k.c, (he _ (lt_of_block k.hc) (.inl (by omega))).trans k.hc, (he _ (lt_of_block k.oc) (.inl (by omega))).trans k.oc, (he _ (lt_of_block k.ac) (.inl (by omega))).trans k.ac, (he _ hl (.inl (by omega))).trans k.fc, ?_⟩
  refine ⟨k.own.1, ?_⟩
  rcases k.own.2 with e | ⟨g, cap, cur, e1, e2, e3, e4⟩
  · exact .inl e
  · subst e1
    exact .inr ⟨g, cap, cur, rfl, e2, (he g (Array.getElem?_eq_some_iff.1 e3).1 (.inr rfl)).trans e3, e4⟩
theorem FindI.grow (k : FindI w0 W B base aw ac kw kc h over v L) (hb : Below W.heap.size W W') : FindI w0 W' B base aw ac kw kc h over v L :=
  k.turn (k.below.trans (hb.mono k.below.size)) hb.size fun b hlt _ => hb.block b hlt
theorem FindI.belowB (k : FindI w0 W B base aw ac kw kc h over v L) {C : Nat} (hb : Below C W W') (hC : base ≤ C) (hv : ∀ b, v.ownBlock = some b → b < C) : FindI w0 W' B base aw ac kw kc h over v L := by
  have ho := k.ord
  unfold FiB.ok at ho
  exact k.turn (k.below.trans (hb.mono (by omega))) hb.size fun b hlt e => hb.block b (e.elim (fun e => by omega) (fun e => hv b e))
theorem FindI.step (k : FindI w0 W B base aw ac kw kc h over v L) (hm : HallC w0 aw ac kw kc h) (hg : W.grownBy W' (some B.bo)) (hR : HallW W' B.bm B.bo aw ac kw kc h (fullW h) (fullC h)) : FindI w0 W' B base aw ac kw kc h over v L := by
  have ho := k.ord
  unfold FiB.ok at ho
  have hW := k.hall hm
  have hb : Below w0.heap.size w0 W' := k.below.grown hg k.below.size (fun j e => by have := Option.some.inj e; omega)
  refine ⟨k.ord, hb, hR.map, hR.blk, grown_keep hg k.c (hW.other k.c), grown_keep hg k.hc (hW.other k.hc), grown_keep hg k.oc (hW.other k.oc), grown_keep hg k.ac (hW.other k.ac), grown_keep hg k.fc (hW.other k.fc), ?_⟩
  refine ⟨k.own.1, ?_⟩
  rcases k.own.2 with e | ⟨g, cap, cur, e1, e2, e3, e4⟩
  · exact .inl e
  · exact .inr ⟨g, cap, cur, e1, e2, grown_keep hg e3 (hW.other e3), e4⟩
theorem FindI.put (k : FindI w0 W B base aw ac kw kc h over v L) {l : Nat} {o : Obj} (hl : ∀ cs t x, W.heap[l]? ≠ some (.cells cs t x)) (hl2 : ∀ es c, W.heap[l]? ≠ some (.map es c)) (h0 : w0.heap.size ≤ l) : FindI w0 (W.putObj l o) B base aw ac kw kc h over v L := by
  have key : ∀ {b : Nat} {cs : Array Value} {t : TypeId} {x : Nat × Nat}, W.heap[b]? = some (.cells cs t x) → (W.putObj l o).heap[b]? = some (.cells cs t x) := fun {b cs t x} hb => (World.putObj_heap_other (fun e => hl cs t x (by rw [← e]; exact hb))).trans hb
  obtain ⟨T, hT, hM⟩ := k.map
  have hbo : B.bo ≠ l := fun e => by
    obtain ⟨es, c, hb, _⟩ := hT
    exact hl2 es c (by rw [← e]; exact hb)
  refine ⟨k.ord, k.below.trans (below_put W _ l o h0), ⟨T, hT.same (World.putObj_heap_other hbo), hM⟩, ?_, key k.c, key k.hc, key k.oc, key k.ac, key k.fc, ?_⟩
  · exact key k.blk
  · refine ⟨k.own.1, ?_⟩
    rcases k.own.2 with e | ⟨g, cap, cur, e1, e2, e3, e4⟩
    · exact .inl e
    · exact .inr ⟨g, cap, cur, e1, e2, key e3, e4⟩
/-- What the search leaves of other memory: all above its cells but the plan's own row. -/
def FindFr (base : Nat) (v : Value) (W W' : World) : Prop := W.heap.size ≤ W'.heap.size ∧ W'.os = W.os ∧ W'.tape = W.tape ∧ W'.output = W.output ∧ ∀ b, base ≤ b → b < W.heap.size → v.ownBlock ≠ some b → W'.heap[b]? = W.heap[b]?
theorem FindFr.refl (base : Nat) (v : Value) (W : World) : FindFr base v W W := ⟨Nat.le_refl _, rfl, rfl, rfl, fun _ _ _ _ => rfl⟩
theorem FindFr.of_below {base : Nat} {v : Value} {A C : World} (h : Below A.heap.size A C) : FindFr base v A C := ⟨h.size, h.os, h.tape, h.output, fun b _ h2 _ => h.block b h2⟩
theorem FindFr.of_grown {base bo : Nat} {v : Value} {A C : World} (h : A.grownBy C (some bo)) (hb : bo < base) : FindFr base v A C := ⟨h.size, h.os, h.tape, h.output, fun b h1 h2 _ => h.block b h2 (fun e => by have := Option.some.inj e; omega)⟩
theorem FindFr.of_row {base : Nat} {v : Value} {A C : World} (h : A.grownBy C v.ownBlock) : FindFr base v A C := ⟨h.size, h.os, h.tape, h.output, fun b h1 h2 h3 => h.block b h2 (fun e => h3 e.symm)⟩
theorem FindFr.of_set {base : Nat} {v : Value} {A C : World} {a : Addr} {u : Value} (h : a.block < base) (hC : C = A.setCell a u) : FindFr base v A C := by
  subst hC
  have hb := below_set A a.block a.block a.off u (Nat.le_refl _)
  exact ⟨by simp, hb.os, hb.tape, hb.output, fun b h1 h2 h3 => Below.heap_setCell _ _ _ _ (by omega)⟩
theorem FindFr.trans {base : Nat} {v u : Value} {A C D : World} (h : FindFr base v A C) (k : FindFr base u C D) (hu : u.ownBlock = v.ownBlock ∨ ∀ b, u.ownBlock = some b → A.heap.size ≤ b) : FindFr base v A D :=
  ⟨Nat.le_trans h.1 k.1, k.2.1.trans h.2.1, k.2.2.1.trans h.2.2.1, k.2.2.2.1.trans h.2.2.2.1, fun b h1 h2 h3 => (k.2.2.2.2 b h1 (Nat.lt_of_lt_of_le h2 h.1) (fun e => by
    rcases hu with hu | hu
    · exact h3 (hu ▸ e)
    · have := hu b e; omega)).trans (h.2.2.2.2 b h1 h2 h3)⟩
theorem FindFr.keep {base : Nat} {v : Value} {A C : World} (h : FindFr base v A C) {b : Nat} (hb : base ≤ b) (hv : v.ownBlock ≠ some b) {o : Obj} (e : A.heap[b]? = some o) : C.heap[b]? = some o :=
  (h.2.2.2.2 b hb (Array.getElem?_eq_some_iff.1 e).1 hv).trans e
theorem FindFr.below {base C : Nat} {v : Value} {W A A' : World} (h : FindFr base v W A) (k : Below C A A') (hC : W.heap.size ≤ C) : FindFr base v W A' :=
  ⟨Nat.le_trans h.1 k.size, k.os.trans h.2.1, k.tape.trans h.2.2.1, k.output.trans h.2.2.2.1, fun b h1 h2 h3 => (k.block _ (by omega)).trans (h.2.2.2.2 b h1 h2 h3)⟩
theorem FindFr.put {base l : Nat} {v : Value} {W A : World} {o : Obj} (h : FindFr base v W A) (hl : W.heap.size ≤ l) : FindFr base v W (A.putObj l o) :=
  h.below (below_put A W.heap.size l o hl) (Nat.le_refl _)
theorem FindFr.above {base C : Nat} {v : Value} {A D : World} (h : FindFr base v A D) (hb : base ≤ C) (hv : ∀ b, v.ownBlock = some b → b < C) : Above C A D :=
  ⟨h.2.1, h.2.2.1, h.2.2.2.1, h.1, fun b h1 h2 => h.2.2.2.2 b (by omega) h2 (fun e => by have := hv b e; omega)⟩
theorem FindI.set (k : FindI w0 W B base aw ac kw kc h over v L) {c : Nat} {cs : Array Value} {t : TypeId} {z : Nat × Nat} (hc : base ≤ c) (hcell : W.heap[c]? = some (.cells cs t z)) (ht : t ≠ 3) (u : Value) : FindI w0 (W.setCell ⟨c, 0, none⟩ u) B base aw ac kw kc h over v L := by
  have ho := k.ord
  unfold FiB.ok at ho
  refine k.turn (k.below.setCell (by show w0.heap.size ≤ c; omega) _) (by simp) (fun b _ e => Below.heap_setCell _ _ _ _ (fun e2 => ?_))
  have e2 : b = c := e2
  subst e2
  rcases e with e | e
  · omega
  · obtain ⟨c2, fz, e3⟩ := Lib.ownsRow_kind k.own b e
    rw [hcell] at e3
    injection e3 with e3
    injection e3 with _ e4 _
    exact ht e4
/-- One letter more stands at the plan's end. -/
theorem FindI.app {A C : World} {v' : Value} {e : Int} {o : Obj} (k : FindI w0 W B base aw ac kw kc h over v L) (hA : A = W.alloc o) (hn : C.ownsRow base 3 1 v' (L.length + 1) (L.map (Value.int .i64) ++ [.int .i64 e])) (hg : A.grownBy C v.ownBlock) : FindI w0 (C.setCell ⟨B.ap, 0, none⟩ v') B base aw ac kw kc h over v' (L ++ [e]) := by
  have ho := k.ord
  unfold FiB.ok at ho
  have hl := k.base_le
  have hAb : Below W.heap.size W A := by rw [hA]; exact (Below.refl _ _).alloc (Nat.le_refl _) _
  have hAs := hAb.size
  have hvl : ∀ b, v.ownBlock = some b → base ≤ b := fun b e => (k.own.lt b e).1
  have hC : ∀ b, b < W.heap.size → b < base → C.heap[b]? = W.heap[b]? := fun b h1 h2 => (hg.block b (by omega) (fun e => by have := hvl b e.symm; omega)).trans (hAb.block b h1)
  have hD : ∀ b, b < W.heap.size → b < base → b ≠ B.ap → (C.setCell ⟨B.ap, 0, none⟩ v').heap[b]? = W.heap[b]? := fun b h1 h2 h3 => (Below.heap_setCell _ _ _ _ h3).trans (hC b h1 h2)
  have hCa : C.heap[B.ap]? = some (.cells #[v] 42 (0, 0)) := (hC _ (by omega) (by omega)).trans k.ac
  obtain ⟨T, hT, hM⟩ := k.map
  have hb1 : Below w0.heap.size w0 C := (k.below.trans (hAb.mono (k.below.size))).grown hg (by have := k.below.size; omega) (fun j e => by have := hvl j e; omega)
  have hb2 : Below w0.heap.size w0 (C.setCell ⟨B.ap, 0, none⟩ v') := hb1.setCell (by show w0.heap.size ≤ B.ap; omega) _
  refine ⟨k.ord, hb2, ⟨T, hT.same (hD _ hT.lt (by omega) (by omega)), hM⟩, k.blk.same (hD _ (lt_of_block k.blk) (by omega) (by omega)), (hD _ (lt_of_block k.c) (by omega) (by omega)).trans k.c, (hD _ (lt_of_block k.hc) (by omega) (by omega)).trans k.hc, (hD _ (lt_of_block k.oc) (by omega) (by omega)).trans k.oc, blk_set 0 _ hCa, (hD _ hl (by omega) (by omega)).trans k.fc, ?_⟩
  rw [List.length_append, List.map_append]
  exact ownsRow_setCell_other hn (fun e => by have := (hn.lt _ e).1; simp only at this; omega) _
end
end Go.Proofs.Ytchnpekgmkhacaa
