/- What is proved here: how plans lie in memory: slices of slices of slices of ints, the blocks by their types; a growing slice of plans. No condition. -/
/- What is proved here: the contract of the reference's Plans of layer 9. Condition: the hall lies in memory and is valid. -/
/- What is proved here: the contract of the reference's Some of layer 9. Condition: the hall lies in memory and is valid. -/
/- What is proved here: the contract of the reference's Before of layer 9, and of Rows of layer 1. Conditions: the plans lie in memory, as many lists each (Before). -/
/- What is proved here: the contract of the reference's Best of layer 9. Condition: the hall lies in memory. -/
import Derived.Test.YtchnpekgmkhacaaDrGA
import Derived.Test.YtchnpekgmkhacaaDeBest4
import Derived.Test.YtchnpekgmkhacaaRef1C
import Derived.Test.YtchnpekgmkhacaaFlatG
set_option linter.unusedVariables false
set_option linter.unusedSimpArgs false
namespace Go.Proofs.Ytchnpekgmkhacaa
open Go Go.RowKit Go.Shelf

def IntsT (w : World) (a : Option Addr) (l : List Int) : Prop :=
  ∀ i (_ : i < l.length), ∃ b off, a = some ⟨b, off, none⟩ ∧ (∃ cs z, w.heap[b]? = some (.cells cs 3 z)) ∧ w.cell? ⟨b, off + i, none⟩ = some (.int .i64 l[i])
def RowT (w : World) (v : Value) (l : List Int) : Prop := ∃ a c, v = .slice a l.length c ∧ SlOk a l.length c ∧ IntsT w a l
def PlanT (w : World) (a : Option Addr) (vs : List Value) (L : List (List Int)) : Prop :=
  vs.length = L.length ∧ (∀ i (_ : i < vs.length), ∃ b off, a = some ⟨b, off, none⟩ ∧ (∃ cs z, w.heap[b]? = some (.cells cs 42 z)) ∧ w.cell? ⟨b, off + i, none⟩ = some vs[i]) ∧ ∀ i (h1 : i < vs.length) (h2 : i < L.length), RowT w vs[i] L[i]
def PlanV (w : World) (v : Value) (L : List (List Int)) : Prop := ∃ a c vs, v = .slice a L.length c ∧ SlOk a L.length c ∧ PlanT w a vs L
def PlansC (w : World) (a : Option Addr) (LL : List (List (List Int))) : Prop :=
  ∀ i (_ : i < LL.length), ∃ b off v, a = some ⟨b, off, none⟩ ∧ b < w.heap.size ∧ w.cell? ⟨b, off + i, none⟩ = some v ∧ PlanV w v LL[i]
/-- Blocks of cells that are no plans' stay. -/
def SameT (w W : World) : Prop := ∀ (b : Nat) (cs : Array Value) (t : TypeId) (z : Nat × Nat), w.heap[b]? = some (.cells cs t z) → t ≠ 26 → W.heap[b]? = some (.cells cs t z)
theorem SameT.of_below {w W : World} (h : Below w.heap.size w W) : SameT w W := fun b cs t z e _ => (h.block b (lt_of_block e)).trans e
theorem SameT.trans {w W V : World} (h : SameT w W) (k : SameT W V) : SameT w V := fun b cs t z e ht => k b cs t z (h b cs t z e ht) ht
theorem SameT.of_row {w W : World} {base size n : Nat} {v : Value} {xs : List Value} (ho : w.ownsRow base 26 size v n xs) (hg : w.grownBy W v.ownBlock) : SameT w W := fun b cs t z e ht =>
  (hg.block b (lt_of_block e) (fun e2 => by
    obtain ⟨c, fz, e3⟩ := Lib.ownsRow_kind ho b e2.symm
    rw [e] at e3
    injection e3 with e3
    injection e3 with _ e4 _
    exact ht e4)).trans e
theorem IntsT.same {w W : World} {a : Option Addr} {l : List Int} (h : IntsT w a l) (k : SameT w W) : IntsT W a l := fun i hi => by
  obtain ⟨b, off, e, ⟨cs, z, hb⟩, hc⟩ := h i hi
  have hb2 := k b cs _ z hb (by decide)
  exact ⟨b, off, e, ⟨cs, z, hb2⟩, (World.cell?_of_block (a := ⟨b, off + i, none⟩) (hb2.trans hb.symm)).trans hc⟩
theorem IntsT.ints {w : World} {a : Option Addr} {l : List Int} (h : IntsT w a l) : IntsC w a l := fun i hi => by
  obtain ⟨b, off, e, ⟨cs, z, hb⟩, hc⟩ := h i hi
  exact ⟨b, off, e, lt_of_block hb, hc⟩
theorem RowT.same {w W : World} {v : Value} {l : List Int} (h : RowT w v l) (k : SameT w W) : RowT W v l := by
  obtain ⟨a, c, e, h1, h2⟩ := h; exact ⟨a, c, e, h1, h2.same k⟩
theorem PlanV.same {w W : World} {v : Value} {L : List (List Int)} (h : PlanV w v L) (k : SameT w W) : PlanV W v L := by
  obtain ⟨a, c, vs, e, h1, h2, h3, h4⟩ := h
  refine ⟨a, c, vs, e, h1, h2, fun i hi => ?_, fun i h1 h2 => (h4 i h1 h2).same k⟩
  obtain ⟨b, off, e, ⟨cs, z, hb⟩, hc⟩ := h3 i hi
  have hb2 := k b cs _ z hb (by decide)
  exact ⟨b, off, e, ⟨cs, z, hb2⟩, (World.cell?_of_block (a := ⟨b, off + i, none⟩) (hb2.trans hb.symm)).trans hc⟩
theorem PlanV.rows {w : World} {v : Value} {L : List (List Int)} (h : PlanV w v L) : RowsV w v L := by
  obtain ⟨a, c, vs, e, h1, h2, h3, h4⟩ := h
  refine ⟨a, c, e, h1, fun i hi => ?_⟩
  obtain ⟨b, off, e, ⟨cs, z, hb⟩, hc⟩ := h3 i (by omega)
  obtain ⟨a', c', e2, h5, h6⟩ := h4 i (by omega) hi
  exact ⟨b, off, a', c', e, lt_of_block hb, by rw [hc, e2], h5, h6.ints⟩
theorem PlansC.mono {w W : World} {a : Option Addr} {LL : List (List (List Int))} (h : PlansC w a LL) (hb : Below w.heap.size w W) : PlansC W a LL := fun i hi => by
  obtain ⟨b, off, v, e, hlt, hc, hp⟩ := h i hi
  exact ⟨b, off, v, e, Nat.lt_of_lt_of_le hlt hb.size, cell_below hb hc, hp.same (.of_below hb)⟩
theorem RowT.of_own {w : World} {base n : Nat} {v : Value} {l : List Int} (h : w.ownsRow base 3 1 v n (l.map (Value.int .i64))) : RowT w v l := by
  obtain ⟨a, c, e, h1, h2⟩ := IntsV.of_own h
  refine ⟨a, c, e, h1, fun i hi => ?_⟩
  obtain ⟨b, off, e2, hlt, hc⟩ := h2 i hi
  have hob : v.ownBlock = some b := by
    rcases h.2 with ⟨h9, _⟩ | ⟨g, cap, cur, h9, _⟩
    · rw [e, e2] at h9; cases h9
    · rw [e, e2] at h9; injection h9 with h9 _ _; injection h9 with h9; injection h9 with h9 h10 _; rw [e, e2, h9, h10]; rfl
  obtain ⟨cs, z, hb⟩ := Lib.ownsRow_kind h b hob
  exact ⟨b, off, e2, ⟨cs, z, hb⟩, hc⟩
theorem RowT.nil (w : World) : RowT w (.slice none 0 0) [] := ⟨none, 0, rfl, ⟨by simp, by omega, fun _ => rfl⟩, fun i hi => absurd hi (Nat.not_lt_zero i)⟩
/-- A growing slice of plans: the call's own. -/
def OwnP (w : World) (base : Nat) (v : Value) (LL : List (List (List Int))) : Prop :=
  ∃ vs : List Value, w.ownsRow base 26 1 v LL.length vs ∧ vs.length = LL.length ∧ ∀ i (h1 : i < vs.length) (h2 : i < LL.length), PlanV w vs[i] LL[i]
theorem OwnP.nil (w : World) (base : Nat) : OwnP w base (.slice none 0 0) [] := ⟨[], World.ownsRow_nil _ _ _ _, rfl, fun i hi => absurd hi (Nat.not_lt_zero i)⟩
theorem OwnP.push {w w1 w2 : World} {base : Nat} {v v' u : Value} {vs : List Value} {LL : List (List (List Int))} {p : List (List Int)} {o : Obj}
    (ho : w.ownsRow base 26 1 v LL.length vs) (hl : vs.length = LL.length) (hp : ∀ i (h1 : i < vs.length) (h2 : i < LL.length), PlanV w vs[i] LL[i])
    (hb : Below w.heap.size w w1) (hu : PlanV w1 u p) (hn : w2.ownsRow base 26 1 v' (LL.length + 1) (vs ++ [u])) (hg : (w1.alloc o).grownBy w2 v.ownBlock) : OwnP w2 base v' (LL ++ [p]) := by
  have hs1 : SameT w1 w2 := (SameT.of_below ((Below.refl _ _).alloc (Nat.le_refl _) o)).trans (.of_row ((own_below ho hb).alloc o) hg)
  have hs0 : SameT w w2 := (SameT.of_below hb).trans hs1
  refine ⟨vs ++ [u], by rw [List.length_append]; exact hn, by simp [hl], fun i h1 h2 => ?_⟩
  by_cases h : i < vs.length
  · rw [List.getElem_append_left h, List.getElem_append_left (by omega)]
    exact (hp i h (by omega)).same hs0
  · have e : i = vs.length := by simp at h1; omega
    subst e
    simp only [List.getElem_append_right (Nat.le_refl _), Nat.sub_self, List.getElem_cons_zero]
    have e2 : (LL ++ [p])[vs.length] = p := by simp [hl]
    rw [e2]
    exact hu.same hs1
theorem OwnP.keep {w W : World} {base : Nat} {v : Value} {LL : List (List (List Int))} (h : OwnP w base v LL) (hb : Below w.heap.size w W) : OwnP W base v LL := by
  obtain ⟨vs, h1, h2, h3⟩ := h
  exact ⟨vs, own_below h1 hb, h2, fun i h4 h5 => (h3 i h4 h5).same (.of_below hb)⟩
theorem OwnP.plans {w : World} {base : Nat} {v : Value} {LL : List (List (List Int))} (h : OwnP w base v LL) : ∃ a c, v = .slice a LL.length c ∧ SlOk a LL.length c ∧ PlansC w a LL := by
  obtain ⟨vs, h1, h2, h3⟩ := h
  have hm : maxLen = 9223372036854775807 := rfl
  rcases h1.2 with ⟨rfl, h0⟩ | ⟨g, cap, cur, rfl, _, hg, h4, h5, h6, h7⟩
  · refine ⟨none, 0, by rw [h0], ⟨by omega, by omega, fun _ => rfl⟩, fun i hi => absurd hi (by omega)⟩
  · refine ⟨some ⟨g, 0, none⟩, cap, rfl, ⟨h4, by omega, fun h => by cases h⟩, fun i hi => ?_⟩
    have hi' : i < vs.length := by omega
    refine ⟨g, 0, vs[i], rfl, lt_of_block hg, ?_, h3 i hi' hi⟩
    have := h1.cells (g := g) rfl i vs[i] (by simp [hi'])
    simpa [Addr.add_lit] using this
/-- A plan of which one row is put anew. -/
theorem PlanV.put {W : World} {base g cap n j : Nat} {vs : List Value} {u : Value} {L : List (List Int)} {r : List Int} (ho : W.ownsRow base 42 1 (.slice (some ⟨g, 0, none⟩) n cap) n vs) (hn : n = L.length) (hl : vs.length = L.length) (hj : j < n)
    (hu : RowT W u r) (hr : ∀ i (h1 : i < vs.length) (h2 : i < L.length), i ≠ j → RowT W vs[i] L[i]) : PlanV (W.setCell ⟨g, j, none⟩ u) (.slice (some ⟨g, 0, none⟩) n cap) (L.set j r) := by
  have hm : maxLen = 9223372036854775807 := rfl
  rcases ho.2 with ⟨h9, _⟩ | ⟨g', cap', cur, h9, _, hg, h4, h5, h6, h7⟩
  · cases h9
  · cases h9
    have hset : (W.setCell ⟨g, j, none⟩ u).heap[g]? = some (.cells (cur.setIfInBounds j u) 42 (0, 0)) := blk_set j u hg
    have hs : ∀ {v : Value} {l : List Int}, RowT W v l → RowT (W.setCell ⟨g, j, none⟩ u) v l := fun {v l} h => by
      obtain ⟨a, c, e, h1, h2⟩ := h
      refine ⟨a, c, e, h1, fun i hi => ?_⟩
      obtain ⟨b, off, e2, ⟨cs, z, hb⟩, hc⟩ := h2 i hi
      have hne : b ≠ g := fun e3 => by
        rw [e3, hg] at hb
        injection hb with hb
        injection hb with _ hb _
        exact absurd hb (by decide)
      have hb2 : (W.setCell ⟨g, j, none⟩ u).heap[b]? = W.heap[b]? := Below.heap_setCell _ _ _ _ hne
      exact ⟨b, off, e2, ⟨cs, z, hb2.trans hb⟩, (World.cell?_of_block (a := ⟨b, off + i, none⟩) hb2).trans hc⟩
    have hln : vs.length = n := by omega
    refine ⟨some ⟨g, 0, none⟩, cap, vs.set j u, by rw [List.length_set, hn], ⟨by rw [List.length_set, ← hn]; exact h4, by omega, fun h => by cases h⟩, by simp [hl], fun i hi => ?_, fun i h1 h2 => ?_⟩
    · have hi2 : i < vs.length := by simpa using hi
      refine ⟨g, 0, rfl, ⟨_, _, hset⟩, ?_⟩
      have hcs : cur.size = cap := by omega
      have hic : i < cur.size := by omega
      have hcur : cur[i]? = some vs[i] := by
        have := congrArg (fun l : List Value => l[i]?) h7
        simp only [List.getElem?_take] at this
        rw [if_pos (by omega)] at this
        rw [← Array.getElem?_toList, this]
        simp [hi2]
      refine blk_cell (0 + i) hset ?_
      rw [Nat.zero_add, List.getElem_set]
      by_cases e : j = i
      · subst e; simp [hic]
      · rw [if_neg e, Array.getElem?_setIfInBounds, if_neg e]; exact hcur
    · simp only [List.getElem_set]
      by_cases e : j = i
      · rw [if_pos e, if_pos e]; exact hs hu
      · rw [if_neg e, if_neg e]
        exact hs (hr i (by simpa using h1) (by simpa using h2) (fun e2 => e e2.symm))
theorem E_plans : ElemInfo Try.prog 114 26 (.slice none 0 0) 1 24 := ⟨by kernel_rfl, by kernel_rfl, rfl, by decide⟩
theorem SrcAt.plan {w : World} {a : Option Addr} {vs : List Value} {L : List (List Int)} {n c : Nat} (hn : a = none → c = 0) (hL : n = L.length) (hc : n ≤ c) (h : PlanT w a vs L) : SrcAt w (.slice a n c) n 1 vs := by
  obtain ⟨h1, h2, h3⟩ := h
  subst hL
  refine ⟨by omega, fun u hu => ?_, ?_⟩
  · obtain ⟨i, hi, rfl⟩ := List.getElem_of_mem hu
    obtain ⟨a', c', e, _⟩ := h3 i hi (by omega)
    rw [e]; rfl
  · cases a with
    | none =>
      have : L.length = 0 := by have := hn rfl; omega
      refine .inl ⟨?_, this⟩
      rw [hn rfl, this]
    | some ad =>
      refine .inr ⟨ad, c, rfl, fun j u hu => ?_⟩
      obtain ⟨hj, rfl⟩ := List.getElem?_eq_some_iff.1 hu
      obtain ⟨b, off, e, _, hc⟩ := h2 j hj
      cases e
      simpa [Addr.add_lit] using hc
end Go.Proofs.Ytchnpekgmkhacaa
namespace Go.Proofs.Ytchnpekgmkhacaa
open Go Go.RowKit Go.Shelf

theorem plan_shortK {h : DeH} {k : Nat} {p : List (List Int)} (hp : PlanOk h k p) : p.flatten.length ≤ k := by
  have h1 := nodup_below k (p.flatten.map Int.toNat) (by
    rw [List.Nodup, List.pairwise_map]
    refine List.Pairwise.imp_of_mem (fun {a b} ha hb hne e => hne ?_) hp.nodup
    have := (hp.mem a).1 ha
    have := (hp.mem b).1 hb
    omega) (fun x hx => by
      obtain ⟨c, hc, rfl⟩ := List.mem_map.1 hx
      have := (hp.mem c).1 hc
      omega)
  rwa [List.length_map] at h1
/-- The plans in which a customer's letter is put at some place of a list. -/
def putW (h : DeH) (c : Nat) (p : List (List Int)) (w : Nat) : List (List (List Int)) := if canD h w c then (List.range ((p[w]?.getD []).length + 1)).map fun i => insertAt p w i (c : Int) else []
theorem planPut_eq (h : DeH) (c : Nat) (p : List (List Int)) : planPut h c p = (List.range h.writers.length).flatMap (putW h c p) := rfl
theorem range_flat_succ {β : Type} (f : Nat → List β) (m : Nat) : (List.range (m + 1)).flatMap f = (List.range m).flatMap f ++ f m := by
  rw [List.range_succ, List.flatMap_append]; simp
theorem putW_len {h : DeH} {c : Nat} {p : List (List Int)} (hp : PlanOk h c p) (w : Nat) (hw : w < h.writers.length) : (putW h c p w).length ≤ c + 1 := by
  unfold putW
  split
  · have hl : w < p.length := by rw [hp.len]; exact hw
    rw [List.getElem?_eq_getElem hl, Option.getD_some, List.length_map, List.length_range]
    have := row_short hl
    have := plan_shortK hp
    omega
  · simp
theorem planPut_len {h : DeH} (hv : DeValid h) {c : Nat} (hc : c < 5) {p : List (List Int)} (hp : PlanOk h c p) : (planPut h c p).length ≤ 15 := by
  rw [planPut_eq]
  have := flatMap_many (putW h c p) (c + 1) (List.range h.writers.length) (fun w hw => putW_len hp w (List.mem_range.1 hw))
  rw [List.length_range] at this
  have h3 := hv.nw
  have : h.writers.length * (c + 1) ≤ 3 * (c + 1) := Nat.mul_le_mul_right _ h3
  omega
theorem plans_many {h : DeH} (hv : DeValid h) : ∀ c : Nat, c ≤ 5 → (dePlansTo h c).length ≤ 15 ^ c
  | 0, _ => by simp [dePlansTo]
  | c + 1, hc => by
    rw [dePlansTo]
    have h1 := flatMap_many (planPut h c) 15 (dePlansTo h c) (fun p hp => planPut_len hv (by omega) (mem_plans.1 hp))
    have h2 := Nat.mul_le_mul_right 15 (plans_many hv c (by omega))
    rw [Nat.pow_succ]
    omega
theorem plans_few {h : DeH} (hv : DeValid h) (c : Nat) (hc : c ≤ 5) : (dePlansTo h c).length ≤ 759375 :=
  Nat.le_trans (plans_many hv c hc) (Nat.le_trans (Nat.pow_le_pow_right (by decide) hc) (by decide))
theorem ownsRow_pos {W : World} {base : Nat} {e : TypeId} {size : Nat} {v : Value} {k : Nat} {xs : List Value} (hk : 0 < k) (h : W.ownsRow base e size v k xs) : ∃ g cap, v = .slice (some ⟨g, 0, none⟩) k cap := by
  obtain ⟨k, rfl⟩ : ∃ j, k = j + 1 := ⟨k - 1, by omega⟩
  exact ownsRow_succ h
theorem modify_set (p : List (List Int)) (x : Nat) (f : List Int → List Int) (hx : x < p.length) : p.modify x f = p.set x (f p[x]) := by
  apply List.ext_getElem
  · simp
  · intro i h1 h2
    simp only [List.getElem_modify, List.getElem_set]
    split
    · rename_i e; subst e; rfl
    · rfl
theorem SrcAt.takeI {w : World} {a : Option Addr} {row : List Int} {c n : Nat} (hn : a = none → c = 0) (h : IntsC w a row) (hl : n ≤ row.length) : SrcAt w (.slice a n c) n 1 ((row.take n).map (Value.int .i64)) := by
  have e : (row.take n).length = n := List.length_take_of_le hl
  have := SrcAt.ints (l := row.take n) (c := c) hn (fun i hi => by
    obtain ⟨b, off, e1, h1, h2⟩ := h i (by omega)
    exact ⟨b, off, e1, h1, by rw [List.getElem_take]; exact h2⟩)
  rwa [e] at this
theorem SrcAt.dropI {w : World} {a : Option Addr} {row : List Int} {c n : Nat} (hs : SlOk a row.length c) (h : IntsC w a row) (hl : n ≤ row.length) : SrcAt w (.slice (if c = n then a else Option.map (fun x => x.add n) a) (row.length - n) (c - n)) (row.length - n) 1 (List.drop n (row.map (Value.int .i64))) := by
  refine ⟨by simp, fun u hu => ?_, ?_⟩
  · obtain ⟨x, _, rfl⟩ := List.mem_map.1 (List.mem_of_mem_drop hu)
    rfl
  · have hc := hs.1
    by_cases hcn : c = n
    · rw [if_pos hcn]
      have h0 : row.length - n = 0 := by omega
      have h1 : c - n = 0 := by omega
      rw [h0, h1]
      cases a with
      | none => exact .inl ⟨rfl, rfl⟩
      | some ad => exact .inr ⟨ad, 0, rfl, fun j u hu => absurd (List.getElem?_eq_some_iff.1 hu).1 (by simp; omega)⟩
    · rw [if_neg hcn]
      cases a with
      | none => have := hs.2.2 rfl; omega
      | some ad =>
        refine .inr ⟨ad.add n, c - n, rfl, fun j u hu => ?_⟩
        obtain ⟨hj, rfl⟩ := List.getElem?_eq_some_iff.1 hu
        have hj2 : n + j < row.length := by simp at hj; omega
        obtain ⟨b, off, e, _, hcell⟩ := h (n + j) hj2
        cases e
        rw [Addr.add_lit, Addr.add_lit, Nat.add_assoc]
        rw [hcell]
        simp
theorem plan_zero_lies (W : World) (n : Nat) (hn : n ≤ 9223372036854775807) : PlanV (W.alloc (.cells (madeCells #[.slice none 0 0] n) 42)) (.slice (some ⟨W.heap.size, 0, none⟩) n n) (List.replicate n []) := by
  have hb := alloc_at W (.cells (madeCells #[.slice none 0 0] n) 42) rfl
  have hP := PlI.start hb
  refine ⟨some ⟨W.heap.size, 0, none⟩, n, List.replicate n (.slice none 0 0), by simp, ⟨by simp, hn, fun h => by cases h⟩, by simp, fun i hi => ?_, fun i h1 h2 => ?_⟩
  · refine ⟨W.heap.size, 0, rfl, ⟨_, _, hP.blk⟩, ?_⟩
    refine blk_cell (0 + i) hP.blk ?_
    have : i < n := by simpa using hi
    simp [this]
  · simp only [List.getElem_replicate]
    exact RowT.nil _
set_option maxRecDepth 100000 in
set_option maxHeartbeats 8000000 in
theorem DRPlans_any (aw ac : Option Addr) (kw kc : Nat) (h : DeH) (w : World) (hm : HallC w aw ac kw kc h) (hv : DeValid h) :
    Calls Try.prog 78 #[(.agg #[.int .i64 h.wax, .slice aw h.writers.length kw, .slice ac h.customers.length kc])] w fun e w' => ∃ a c, e = .returned (.slice a (dePlans h).length c) ∧ SlOk a (dePlans h).length c ∧ PlansC w' a (dePlans h) ∧ Below w.heap.size w w' := by
  have hnw := hv.nw
  have hnc := hv.nc
  have hB := Below.refl (w.heap.size + 1) (w.alloc (.cells #[.int .i64 h.wax, .slice aw h.writers.length kw, .slice ac h.customers.length kc] 25))
  have HCL := Lib.hid (fun (V : World) (hq : Below (w.heap.size + 1) (w.alloc (.cells #[.int .i64 h.wax, .slice aw h.writers.length kw, .slice ac h.customers.length kc] 25)) V) => box_hall hq)
  have HBN := Lib.hid (fun (V V' : World) (hq : Below (w.heap.size + 1) (w.alloc (.cells #[.int .i64 h.wax, .slice aw h.writers.length kw, .slice ac h.customers.length kc] 25)) V) (hq2 : Below V.heap.size V V') => hq.trans (hq2.mono (by have := hq.size; simp at this; omega)))
  have hBz : ∀ V, Below (w.heap.size + 1) (w.alloc (.cells #[.int .i64 h.wax, .slice aw h.writers.length kw, .slice ac h.customers.length kc] 25)) V → w.heap.size + 1 ≤ V.heap.size := fun V hq => by have := hq.size; simpa using this
  replace hBz := Lib.hid hBz
  obtain ⟨x0, x1, x2, z0⟩ := box_hall hB
  obtain ⟨i, hi, hz, hsz, hby⟩ := info_parts E_ints.info
  have HP0 : Hid (dePlansTo h 0 = [List.replicate h.writers.length []]) := Lib.hid rfl
  have HPE : Hid (dePlans h = dePlansTo h h.customers.length) := Lib.hid rfl
  generalize dePlans h = ALL at HPE ⊢
  have hz1 := plan_zero_lies (w.alloc (.cells #[.int .i64 h.wax, .slice aw h.writers.length kw, .slice ac h.customers.length kc] 25)) h.writers.length (by omega)
  go_enter Try.func78, Try.ntmps78
  go_upto_region 2 with (refine wpList_make_row _ rfl (.tmp 13) (.tmp 13) _ rfl 42 i (.slice none 0 0) E_ints.und hi hz hsz rfl .i64 .i64 h.writers.length rfl rfl (by rw [hby]; omega) (by omega) ?_; go_frame)
  obtain ⟨Y, hY⟩ : ∃ Y : World, Y = ((w.alloc (.cells #[.int .i64 h.wax, .slice aw h.writers.length kw, .slice ac h.customers.length kc] 25)).alloc (.cells (madeCells #[.slice none 0 0] h.writers.length) 42)).alloc (.cells #[.slice (some ⟨w.heap.size + 1, 0, none⟩) h.writers.length h.writers.length] 26) := ⟨_, rfl⟩
  rw [← hY]
  have hYb : Below (w.heap.size + 1) (w.alloc (.cells #[.int .i64 h.wax, .slice aw h.writers.length kw, .slice ac h.customers.length kc] 25)) Y := by rw [hY]; exact (by (repeat' (first | assumption | exact Below.refl _ _ | refine below_drew' ?_ | refine Below.setCell ?_ (by first | omega | (simp <;> omega)) _ | refine Below.alloc ?_ (by first | omega | (simp <;> omega)) _)))
  have hY1 : Y.heap[w.heap.size + 1 + 1]? = some (.cells #[.slice (some ⟨w.heap.size + 1, 0, none⟩) h.writers.length h.writers.length] 26 (0, 0)) := by rw [hY]; exact alloc_at _ _ (by simp)
  have hYP : PlanV Y (.slice (some ⟨w.heap.size + 1, 0, none⟩) h.writers.length h.writers.length) (List.replicate h.writers.length []) := by
    have h9 := hz1.same (SameT.of_below (W := Y) (by rw [hY]; exact (by (repeat' (first | assumption | exact Below.refl _ _ | refine below_drew' ?_ | refine Below.setCell ?_ (by first | omega | (simp <;> omega)) _ | refine Below.alloc ?_ (by first | omega | (simp <;> omega)) _)))))
    simpa using h9
  clear hY hz1 x0 x1 x2 z0 hi hz hsz hby
  go_wp2
  go_loopw [3, 4] (fun o i wr => ∃ c : Nat, c ≤ h.customers.length ∧ i = .int .i64 c ∧ (∃ a k, o = .slice a (dePlansTo h c).length k ∧ SlOk a (dePlansTo h c).length k ∧ PlansC wr a (dePlansTo h c)) ∧ Below (w.heap.size + 1) (w.alloc (.cells #[.int .i64 h.wax, .slice aw h.writers.length kw, .slice ac h.customers.length kc] 25)) wr) (fun _ i _ => h.customers.length - (intOf i).toNat)
  case atStart =>
    refine ⟨0, Nat.zero_le _, rfl, ⟨some ⟨w.heap.size + 1 + 1, 0, none⟩, 1, by rw [HP0.out]; rfl, by rw [HP0.out]; exact ⟨by simp, by omega, fun h => by cases h⟩, ?_⟩, hYb⟩
    rw [HP0.out]
    intro i hi
    have e : i = 0 := by simp at hi; omega
    subst e
    exact ⟨w.heap.size + 1 + 1, 0, _, rfl, lt_of_block hY1, blk_cell 0 hY1 rfl, hYP⟩
  case round =>
    clear hYb hY1 hYP
    obtain ⟨c, hc, rfl, ⟨ao, ko, rfl, hso, hPL⟩, hB0⟩ := hrel
    by_cases hlc : c < h.customers.length
    · obtain ⟨W0, hW0⟩ : ∃ W0 : World, W0 = wr := ⟨_, rfl⟩
      subst hW0
      have hNXT : Hid (dePlansTo h (c + 1) = (dePlansTo h c).flatMap (planPut h c)) := Lib.hid rfl
      have hmany := plans_few hv (c + 1) (by omega)
      have hfew := plans_few hv c (by omega)
      have hOK := Lib.hid (fun (k : Nat) (hk : k < (dePlansTo h c).length) => mem_plans.1 (List.getElem_mem hk))
      rw [hNXT.out] at hmany
      generalize dePlansTo h c = L at *
      have hsl := hso.len
      have hs1 := hso.1
      obtain ⟨x0, x1, x2, z0⟩ := HCL.out _ hB0
      have HBW := Lib.hid (fun (V : World) (hb : Below W0.heap.size W0 V) => HBN.out _ _ hB0 hb)
      have hW0z := hBz.out _ hB0
      go_wp2
      go_loopw [5, 6] (fun v i V => ∃ k : Nat, k ≤ L.length ∧ i = .int .i64 k ∧ OwnP V W0.heap.size v ((L.take k).flatMap (planPut h c)) ∧ Below W0.heap.size W0 V) (fun _ i _ => L.length - (intOf i).toNat)
      case atStart => exact ⟨0, Nat.zero_le _, rfl, OwnP.nil _ _, Below.refl _ _⟩
      case round =>
        clear x0 x1 x2 z0
        obtain ⟨k, hk, rfl, hown, hb⟩ := hrel
        obtain ⟨x0, x1, x2, z0⟩ := HCL.out _ (HBW.out _ hb)
        by_cases hlk : k < L.length
        · have htk := Lib.hid (take_flat (planPut h c) L k hlk)
          have hcnt := flat_take_many (planPut h c) L (k + 1)
          rw [htk.out, List.length_append] at hcnt
          have hok := hOK.out k hlk
          obtain ⟨b, off, vp, eo, hlt, hcp, hpv⟩ := hPL k hlk
          generalize L[k] = p at htk hcnt hok hpv
          generalize (L.take k).flatMap (planPut h c) = N2 at *
          obtain ⟨ap, cp, vs, rfl, hsp, hvl, hvc, hvr⟩ := hpv
          have hpl := hok.len
          have hRL := Lib.hid (fun (x : Nat) (hx : x < p.length) => Nat.le_trans (row_short hx) (plan_shortK hok))
          have hput := planPut_eq h c p
          rw [hput] at htk hcnt
          have hPTW := Lib.hid (fun (x : Nat) (hx : x < h.writers.length) => putW_len hok x hx)
          clear hput
          have hspl := hsp.len
          have hsp1 := hsp.1
          subst eo
          go_wp2
          go_loopw [5, 7] (fun v i V => ∃ x : Nat, x ≤ h.writers.length ∧ i = .int .i64 x ∧ OwnP V W0.heap.size v (N2 ++ (List.range x).flatMap (putW h c p)) ∧ Below W0.heap.size W0 V) (fun _ i _ => h.writers.length - (intOf i).toNat)
          case atStart => exact ⟨0, Nat.zero_le _, rfl, by simpa using hown, hb⟩
          case round =>
            clear x0 x1 x2 z0 hown hb
            obtain ⟨x, hx, rfl, hown, hb⟩ := hrel
            obtain ⟨x0, x1, x2, z0⟩ := HCL.out _ (HBW.out _ hb)
            by_cases hlx : x < h.writers.length
            · have hxp : x < p.length := by omega
              have hrx := Lib.hid (range_flat_succ (putW h c p) x)
              have hbd : (N2 ++ (List.range (x + 1)).flatMap (putW h c p)).length ≤ 759375 := by
                have h1 : ((List.range (x + 1)).flatMap (putW h c p)).length ≤ ((List.range h.writers.length).flatMap (putW h c p)).length := by
                  have h2 := flat_take_many (putW h c p) (List.range h.writers.length) (x + 1)
                  rwa [List.take_range, Nat.min_eq_left (by omega)] at h2
                rw [List.length_append]; omega
              rw [hrx.out, ← List.append_assoc] at hbd
              obtain ⟨b2, off2, e2, ⟨cs2, z2, hb2⟩, hc2⟩ := hvc x (by omega)
              obtain ⟨ar, cr, er, hsr, hir⟩ := hvr x (by omega) hxp
              rw [er] at hc2
              have hput : Hid (putW h c p x = if canD h x c then (List.range (p[x].length + 1)).map fun i => insertAt p x i (c : Int) else []) := Lib.hid (by unfold putW; rw [List.getElem?_eq_getElem hxp]; rfl)
              have hrl := hRL.out x hxp
              have hsrl := hsr.len
              have hsr1 := hsr.1
              have HVR := Lib.hid hvr
              have HVC := Lib.hid hvc
              have hins := Lib.hid (fun (a : Nat) => show insertAt p x a (c : Int) = p.set x (p[x].take a ++ (c : Int) :: p[x].drop a) by unfold insertAt; rw [modify_set _ _ _ hxp])
              generalize hN3 : N2 ++ (List.range x).flatMap (putW h c p) = N3 at *
              have HN3 := Lib.hid hN3
              clear hN3
              clear hvr hvc
              cases hcan : canD h x c with
              | false =>
                have hpw : Hid (putW h c p x = []) := Lib.hid (by rw [hput.out, hcan]; rfl)
                have CN := fun (V : World) (hb : Below W0.heap.size W0 V) => DRCan_any aw ac kw kc h x c V (hm.mono (box_old (HBW.out _ hb))) hv hlx hlc
                simp only [hcan] at CN
                replace CN := Lib.hid CN
                go_wp2
                go_loopw [5, 8] (fun v i V => i = .int .i64 0 ∧ OwnP V W0.heap.size v N3 ∧ Below W0.heap.size W0 V) (fun _ _ _ => 0)
                case atStart => exact ⟨rfl, hown, hb⟩
                case round =>
                  clear x0 x1 x2 z0 hown hb
                  obtain ⟨rfl, hown, hb⟩ := hrel
                  obtain ⟨x0, x1, x2, z0⟩ := HCL.out _ (HBW.out _ hb)
                  have r1 := cell_below hb hcp
                  have r2 := cell_below hb hc2
                  have cn := Lib.hid (CN.out _ hb)
                  clear hir hPL
                  subst e2
                  go_wp2_with (go_at_call 88; go_must ((with_reducible refine cn.out.mono ?_); rintro e w3 ⟨rfl, hb3⟩; have hbn := hb.trans (hb3.mono hb.size); dsimp only))
                  go_roundw
                  case rel => exact ⟨x + 1, by omega, by go_num, by rw [hrx.out, ← List.append_assoc, HN3.out, hpw.out, List.append_nil]; exact hown.keep hb3, hbn⟩
                  case measure => simp [intOf]; omega
              | true =>
                have hpw : Hid (putW h c p x = (List.range (p[x].length + 1)).map fun i => p.set x (p[x].take i ++ (c : Int) :: p[x].drop i)) := Lib.hid (by
                  rw [hput.out, hcan, if_pos rfl]
                  exact List.map_congr_left fun i _ => hins.out i)
                rw [hpw.out, List.length_append, List.length_map, List.length_range] at hbd
                have CN := fun (V : World) (hb : Below W0.heap.size W0 V) => DRCan_any aw ac kw kc h x c V (hm.mono (box_old (HBW.out _ hb))) hv hlx hlc
                simp only [hcan] at CN
                replace CN := Lib.hid CN
                generalize hrow : p[x] = row at *
                have HROW := Lib.hid hrow
                clear hrow
                go_wp2
                go_loopw [5, 8] (fun v i V => ∃ a : Nat, a ≤ row.length + 1 ∧ i = .int .i64 a ∧ OwnP V W0.heap.size v (N3 ++ (List.range a).map fun i => p.set x (row.take i ++ (c : Int) :: row.drop i)) ∧ Below W0.heap.size W0 V) (fun _ i _ => row.length + 1 - (intOf i).toNat)
                case atStart => exact ⟨0, Nat.zero_le _, rfl, by simpa using hown, hb⟩
                case round =>
                  clear x0 x1 x2 z0 hown hb
                  obtain ⟨a, ha, rfl, hown, hb⟩ := hrel
                  obtain ⟨x0, x1, x2, z0⟩ := HCL.out _ (HBW.out _ hb)
                  have r1 := cell_below hb hcp
                  have r2 := cell_below hb hc2
                  have cn := Lib.hid (CN.out _ hb)
                  by_cases hal : a ≤ row.length
                  · obtain ⟨vN, hoN, hlN, hpN⟩ := hown
                    have hNl : (N3 ++ (List.range a).map fun i => p.set x (row.take i ++ (c : Int) :: row.drop i)).length ≤ 759375 := by
                      rw [List.length_append, List.length_map, List.length_range]; omega
                    have hsnoc := Lib.hid (range_map_succ (fun i => p.set x (row.take i ++ (c : Int) :: row.drop i)) a)
                    generalize hNN : (N3 ++ (List.range a).map fun i => p.set x (row.take i ++ (c : Int) :: row.drop i)) = NN at *
                    have HNN := Lib.hid hNN
                    clear hNN
                    have hal2 : (a : Int) ≤ row.length := by omega
                    have hPw := Lib.hid (fun (V : World) (hb : Below W0.heap.size W0 V) => show PlanT V ap vs p from ⟨hvl, fun i hi => by
                        obtain ⟨b, off, e, ⟨cs, z, h1⟩, h2⟩ := HVC.out i hi
                        exact ⟨b, off, e, ⟨cs, z, (hb.block b (lt_of_block h1)).trans h1⟩, cell_below hb h2⟩, fun i h1 h2 => (HVR.out i h1 h2).same (.of_below hb)⟩)
                    have hirW := Lib.hid (fun (V : World) (hb : Below W0.heap.size W0 V) => hir.same (.of_below hb))
                    clear hir hPL
                    subst e2
                    go_upto_region 15 with (go_at_call 88; go_must ((with_reducible refine cn.out.mono ?_); rintro e w5 ⟨rfl, hb5⟩; have hb5w := hb.trans (hb5.mono hb.size); dsimp only))
                    have r1 := cell_below hb5w hcp
                    have r2 := cell_below hb5w hc2
                    have rz := lt_of_cell r1
                    have rz2 := lt_of_cell r2
                    go_upto_region 16 with (at_builtin; go_must (refine wpList_app (.tmp 54) (.tmp 58) E_ints rfl rfl rfl rfl w5.heap.size 0 h.writers.length [] vs (made_row w5 _ 1) (SrcAt.below (SrcAt.plan (fun e => by cases e) hpl.symm (by omega) (hPw.out _ hb5w)) ((Below.refl _ _).alloc (Nat.le_refl _) _)) (by omega) (by decide) (by simp) ?_; intro v6 w6 ho6 hg6 _; (have hb6 := app_fresh hg6); (simp only [Nat.zero_add, List.nil_append] at ho6); (obtain ⟨g6, cap6, rfl⟩ := ownsRow_pos (by omega) ho6); clear hg6; simp only [Act.put, List.setIfInBounds_toArray, List.set_cons_succ, List.set_cons_zero]))
                    have hb6w := hb5w.trans (hb6.mono hb5w.size)
                    obtain ⟨vhl, hvx⟩ : ∃ hx : x < vs.length, vs[x] = .slice ar row.length cr := ⟨by omega, er⟩
                    obtain ⟨cur6, hG6, hcap6⟩ : ∃ cur, w6.heap[g6]? = some (.cells cur 42 (0, 0)) ∧ h.writers.length ≤ cap6 := by
                      rcases ho6.2 with ⟨h9, _⟩ | ⟨g', cap', cur, h9, _, h3, h4, _⟩
                      · cases h9
                      · cases h9; exact ⟨cur, h3, h4⟩
                    have hg6b := (ho6.lt g6 rfl).1
                    have c6 := ho6.cells (g := g6) rfl x _ (List.getElem?_eq_getElem vhl)
                    rw [hvx] at c6
                    have c6z := lt_of_cell c6
                    simp only [Addr.add_lit, Nat.zero_add] at c6 c6z
                    have hxn : (x : Int) < cap6 := by
                      rcases ho6.2 with ⟨h9, _⟩ | ⟨g', cap', cur, h9, _, _, h4, _⟩
                      · cases h9
                      · cases h9; omega
                    have hirw := hirW.out _ hb6w
                    go_upto_region 17 with (at_builtin; go_must (refine wpList_app (.tmp 60) (.tmp 66) E_int rfl rfl rfl rfl w6.heap.size 0 a [] ((row.take a).map (Value.int .i64)) (made_row w6 _ 1) (show SrcAt (w6.alloc (.cells #[] 3)) (.slice ar a cr) a 1 _ from SrcAt.takeI hsr.2.2 (hirw.ints.mono ((Below.refl _ _).alloc (Nat.le_refl _) _)) hal) (by omega) (by decide) (by simp) ?_; intro v7 w7 ho7 hg7 _; (have hb7 := app_fresh hg7); (simp only [Nat.zero_add, List.nil_append] at ho7); clear hg7; simp only [Act.put, List.setIfInBounds_toArray, List.set_cons_succ, List.set_cons_zero]))
                    have C60 := Lib.hid c6
                    clear c6 c6z hirw r1 r2 rz rz2
                    have hw7 : Below w6.heap.size w6 w7 := hb7
                    go_upto_region 18 with (at_builtin; go_must (refine wpList_app (.tmp 68) (.tmp 70) E_int rfl rfl rfl rfl w6.heap.size a 1 ((row.take a).map (Value.int .i64)) [.int .i64 (c : Int)] (ho7.alloc _) (SrcAt.one _ _ _ rfl) (by omega) (by decide) (by have := hw7.size; simp; omega) ?_; intro v8 w8 ho8 hg8 _; (have hb8 := app_next hw7 (Nat.le_refl _) (Nat.le_refl _) ho7 hg8); clear hg8; simp only [Act.put, List.setIfInBounds_toArray, List.set_cons_succ, List.set_cons_zero]))
                    have hb8w := hb6w.trans (hb8.mono hb6w.size)
                    have r1 := cell_below hb8w hcp
                    have r2 := cell_below hb8w hc2
                    have rz := lt_of_cell r1
                    have rz2 := lt_of_cell r2
                    have hirw := hirW.out _ hb8w
                    have ho68 := own_below ho6 hb8
                    have c6 := ho68.cells (g := g6) rfl x _ (List.getElem?_eq_getElem vhl)
                    rw [hvx] at c6
                    have c6z := lt_of_cell c6
                    simp only [Addr.add_lit, Nat.zero_add] at c6 c6z
                    go_upto_region 19 with (at_builtin; go_must (refine wpList_app (.tmp 74) (.tmp 83) E_int rfl rfl rfl rfl w6.heap.size (a + 1) (row.length - a) ((row.take a).map (Value.int .i64) ++ [Value.int .i64 (c : Int)]) ((row.drop a).map (Value.int .i64)) ho8 ?g1 (by omega) (by decide) (by have := hb8.size; omega) ?_; (case g1 => go_simp; exact SrcAt.dropI hsr hirw.ints hal); intro v9 w9 ho9 hg9 _; (have hb9 := hb8.grown hg9 hb8.size (fun k e => (ho8.lt k e).1)); (obtain ⟨g9, cap9, rfl⟩ := ownsRow_pos (by omega) ho9); have hG9 := (hb9.block _ (lt_of_block hG6)).trans hG6; have q0 := cell_below hb9 C60.out; have qf := blk_free x hG9; have qz := lt_of_block hG9; clear hg9; simp only [Act.put, List.setIfInBounds_toArray, List.set_cons_succ, List.set_cons_zero]))
                    obtain ⟨X, hX⟩ : ∃ X : World, X = w9.setCell ⟨g6, x, none⟩ (.slice (some ⟨g9, 0, none⟩) (a + 1 + (row.length - a)) cap9) := ⟨_, rfl⟩
                    rw [← hX]
                    have hel : ((row.take a).map (Value.int .i64) ++ [Value.int .i64 (c : Int)]) ++ (row.drop a).map (Value.int .i64) = (row.take a ++ (c : Int) :: row.drop a).map (Value.int .i64) := by simp
                    rw [hel] at ho9
                    have hb9w := hb6w.trans (hb9.mono hb6w.size)
                    have hPX : PlanV X (.slice (some ⟨g6, 0, none⟩) h.writers.length cap6) (p.set x (row.take a ++ (c : Int) :: row.drop a)) := by
                      rw [hX]
                      exact PlanV.put (own_below ho6 hb9) hpl.symm hvl hlx (RowT.of_own ho9) (fun i h1 h2 _ => (hPw.out _ hb9w).2.2 i h1 h2)
                    have hb5X : Below w5.heap.size w5 X := by rw [hX]; exact (hb6.trans (hb9.mono hb6.size)).setCell hg6b _
                    have hbX := hb5w.trans (hb5X.mono hb5w.size)
                    have hwrX : Below wr.heap.size wr X := hb5.trans (hb5X.mono hb5.size)
                    have hbXz := hbX.size
                    clear hX hel C60
                    go_wp2_with (at_builtin; go_must (refine wpList_app (.tmp 86) (.tmp 88) E_plans rfl rfl rfl rfl W0.heap.size NN.length 1 vN [Value.slice (some ⟨g6, 0, none⟩) h.writers.length cap6] ((own_below hoN hwrX).alloc _) (SrcAt.one _ _ _ rfl) (by omega) (by decide) (by simp; omega) ?_; intro v11 w11 ho11 hg11 _; (have hpush := OwnP.push hoN hlN hpN hwrX hPX ho11 hg11); (have hb11 := app_next hbX (Nat.le_refl _) (Nat.le_refl _) (own_below hoN hwrX) hg11); clear hg11; simp only [Act.put, List.setIfInBounds_toArray, List.set_cons_succ, List.set_cons_zero]))
                    go_roundw
                    case rel => exact ⟨a + 1, by omega, by go_num, by rw [hsnoc.out, ← List.append_assoc, HNN.out]; exact hpush, hb11⟩
                    case measure => simp [intOf]; omega
                  · obtain rfl : a = row.length + 1 := by omega
                    have hal2 : ¬ ((row.length + 1 : Nat) : Int) ≤ row.length := by omega
                    clear hir hPL
                    subst e2
                    go_wp2
                    go_roundw
                    case rel => exact ⟨x + 1, by omega, by omega, by rw [hrx.out, ← List.append_assoc, HN3.out, hpw.out]; exact hown⟩
                    case measure => simp [intOf]; omega
            · obtain rfl : x = h.writers.length := by omega
              go_wp2
              go_roundw
              case rel => exact ⟨k + 1, by omega, by go_num, by rw [htk.out]; exact hown, hb⟩
              case measure => simp [intOf]; omega
        · obtain rfl : k = L.length := by omega
          rw [List.take_length, ← hNXT.out] at hown
          obtain ⟨a9, c9, rfl, h9, hP9⟩ := hown.plans
          go_wp2
          go_roundw
          case rel => exact ⟨c + 1, by omega, by go_num, ⟨a9, c9, rfl, h9, hP9⟩, HBW.out _ hb⟩
          case measure => simp [intOf]; omega
    · obtain rfl : c = h.customers.length := by omega
      obtain ⟨x0, x1, x2, z0⟩ := HCL.out _ hB0
      have he := HPE.out
      subst he
      go_wp2
      go_ret
      exact ⟨_, _, rfl, hso, hPL, box_old hB0⟩
end Go.Proofs.Ytchnpekgmkhacaa
namespace Go.Proofs.Ytchnpekgmkhacaa
open Go Go.RowKit Go.Shelf

theorem some_yes {h : DeH} {k : Nat} (hk : k < (dePlans h).length) (hd : deDoes h (dePlans h)[k] = 1) : someD h = true := by
  unfold someD
  rw [List.any_eq_true]
  exact ⟨_, List.getElem_mem hk, by simp [hd]⟩
theorem some_no {h : DeH} (hn : ∀ i (hi : i < (dePlans h).length), deDoes h (dePlans h)[i] ≠ 1) : someD h = false := by
  unfold someD
  rw [List.any_eq_false]
  intro p hp
  obtain ⟨i, hi, rfl⟩ := List.getElem_of_mem hp
  simp [hn i hi]
set_option maxRecDepth 100000 in
set_option maxHeartbeats 4000000 in
theorem DRSome_any (aw ac : Option Addr) (kw kc : Nat) (h : DeH) (w : World) (hm : HallC w aw ac kw kc h) (hv : DeValid h) :
    Calls Try.prog 48 #[(.agg #[.int .i64 h.wax, .slice aw h.writers.length kw, .slice ac h.customers.length kc])] w fun e w' => e = .returned (.bool (someD h)) ∧ Below w.heap.size w w' := by
  have hB := Below.refl (w.heap.size + 1) (w.alloc (.cells #[.int .i64 h.wax, .slice aw h.writers.length kw, .slice ac h.customers.length kc] 25))
  have HCL := Lib.hid (fun (V : World) (hq : Below (w.heap.size + 1) (w.alloc (.cells #[.int .i64 h.wax, .slice aw h.writers.length kw, .slice ac h.customers.length kc] 25)) V) => box_hall hq)
  have HBN := Lib.hid (fun (V V' : World) (hq : Below (w.heap.size + 1) (w.alloc (.cells #[.int .i64 h.wax, .slice aw h.writers.length kw, .slice ac h.customers.length kc] 25)) V) (hq2 : Below V.heap.size V V') => hq.trans (hq2.mono (by have := hq.size; simp at this; omega)))
  obtain ⟨x0, x1, x2, z0⟩ := box_hall hB
  have PL := Lib.hid (DRPlans_any aw ac kw kc h (w.alloc (.cells #[.int .i64 h.wax, .slice aw h.writers.length kw, .slice ac h.customers.length kc] 25)) (hm.mono (box_old hB)) hv)
  have HY := Lib.hid (fun k hk hd => some_yes (h := h) (k := k) hk hd)
  have HN := Lib.hid (fun hn => some_no (h := h) hn)
  have hmany : (dePlans h).length ≤ 759375 := plans_few hv _ hv.nc
  have hOK := Lib.hid (fun (k : Nat) (hk : k < (dePlans h).length) => show PlanOk h h.customers.length (dePlans h)[k] from mem_plans.1 (List.getElem_mem hk))
  generalize dePlans h = L at *
  generalize someD h = res at HY HN ⊢
  go_enter Try.func48, Try.ntmps48
  go_wp2_with (go_at_call 78; go_must ((with_reducible refine PL.out.mono ?_); rintro e w2 ⟨ao, ko, rfl, hso, hPL, hb2⟩; have hB2 := HBN.out _ _ hB hb2; dsimp only))
  have hsl := hso.len
  have hs1 := hso.1
  go_loopw [4] (fun i wr => ∃ k : Nat, k ≤ L.length ∧ i = .int .i64 k ∧ Hid (∀ i (hi : i < L.length), i < k → deDoes h L[i] ≠ 1) ∧ Below w2.heap.size w2 wr) (fun i _ => L.length - (intOf i).toNat)
  case atStart => exact ⟨0, Nat.zero_le _, rfl, Lib.hid (fun i _ hi => absurd hi (Nat.not_lt_zero i)), Below.refl _ _⟩
  case round =>
    clear x0 x1 x2 z0
    obtain ⟨k, hk, rfl, HZ, hb⟩ := hrel
    have hBr := HBN.out _ _ hB2 hb
    obtain ⟨x0, x1, x2, z0⟩ := HCL.out _ hBr
    by_cases hlt : k < L.length
    · obtain ⟨b, off, vp, eo, hlb, hcp, hpv⟩ := hPL k hlt
      have hyes := Lib.hid (HY.out k hlt)
      have hnx := Lib.hid (fun (e : deDoes h L[k] ≠ 1) (i : Nat) (hi : i < L.length) (h2 : i < k + 1) => (Nat.lt_succ_iff_lt_or_eq.1 h2).elim (HZ.out i hi) (fun e2 => by subst e2; exact e))
      have hok := hOK.out k hlt
      have hrw := hpv.rows
      generalize L[k] = p at hyes hnx hok hrw hpv
      obtain ⟨ap, cp, rfl, hsp, hrc⟩ := hrw
      have r1 := cell_below hb hcp
      have rz := lt_of_cell r1
      have hkk : (k : Int) < ko := by omega
      have DC := Lib.hid (fun (V : World) (hq : Below wr.heap.size wr V) => DRDoes_any aw ac kw kc h ap p cp V (hm.mono (box_old (HBN.out _ _ hBr hq))) hv hok hsp (hrc.mono (hb.trans (hq.mono hb.size))))
      clear hPL hpv
      subst eo
      go_upto_region 5 with (fail)
      apply wp_mid _ (fun V => Below wr.heap.size wr V)
      · (focus go_region_with (go_at_call 43; ((with_reducible refine (DC.out _ (by (repeat' (first | assumption | exact Below.refl _ _ | refine below_drew' ?_ | refine Below.setCell ?_ (by first | omega | (simp <;> omega)) _ | refine Below.alloc ?_ (by first | omega | (simp <;> omega)) _)))).mono ?_); rintro e w3 ⟨rfl, hb3⟩; dsimp only)))
        all_goals exact ⟨rfl, by first | assumption | exact hb3 | exact ((by (repeat' (first | assumption | exact Below.refl _ _ | refine below_drew' ?_ | refine Below.setCell ?_ (by first | omega | (simp <;> omega)) _ | refine Below.alloc ?_ (by first | omega | (simp <;> omega)) _))) : Below wr.heap.size wr wr.drew).trans (hb3.mono (Nat.le_refl _))⟩
      intro V hbV
      have hbn := hb.trans (hbV.mono hb.size)
      have hBV := HBN.out _ _ hBr hbV
      generalize deDoes h p = d at hyes hnx
      by_cases hd : d = 1
      · have e1 := eqi_t hd
        have hy := hyes.out hd
        subst hy
        go_wp2
        go_ret
        exact ⟨rfl, box_old hBV⟩
      · have e1 := eqi_f hd
        replace hnx := Lib.hid (hnx.out hd)
        go_wp2
        go_roundw
        case rel => exact ⟨k + 1, by omega, by go_num, hnx, hbn⟩
        case measure => simp [intOf]; omega
    · obtain rfl : k = L.length := by omega
      have hr := HN.out (fun i hi => HZ.out i hi hi)
      subst hr
      go_wp2
      go_ret
      exact ⟨rfl, box_old hBr⟩
end Go.Proofs.Ytchnpekgmkhacaa
namespace Go.Proofs.Ytchnpekgmkhacaa
open Go Go.RowKit Go.Shelf

theorem before_step (A B : List (List Int)) (k : Nat) (h1 : k < A.length) (h2 : k < B.length) : beforeD (A.drop k) (B.drop k) = if intsB A[k] B[k] then beforeD (A.drop (k + 1)) (B.drop (k + 1)) else less A[k] B[k] := by
  rw [List.drop_eq_getElem_cons h1, List.drop_eq_getElem_cons h2, beforeD]
  by_cases e : A[k] = B[k]
  · rw [if_pos e, if_pos (intsB_iff.2 e)]
  · rw [if_neg e, if_neg (fun h => e (intsB_iff.1 h))]
theorem before_over (A B : List (List Int)) : beforeD (A.drop A.length) B = false := by
  rw [List.drop_length]
  rfl
set_option maxRecDepth 100000 in
set_option maxHeartbeats 2000000 in
theorem DRBefore_any (a b : Option Addr) (A B : List (List Int)) (ca cb : Nat) (w : World) (hl : A.length = B.length) (hoa : SlOk a A.length ca) (hob : SlOk b B.length cb) (hi : RowsC w a A) (hj : RowsC w b B) :
    Calls Try.prog 45 #[.slice a A.length ca, .slice b B.length cb] w fun e w' => e = .returned (.bool (beforeD A B)) ∧ ∃ q, w' = w.drewN q := by
  have hal := hoa.len
  have ha1 := hoa.1
  have hb1 := hob.1
  have HST := Lib.hid (fun k h1 h2 => before_step A B k h1 h2)
  have HOV := Lib.hid (before_over A)
  have H0 : Hid (beforeD A B = beforeD (A.drop 0) (B.drop 0)) := Lib.hid rfl
  have HL := Lib.hid hl
  clear hl
  generalize beforeD A B = r at H0 ⊢
  go_enter Try.func45, Try.ntmps45
  go_wp2
  go_loopw [5] (fun i wr => ∃ (k q : Nat), k ≤ A.length ∧ i = .int .i64 k ∧ wr = w.drewN q ∧ Hid (r = beforeD (A.drop k) (B.drop k))) (fun i _ => A.length - (intOf i).toNat)
  case atStart => exact ⟨0, 0, Nat.zero_le _, rfl, rfl, H0⟩
  case round =>
    obtain ⟨k, q, hk, rfl, hwr, HR⟩ := hrel
    have hbr : Below w.heap.size w wr := by rw [hwr]; exact below_draws _ _ _
    have HQ := Lib.hid (fun n => show ∃ m, wr.drewN n = w.drewN m from ⟨q + n, by rw [hwr]; simp⟩)
    have HQ2 := Lib.hid (fun n m => show ∃ l, (wr.drewN n).drewN m = w.drewN l from ⟨q + n + m, by rw [hwr]; simp⟩)
    have HQ0 : Hid (∃ m, wr = w.drewN m) := Lib.hid ⟨q, hwr⟩
    clear hwr
    by_cases hlt : k < A.length
    · have hlb : k < B.length := by have := HL.out; omega
      obtain ⟨b1, o1, a1, c1, e1, z1, h1, h2, h3⟩ := hi.mono hbr k hlt
      obtain ⟨b2, o2, a2, c2, e2, z2, g1, g2, g3⟩ := hj.mono hbr k hlb
      have hka : (k : Int) < ca := by omega
      have hkb : (k : Int) < cb := by omega
      have hkb2 : (k : Int) < B.length := by omega
      have hst := HST.out k hlt hlb
      have C1 := fun (W : World) (hq : Below wr.heap.size wr W) => Ints_any a1 a2 A[k] B[k] c1 c2 W h2.len g2.len (h3.mono hq) (g3.mono hq)
      have C2 := fun (W : World) (hq : Below wr.heap.size wr W) => Less_any a1 a2 A[k] B[k] c1 c2 W h2.len g2.len (h3.mono hq) (g3.mono hq)
      generalize intsB A[k] B[k] = bi at hst C1
      generalize less A[k] B[k] = bl at hst C2
      have C1 := Lib.hid C1
      have C2 := Lib.hid C2
      have HR2 := Lib.hid (HR.out.trans hst)
      clear hst hi hj h3 g3
      subst e1
      subst e2
      cases bi
      · have hr := HR2.out
        simp only [Bool.false_eq_true, if_false] at hr
        subst hr
        go_upto_region 4 with (fail)
        go_quiet ((go_at_call 31; exact Calls.quiet_drewN (C1.out _ (below_draws _ _ _))))
        have hbX := below_draws wr.heap.size wr nq
        have HQX := Lib.hid (fun m => HQ2.out nq m)
        have d1 := cell_below hbX h1
        have d2 := cell_below hbX g1
        have y1 := lt_of_cell d1
        have y2 := lt_of_cell d2
        generalize World.drewN wr nq = X at hbX HQX d1 d2 y1 y2 ⊢
        clear h1 g1 z1 z2 nq
        replace C2 := Lib.hid (fun (W : World) (hq : Below X.heap.size X W) => C2.out W (hbX.trans (hq.mono hbX.size)))
        go_upto_region 5 with (fail)
        go_quiet ((go_at_call 83; exact Calls.quiet_drewN (C2.out _ (below_draws _ _ _))))
        go_wp2
        go_ret
        exact ⟨rfl, HQX.out _⟩
      · have hr := Lib.hid (HR2.out.trans (if_pos rfl))
        go_upto_region 4 with (fail)
        go_quiet ((go_at_call 31; exact Calls.quiet_drewN (C1.out _ (below_draws _ _ _))))
        go_wp2
        go_roundw
        case rel =>
          obtain ⟨m, hm⟩ := HQ.out nq
          exact ⟨k + 1, m, by omega, by go_num, hm, hr⟩
        case measure => simp [intOf]; omega
    · obtain rfl : k = A.length := by omega
      have hr := HR.out.trans (HOV.out _)
      subst hr
      go_wp2
      go_ret
      exact ⟨rfl, HQ0.out⟩
end Go.Proofs.Ytchnpekgmkhacaa
namespace Go.Proofs.Ytchnpekgmkhacaa
open Go Go.RowKit Go.Shelf

def bestTo (h : DeH) (k : Nat) : Option (List (List Int) × Int) := ((dePlans h).take k).foldl (bestStepD h) none
theorem bestTo_succ {h : DeH} {k : Nat} (hk : k < (dePlans h).length) : bestTo h (k + 1) = bestStepD h (bestTo h k) (dePlans h)[k] := by
  unfold bestTo
  rw [List.take_succ_eq_append_getElem hk, List.foldl_append]
  rfl
theorem bestTo_all (h : DeH) : bestTo h (dePlans h).length = bestD h := by
  unfold bestTo
  rw [List.take_length]
  rfl
def BestM (W : World) (n : Nat) (vb vo vf : Value) : Option (List (List Int) × Int) → Prop
  | none => vf = .bool false ∧ vo = .int .i64 0 ∧ vb = .slice none 0 0
  | some (q, m) => vf = .bool true ∧ vo = .int .i64 m ∧ RowsV W vb q ∧ q.length = n
theorem step_not {h : DeH} {b : Option (List (List Int) × Int)} {p : List (List Int)} (hd : deDoes h p ≠ 1) : bestStepD h b p = b := by unfold bestStepD; rw [if_neg hd]
theorem step_none {h : DeH} {p : List (List Int)} (hd : deDoes h p = 1) : bestStepD h none p = some (p, deOver h p) := by unfold bestStepD; rw [if_pos hd]
theorem step_less {h : DeH} {p q : List (List Int)} {m : Int} (hd : deDoes h p = 1) (hl : deOver h p < m) : bestStepD h (some (q, m)) p = some (p, deOver h p) := by unfold bestStepD; rw [if_pos hd]; simp only; rw [if_pos (.inl hl)]
theorem step_more {h : DeH} {p q : List (List Int)} {m : Int} (hd : deDoes h p = 1) (hl : m < deOver h p) : bestStepD h (some (q, m)) p = some (q, m) := by unfold bestStepD; rw [if_pos hd]; simp only; rw [if_neg (by rintro (h1 | ⟨h1, _⟩) <;> omega)]
theorem step_same {h : DeH} {p q : List (List Int)} {m : Int} (hd : deDoes h p = 1) (hl : deOver h p = m) : bestStepD h (some (q, m)) p = if beforeD p q then some (p, deOver h p) else some (q, m) := by
  unfold bestStepD; rw [if_pos hd]; simp only
  cases hb : beforeD p q
  · rw [if_neg (by rintro (h1 | ⟨_, h2⟩); · omega
                   · cases h2), if_neg (by simp)]
  · rw [if_pos (.inr ⟨hl, rfl⟩), if_pos rfl]
set_option maxRecDepth 100000 in
set_option maxHeartbeats 8000000 in
theorem DRBest_any (aw ac : Option Addr) (kw kc : Nat) (h : DeH) (w : World) (hm : HallC w aw ac kw kc h) :
    Calls Try.prog 27 #[(.agg #[.int .i64 h.wax, .slice aw h.writers.length kw, .slice ac h.customers.length kc])] w fun e w' => ∃ v, e = .returned (.tuple #[v, .int .i64 (deBest h).2.1, .int .i64 (deBest h).2.2]) ∧ RowsV w' v (deBest h).1 ∧ Below w.heap.size w w' := by
  have hB := Below.refl (w.heap.size + 1) (w.alloc (.cells #[.int .i64 h.wax, .slice aw h.writers.length kw, .slice ac h.customers.length kc] 25))
  have HCL := Lib.hid (fun (V : World) (hq : Below (w.heap.size + 1) (w.alloc (.cells #[.int .i64 h.wax, .slice aw h.writers.length kw, .slice ac h.customers.length kc] 25)) V) => box_hall hq)
  have HBN := Lib.hid (fun (V V' : World) (hq : Below (w.heap.size + 1) (w.alloc (.cells #[.int .i64 h.wax, .slice aw h.writers.length kw, .slice ac h.customers.length kc] 25)) V) (hq2 : Below V.heap.size V V') => hq.trans (hq2.mono (by have := hq.size; simp at this; omega)))
  obtain ⟨x0, x1, x2, z0⟩ := box_hall hB
  have CK := DRCheck_any aw ac kw kc h (w.alloc (.cells #[.int .i64 h.wax, .slice aw h.writers.length kw, .slice ac h.customers.length kc] 25)) (hm.mono (box_old hB))
  have HV := Lib.hid (fun h : deErr h = 0 => deValid_of h)
  have HNO := Lib.hid (fun (e : deErr h ≠ 0) => show deBest h = ([], 0, deErr h) by unfold deBest; rw [if_neg e])
  have HN0 := Lib.hid (fun (e : deErr h = 0) (hb : bestD h = none) => show deBest h = ([], 0, 9) by unfold deBest; rw [if_pos e, hb])
  have HN1 := Lib.hid (fun (e : deErr h = 0) (q : List (List Int)) (n : Int) (hb : bestD h = some (q, n)) => show deBest h = (q, n, 0) by unfold deBest; rw [if_pos e, hb])
  have e0 : (deCheck h).2.2 = deErr h := rfl
  rw [e0] at CK
  generalize (deCheck h).1 = q1 at CK
  generalize (deCheck h).2.1 = q2 at CK
  generalize deErr h = er at CK HV HNO HN0 HN1
  clear e0
  generalize deBest h = res at HNO HN0 HN1 ⊢
  replace CK := Lib.hid CK
  by_cases her : er = 0
  · have hv := HV.out her
    have g1 := nei_f her
    replace HN0 := Lib.hid (HN0.out her)
    replace HN1 := Lib.hid (HN1.out her)
    clear her HV HNO
    have hnw := hv.nw
    have PL := Lib.hid (fun (W : World) (hb : Below w.heap.size w W) => DRPlans_any aw ac kw kc h W (hm.mono hb) hv)
    have hmany : (dePlans h).length ≤ 759375 := plans_few hv _ hv.nc
    have hOK := Lib.hid (fun (k : Nat) (hk : k < (dePlans h).length) => show PlanOk h h.customers.length (dePlans h)[k] from mem_plans.1 (List.getElem_mem hk))
    have HST := Lib.hid (fun k hk => bestTo_succ (h := h) (k := k) hk)
    have HAL := Lib.hid (bestTo_all h)
    generalize dePlans h = L at *
    go_enter Try.func27, Try.ntmps27
    go_wp2_with (first
      | (go_at_call 78; have hh := hB1; go_must ((with_reducible refine (PL.out _ (box_old hB1)).mono ?_); rintro e w2 ⟨ao, ko, rfl, hso, hPL, hb2⟩; have hB2 := HBN.out _ _ hB1 hb2; dsimp only))
      | (go_at_call 17; go_must ((with_reducible refine CK.out.mono ?_); rintro e w1 ⟨rfl, hb1⟩; have hB1 := HBN.out _ _ hB hb1; (obtain ⟨x0, x1, x2, z0⟩ := HCL.out _ hB1); dsimp only)))
    have hsl := hso.len
    have hs1 := hso.1
    go_loopw [9, 10, 11, 12] (fun vb vo vf i wr => ∃ k : Nat, k ≤ L.length ∧ i = .int .i64 k ∧ BestM w2 h.writers.length vb vo vf (bestTo h k) ∧ Below w2.heap.size w2 wr) (fun _ _ _ i _ => L.length - (intOf i).toNat)
    case atStart => exact ⟨0, Nat.zero_le _, rfl, ⟨rfl, rfl, rfl⟩, Below.refl _ _⟩
    case round =>
      clear x0 x1 x2 z0 hb1
      obtain ⟨k, hk, rfl, hM, hb⟩ := hrel
      have hBr := HBN.out _ _ hB2 hb
      obtain ⟨x0, x1, x2, z0⟩ := HCL.out _ hBr
      by_cases hlt : k < L.length
      · obtain ⟨b, off, vp, eo, hlb, hcp, hpv⟩ := hPL k hlt
        have hst := HST.out k hlt
        have hok := hOK.out k hlt
        have hrw := hpv.rows
        generalize L[k] = p at hst hok hrw hpv
        have hplen := Lib.hid hok.len
        obtain ⟨ap, cp, rfl, hsp, hrc⟩ := hrw
        have r1 := cell_below hb hcp
        have rz := lt_of_cell r1
        have hkk : (k : Int) < ko := by omega
        have DC := Lib.hid (fun (V : World) (hq : Below w2.heap.size w2 V) => DRDoes_any aw ac kw kc h ap p cp V (hm.mono (box_old (HBN.out _ _ hB2 hq))) hv hok hsp (hrc.mono hq))
        have OC := Lib.hid (fun (V : World) (hq : Below w2.heap.size w2 V) => DROver_any aw ac kw kc h ap p cp V (hm.mono (box_old (HBN.out _ _ hB2 hq))) hv hok hsp (hrc.mono hq))
        have HPR : Hid (RowsV w2 (.slice ap p.length cp) p) := Lib.hid ⟨ap, cp, rfl, hsp, hrc⟩
        have hS0 := Lib.hid (fun hd => hst.trans (step_not (h := h) (b := bestTo h k) (p := p) hd))
        have hS1 := Lib.hid (fun hd (e : bestTo h k = none) => hst.trans ((congrArg (fun b => bestStepD h b p) e).trans (step_none (h := h) (p := p) hd)))
        have hS2 := Lib.hid (fun hd q m (e : bestTo h k = some (q, m)) hl => hst.trans ((congrArg (fun b => bestStepD h b p) e).trans (step_less (h := h) (p := p) hd hl)))
        have hS3 := Lib.hid (fun hd q m (e : bestTo h k = some (q, m)) hl => hst.trans ((congrArg (fun b => bestStepD h b p) e).trans (step_more (h := h) (p := p) hd hl)))
        have hS4 := Lib.hid (fun hd q m (e : bestTo h k = some (q, m)) hl => hst.trans ((congrArg (fun b => bestStepD h b p) e).trans (step_same (h := h) (p := p) hd hl)))
        clear hst hPL hpv
        subst eo
        generalize bestTo h k = bk at *
        go_upto_region 10 with (fail)
        apply wp_mid _ (fun V => Below wr.heap.size wr V)
        · (focus go_region_with (go_at_call 43; ((with_reducible refine (DC.out _ (below_drew' hb)).mono ?_); rintro e w3 ⟨rfl, hb3⟩; dsimp only)))
          all_goals exact ⟨rfl, ((by (repeat' (first | assumption | exact Below.refl _ _ | refine below_drew' ?_ | refine Below.setCell ?_ (by first | omega | (simp <;> omega)) _ | refine Below.alloc ?_ (by first | omega | (simp <;> omega)) _))) : Below wr.heap.size wr wr.drew).trans (hb3.mono (Nat.le_refl _))⟩
        intro V hbV
        have hbn := hb.trans (hbV.mono hb.size)
        clear x0 x1 x2 z0 r1 rz
        obtain ⟨x0, x1, x2, z0⟩ := HCL.out _ (HBN.out _ _ hB2 hbn)
        have r1 := cell_below hbn hcp
        have rz := lt_of_cell r1
        generalize deDoes h p = d at hS0 hS1 hS2 hS3 hS4
        by_cases hd : d = 1
        · have e1 := nei_f hd
          replace hS1 := Lib.hid (hS1.out hd)
          replace hS2 := Lib.hid (hS2.out hd)
          replace hS3 := Lib.hid (hS3.out hd)
          replace hS4 := Lib.hid (hS4.out hd)
          clear hS0 hd
          go_upto_region 11 with (fail)
          apply wp_mid _ (fun X => Below V.heap.size V X)
          · (focus go_region_with (go_at_call 44; ((with_reducible refine (OC.out _ (below_drew' hbn)).mono ?_); rintro e w4 ⟨rfl, hb4⟩; dsimp only)))
            all_goals exact ⟨rfl, ((by (repeat' (first | assumption | exact Below.refl _ _ | refine below_drew' ?_ | refine Below.setCell ?_ (by first | omega | (simp <;> omega)) _ | refine Below.alloc ?_ (by first | omega | (simp <;> omega)) _))) : Below V.heap.size V V.drew).trans (hb4.mono (Nat.le_refl _))⟩
          intro X hbX
          have hbxn := hbn.trans (hbX.mono hbn.size)
          clear x0 x1 x2 z0 r1 rz
          have r1 := cell_below hbxn hcp
          have rz := lt_of_cell r1
          generalize deOver h p = n at hS1 hS2 hS3 hS4
          cases bk with
          | none =>
            obtain ⟨rfl, rfl, rfl⟩ := hM
            have hS := Lib.hid (hS1.out rfl)
            go_wp2
            go_roundw
            case rel => exact ⟨k + 1, by omega, by go_num, by rw [hS.out]; exact ⟨rfl, rfl, HPR.out, hplen.out⟩, hbxn⟩
            case measure => simp [intOf]; omega
          | some qm =>
            obtain ⟨q, m⟩ := qm
            obtain ⟨rfl, rfl, ⟨ab, cb, rfl, hsb, hrb⟩, hql⟩ := hM
            have HQL := Lib.hid hql
            have HRQ : Hid (RowsV w2 (.slice ab q.length cb) q) := Lib.hid ⟨ab, cb, rfl, hsb, hrb⟩
            have hqll := hsb.len
            clear hql
            by_cases hlt2 : n < m
            · have hS := Lib.hid (hS2.out q m rfl hlt2)
              go_wp2
              go_roundw
              case rel => exact ⟨k + 1, by omega, by go_num, by rw [hS.out]; exact ⟨rfl, rfl, HPR.out, hplen.out⟩, hbxn⟩
              case measure => simp [intOf]; omega
            · by_cases hgt : m < n
              · have hS := Lib.hid (hS3.out q m rfl hgt)
                have e2 : (n == m) = false := eqi_f (by omega)
                go_wp2
                go_roundw
                case rel => exact ⟨k + 1, by omega, by go_num, by rw [hS.out]; exact ⟨rfl, rfl, HRQ.out, HQL.out⟩, hbxn⟩
                case measure => simp [intOf]; omega
              · obtain rfl : n = m := by omega
                have hS := Lib.hid (hS4.out q n rfl rfl)
                have BF := DRBefore_any ap ab p q cp cb X (by rw [hplen.out, HQL.out]) hsp hsb (hrc.mono hbxn) (hrb.mono hbxn)
                clear hS2 hS3 hS4 hS1 hrc hrb
                generalize beforeD p q = bb at hS BF
                replace BF := Lib.hid BF
                cases bb
                · replace hS := Lib.hid (hS.out.trans (if_neg (by simp)))
                  go_wp2_with (go_at_call 45; go_must ((with_reducible refine BF.out.mono ?_); rintro e w5 ⟨rfl, n5, rfl⟩; have hb5 := hbxn.trans (below_draws w2.heap.size X n5); dsimp only))
                  go_roundw
                  case rel => exact ⟨k + 1, by omega, by go_num, by rw [hS.out]; exact ⟨rfl, rfl, HRQ.out, HQL.out⟩, hb5⟩
                  case measure => simp [intOf]; omega
                · replace hS := Lib.hid (hS.out.trans (if_pos rfl))
                  go_wp2_with (go_at_call 45; go_must ((with_reducible refine BF.out.mono ?_); rintro e w5 ⟨rfl, n5, rfl⟩; have hb5 := hbxn.trans (below_draws w2.heap.size X n5); dsimp only))
                  go_roundw
                  case rel => exact ⟨k + 1, by omega, by go_num, by rw [hS.out]; exact ⟨rfl, rfl, HPR.out, hplen.out⟩, hb5⟩
                  case measure => simp [intOf]; omega
        · have e1 := nei_t hd
          have hS := Lib.hid (hS0.out hd)
          go_wp2
          go_roundw
          case rel => exact ⟨k + 1, by omega, by go_num, by rw [hS.out]; exact hM, hbn⟩
          case measure => simp [intOf]; omega
      · obtain rfl : k = L.length := by omega
        rw [HAL.out] at hM
        cases hb9 : bestD h with
        | none =>
          rw [hb9] at hM
          obtain ⟨rfl, rfl, rfl⟩ := hM
          have hr := HN0.out hb9
          subst hr
          go_wp2
          go_ret3
          exact ⟨.slice none 0 0, rfl, ⟨none, 0, rfl, ⟨by simp, by omega, fun _ => rfl⟩, RowsC.nil _ _⟩, box_old hBr⟩
        | some qm =>
          obtain ⟨q, m⟩ := qm
          rw [hb9] at hM
          obtain ⟨rfl, rfl, hR, hql⟩ := hM
          have hr := HN1.out q m hb9
          subst hr
          go_wp2
          go_ret3
          exact ⟨_, rfl, hR.mono hb, box_old hBr⟩
  · replace HNO := HNO.out her
    have g1 := nei_t her
    clear her HV HN0 HN1
    go_enter Try.func27, Try.ntmps27
    go_wp2_with (go_at_call 17; go_must ((with_reducible refine CK.out.mono ?_); rintro e w1 ⟨rfl, hb1⟩; have hB1 := HBN.out _ _ hB hb1; dsimp only))
    go_ret3
    subst HNO
    exact ⟨.slice none 0 0, rfl, ⟨none, 0, rfl, ⟨by simp, by omega, fun _ => rfl⟩, RowsC.nil _ _⟩, box_old hB1⟩
end Go.Proofs.Ytchnpekgmkhacaa
