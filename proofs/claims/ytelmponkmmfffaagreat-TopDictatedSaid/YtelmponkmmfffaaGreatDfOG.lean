/- What is proved here: what a slice of bytes in memory is, and that it lasts. No condition. -/
/- What is proved here: arguments of the laws of layer 9, opened: a hall, a plan, bytes, numbers in arrays, how a hall is easier. No condition. -/
import Derived.Test.YtelmponkmmfffaaGreatBlkG
import Derived.Test.YtelmponkmmfffaaGreatCmpG
import Derived.Test.YtelmponkmmfffaaGreatDeStandG
import Derived.Test.YtelmponkmmfffaaGreatRows
import Derived.Deep.Matrix
import Derived.OpenShut
import Derived.Test.YtelmponkmmfffaaGreatProg
import Derived.Deep.Slices
import Derived.Deep.Fields
import Derived.ChangeSame
import Derived.SliceStrings
import Derived.Lib.SmallJoins
set_option linter.unusedVariables false
set_option linter.unusedSimpArgs false
namespace Go.Proofs.YtelmponkmmfffaaGreat
open Go Go.RowKit
/-- A slice of bytes, cell by cell. -/
def BytesC (w : World) (a : Option Addr) (l : List Int) : Prop :=
  ∀ i (_ : i < l.length), ∃ b off, a = some ⟨b, off, none⟩ ∧ b < w.heap.size ∧ w.cell? ⟨b, off + i, none⟩ = some (.int .u8 l[i]) ∧ 0 ≤ l[i] ∧ l[i] ≤ 255
theorem BytesC.mono {w W : World} {a : Option Addr} {l : List Int} (h : BytesC w a l) (hb : Below w.heap.size w W) : BytesC W a l := fun i hi => by
  obtain ⟨b, off, e, hlt, hc, h2⟩ := h i hi
  exact ⟨b, off, e, Nat.lt_of_lt_of_le hlt hb.size, cell_below hb hc, h2⟩
end Go.Proofs.YtelmponkmmfffaaGreat
namespace Go.Proofs.YtelmponkmmfffaaGreat
open Go Go.RowKit Go.ChangeShapes Go.WideShapes Go.Deep Go.Joins

section
variable {H : Type} {enc : TypeId × Value → H} {P : Program} {w : World} {base : Nat} {spare : Nat → Bool} {held : Bool}
end
theorem list_of {α : Type} (n : Nat) (p : Nat → α → Prop) (h : ∀ i, i < n → ∃ x, p i x) : ∃ l : List α, l.length = n ∧ ∀ i (hi : i < l.length), p i l[i] := by
  induction n with
  | zero => exact ⟨[], rfl, fun i hi => absurd hi (Nat.not_lt_zero i)⟩
  | succ n ih =>
    obtain ⟨l, hl, hp⟩ := ih fun i hi => h i (by omega)
    obtain ⟨x, hx⟩ := h n (by omega)
    refine ⟨l ++ [x], by simp [hl], fun i hi => ?_⟩
    by_cases e : i < l.length
    · rw [List.getElem_append_left e]; exact hp i e
    · have : i = l.length := by simp at hi; omega
      subst this
      rw [List.getElem_append_right (Nat.le_refl _)]
      simp only [Nat.sub_self, List.getElem_cons_zero]
      rw [hl]
      exact hx
theorem spot_zero {w : World} {a : Addr} {v : Value} (h : w.cell? (a.add 0) = some v) : ∃ b off, a = ⟨b, off, none⟩ := by
  obtain ⟨b, off, spot⟩ := a
  have hs : spot = none := by simpa [Addr.add] using World.cell?_spot h
  exact ⟨b, off, by rw [hs]⟩
theorem add_cell {w : World} {b off k : Nat} {v : Value} (h : w.cell? ((⟨b, off, none⟩ : Addr).add k) = some v) : b < w.heap.size ∧ w.cell? ⟨b, off + k, none⟩ = some v := by
  rw [Addr.add_lit] at h
  exact ⟨lt_of_cell h, h⟩
theorem ML64 : maxLen = 9223372036854775807 := rfl

section
variable {H : Type} {enc : TypeId × Value → H} {w : World} {base : Nat} {spare : Nat → Bool} {held : Bool} {fuel : Nat} {v : Value} {y : DataW H × List MemPlace}
theorem open_str (h : DataW.trod enc Tryz.prog w base spare held fuel 9 [v] = some y) : ∃ s : ByteArray, v = .string s ∧ s.size ≤ 9223372036854775807 := by
  obtain ⟨s, h1, _, h2⟩ := DataW.trod_string Tryz.underlying9 h
  simp at h1
  exact ⟨s, h1, by rw [← ML64]; exact h2⟩
theorem open_int1 (h : DataW.trod enc Tryz.prog w base spare held fuel 3 [v] = some y) : ∃ n : Int, v = .int .i64 n := by
  obtain ⟨n, h1, _⟩ := DataW.trod_int Tryz.underlying3 h
  simp at h1
  exact ⟨n, h1⟩
/-- A slice of structs, element by element, as cells. -/
theorem open_elems {t e : TypeId} {fs : Array Field} {cs : List Value} {x : DataW H × List MemPlace} {C : Nat} (ht : Tryz.prog.underlying t = some (.slice e)) (he : Tryz.prog.underlying e = some (.struct fs))
    (hC : Tryz.prog.cellsOf e = C) (h : DataW.trod enc Tryz.prog w base spare held fuel t cs = some x) :
    cs = [.slice none 0 0] ∨ ∃ (a : Addr) (len cap : Nat), cs = [.slice (some a) len cap] ∧ len ≤ cap ∧ cap ≤ maxLen ∧
      ∀ i, i < len → ∃ (cs' : List Value) (ys : List (DataW H × List MemPlace)) (n : Nat), cs'.length = C ∧ (∀ j, j < C → w.cell? (a.add (i * C + j)) = cs'[j]?) ∧
        ∀ (j : Nat) (f : Field), fs[j]? = some f → ∃ y, DataW.trod enc Tryz.prog w base spare held n f.type ((cs'.drop f.offset).take (Tryz.prog.cellsOf f.type)) = some y := by
  rcases open_slice ht h with h0 | ⟨a, len, cap, m, n, D, Pl, hcs, hb, hl, hm, hmm, hx, hi⟩
  · exact .inl h0.1
  · refine .inr ⟨a, len, cap, hcs, hl, hm, fun i him => ?_⟩
    have him' : i < m := by rw [hmm]; split <;> omega
    obtain ⟨cs', hc, ht'⟩ := hi i him'
    rw [hC] at hc
    obtain ⟨ys, n', hn', hy, hlen, hyl, hf⟩ := DataW.trod_struct he ht'
    obtain ⟨_, hcl, hat⟩ := World.cells?_some hc
    refine ⟨cs', ys, n', hcl, fun j hj => ?_, fun j f hj => ⟨_, (hf j f hj).trans (List.getElem?_eq_getElem (by have := (Array.getElem?_eq_some_iff.1 hj).1; omega))⟩⟩
    rw [← Go.Deep.add_add, hat j hj]
theorem open_span2 {c0 c1 : Value} (h : DataW.trod enc Tryz.prog w base spare held fuel 37 [c0, c1] = some y) : ∃ lo hi : Int, c0 = .int .i64 lo ∧ c1 = .int .i64 hi := by
  obtain ⟨ys, n', hn', hy, hlen, hyl, hf⟩ := DataW.trod_struct Tryz.underlying37 h
  have k1 : Tryz.prog.cellsOf 3 = 1 := by kernel_rfl
  have h0 := hf 0 _ rfl
  have h1 := hf 1 _ rfl
  simp only [List.getElem_toArray, List.getElem_cons_zero, List.getElem_cons_succ] at h0 h1
  rw [k1] at h0 h1
  obtain ⟨lo, e0⟩ := open_int1 (h0.trans (List.getElem?_eq_getElem (by first | omega | (simp at hyl; omega) | (rw [hyl]; decide))))
  obtain ⟨hi, e1⟩ := open_int1 (h1.trans (List.getElem?_eq_getElem (by first | omega | (simp at hyl; omega) | (rw [hyl]; decide))))
  exact ⟨lo, hi, e0, e1⟩
theorem list4 {l : List Value} (h : l.length = 4) : ∃ a b c d, l = [a, b, c, d] := by
  match l, h with
  | [a, b, c, d], _ => exact ⟨a, b, c, d, rfl⟩
theorem list5 {l : List Value} (h : l.length = 5) : ∃ a b c d e, l = [a, b, c, d, e] := by
  match l, h with
  | [a, b, c, d, e], _ => exact ⟨a, b, c, d, e, rfl⟩
set_option maxRecDepth 100000 in
theorem open_writers (h : DataW.trod enc Tryz.prog w base spare held fuel 25 [v] = some y) : ∃ a l c, v = .slice a (l : List DeW).length c ∧ SlOk a l.length c ∧ WritersC w a l ∧ ∀ x ∈ l, x.name.size ≤ 9223372036854775807 := by
  have ks : Tryz.prog.cellsOf 9 = 1 := by kernel_rfl
  have ki : Tryz.prog.cellsOf 3 = 1 := by kernel_rfl
  have kp : Tryz.prog.cellsOf 37 = 2 := by kernel_rfl
  rcases open_elems (C := 4) Tryz.underlying25 Tryz.underlying56 (by kernel_rfl) h with hcs | ⟨x, len, cap, hcs, hl, hm, hf⟩
  · simp at hcs
    exact ⟨none, [], 0, hcs, ⟨Nat.le_refl _, by decide, fun _ => rfl⟩, WritersC.nil _ _, by simp⟩
  · simp at hcs
    obtain ⟨l, hll, hp⟩ := list_of len (fun i (s : DeW) => (∃ b off, x = ⟨b, off, none⟩ ∧ b < w.heap.size ∧ w.cell? ⟨b, off + i * 4, none⟩ = some (.string s.name) ∧ w.cell? ⟨b, off + i * 4 + 1, none⟩ = some (.int .i64 s.kinds) ∧ w.cell? ⟨b, off + i * 4 + 2, none⟩ = some (.int .i64 s.lo) ∧ w.cell? ⟨b, off + i * 4 + 3, none⟩ = some (.int .i64 s.hi)) ∧ s.name.size ≤ 9223372036854775807) (fun i hi => by
      obtain ⟨cs', ys, n, hcl, hat, hfl⟩ := hf i hi
      obtain ⟨q0, q1, q2, q3, rfl⟩ := list4 hcl
      obtain ⟨y0, t0⟩ := hfl 0 _ rfl
      obtain ⟨y1, t1⟩ := hfl 1 _ rfl
      obtain ⟨y2, t2⟩ := hfl 2 _ rfl
      simp only [List.getElem_toArray, List.getElem_cons_zero, List.getElem_cons_succ] at t0 t1 t2
      rw [ks] at t0
      rw [ki] at t1
      rw [kp] at t2
      obtain ⟨s, rfl, hs⟩ := open_str (v := q0) t0
      obtain ⟨z1, rfl⟩ := open_int1 (v := q1) t1
      obtain ⟨z2, z3, rfl, rfl⟩ := open_span2 (c0 := q2) (c1 := q3) t2
      have c0 := hat 0 (by decide)
      have c1 := hat 1 (by decide)
      have c2 := hat 2 (by decide)
      have c3 := hat 3 (by decide)
      obtain ⟨cs9, ys9, n9, hcl9, hat9, -⟩ := hf 0 (by omega)
      obtain ⟨r0, r1, r2, r3, rfl⟩ := list4 hcl9
      obtain ⟨b, off, rfl⟩ := spot_zero (by simpa using hat9 0 (by decide))
      obtain ⟨hb, c0⟩ := add_cell (by simpa using c0)
      rw [Addr.add_lit] at c1 c2 c3
      exact ⟨⟨s, z1, z2, z3⟩, ⟨b, off, rfl, hb, c0, by rw [Nat.add_assoc]; exact c1, by rw [Nat.add_assoc]; exact c2, by rw [Nat.add_assoc]; exact c3⟩, hs⟩)
    refine ⟨some x, l, cap, by rw [hll]; exact hcs, ⟨by omega, by rw [← ML64]; exact hm, fun h => by cases h⟩, fun i hi => ?_, fun s hs => ?_⟩
    · obtain ⟨⟨b, off, e, h1⟩, -⟩ := hp i hi
      exact ⟨b, off, by rw [e], h1⟩
    · obtain ⟨i, hi, rfl⟩ := List.getElem_of_mem hs
      exact (hp i hi).2
set_option maxRecDepth 100000 in
theorem open_custs (h : DataW.trod enc Tryz.prog w base spare held fuel 26 [v] = some y) : ∃ a l c, v = .slice a (l : List DeC).length c ∧ SlOk a l.length c ∧ CustsC w a l ∧ ∀ x ∈ l, x.name.size ≤ 9223372036854775807 := by
  have ks : Tryz.prog.cellsOf 9 = 1 := by kernel_rfl
  have ki : Tryz.prog.cellsOf 3 = 1 := by kernel_rfl
  have kp : Tryz.prog.cellsOf 37 = 2 := by kernel_rfl
  rcases open_elems (C := 5) Tryz.underlying26 Tryz.underlying39 (by kernel_rfl) h with hcs | ⟨x, len, cap, hcs, hl, hm, hf⟩
  · simp at hcs
    exact ⟨none, [], 0, hcs, ⟨Nat.le_refl _, by decide, fun _ => rfl⟩, CustsC.nil _ _, by simp⟩
  · simp at hcs
    obtain ⟨l, hll, hp⟩ := list_of len (fun i (s : DeC) => (∃ b off, x = ⟨b, off, none⟩ ∧ b < w.heap.size ∧ w.cell? ⟨b, off + i * 5, none⟩ = some (.string s.name) ∧ w.cell? ⟨b, off + i * 5 + 1, none⟩ = some (.int .i64 s.kind) ∧ w.cell? ⟨b, off + i * 5 + 2, none⟩ = some (.int .i64 s.lo) ∧ w.cell? ⟨b, off + i * 5 + 3, none⟩ = some (.int .i64 s.hi) ∧ w.cell? ⟨b, off + i * 5 + 4, none⟩ = some (.int .i64 s.ship)) ∧ s.name.size ≤ 9223372036854775807) (fun i hi => by
      obtain ⟨cs', ys, n, hcl, hat, hfl⟩ := hf i hi
      obtain ⟨q0, q1, q2, q3, q4, rfl⟩ := list5 hcl
      obtain ⟨y0, t0⟩ := hfl 0 _ rfl
      obtain ⟨y1, t1⟩ := hfl 1 _ rfl
      obtain ⟨y2, t2⟩ := hfl 2 _ rfl
      obtain ⟨y3, t3⟩ := hfl 3 _ rfl
      simp only [List.getElem_toArray, List.getElem_cons_zero, List.getElem_cons_succ] at t0 t1 t2 t3
      rw [ks] at t0
      rw [ki] at t1 t3
      rw [kp] at t2
      obtain ⟨s, rfl, hs⟩ := open_str (v := q0) t0
      obtain ⟨z1, rfl⟩ := open_int1 (v := q1) t1
      obtain ⟨z2, z3, rfl, rfl⟩ := open_span2 (c0 := q2) (c1 := q3) t2
      obtain ⟨z4, rfl⟩ := open_int1 (v := q4) t3
      have c0 := hat 0 (by decide)
      have c1 := hat 1 (by decide)
      have c2 := hat 2 (by decide)
      have c3 := hat 3 (by decide)
      have c4 := hat 4 (by decide)
      obtain ⟨cs9, ys9, n9, hcl9, hat9, -⟩ := hf 0 (by omega)
      obtain ⟨r0, r1, r2, r3, r4, rfl⟩ := list5 hcl9
      obtain ⟨b, off, rfl⟩ := spot_zero (by simpa using hat9 0 (by decide))
      obtain ⟨hb, c0⟩ := add_cell (by simpa using c0)
      rw [Addr.add_lit] at c1 c2 c3 c4
      exact ⟨⟨s, z1, z2, z3, z4⟩, ⟨b, off, rfl, hb, c0, by rw [Nat.add_assoc]; exact c1, by rw [Nat.add_assoc]; exact c2, by rw [Nat.add_assoc]; exact c3, by rw [Nat.add_assoc]; exact c4⟩, hs⟩)
    refine ⟨some x, l, cap, by rw [hll]; exact hcs, ⟨by omega, by rw [← ML64]; exact hm, fun h => by cases h⟩, fun i hi => ?_, fun s hs => ?_⟩
    · obtain ⟨⟨b, off, e, h1⟩, -⟩ := hp i hi
      exact ⟨b, off, by rw [e], h1⟩
    · obtain ⟨i, hi, rfl⟩ := List.getElem_of_mem hs
      exact (hp i hi).2
end
theorem u8_nat {a : Int} (h : (Lit.int .u8 a).wf = true) : ∃ x : Nat, a = (x : Int) ∧ x ≤ 255 := by
  simp only [Lit.wf, Bool.and_eq_true, decide_eq_true_eq] at h
  have h1 : 0 ≤ a := h.1
  have h2 : a ≤ 255 := h.2
  exact ⟨a.toNat, by omega, by omega⟩
section
variable {H : Type} {enc : TypeId × Value → H} {w : World} {base b0 : Nat} {r : Reach} {spare : Nat → Bool} {held : Bool} {v : Value} {d : DataW H} {p : List MemPlace}
/-- A struct of one-cell fields, by value: its fields, one by one. -/
theorem open_str_any {P : Program} {t : TypeId} {fs : Array Field} (hs : P.underlying t = some (.struct fs)) (hone : oneCellFields P fs = true) (hC : P.cellsOf t = fs.size)
    (hv : Value.okWide P w r b0 t v) (h : DataW.Trod enc P w base spare held t v d p) :
    ∃ cs : Array Value, v = .agg cs ∧ cs.size = fs.size ∧ ∀ (j : Nat) (f : Field), fs[j]? = some f → ∃ (u : Value) (y : DataW H × List MemPlace) (n : Nat), cs[j]? = some u ∧ DataW.trod enc P w base spare held n f.type [u] = some y := by
  obtain ⟨cs, rfl, hsz⟩ := okWide_struct hs hv
  obtain ⟨fuel, hf⟩ := h
  rw [hC] at hsz
  obtain ⟨ys, n', hn', hy, hlen, hyl, hf⟩ := DataW.trod_struct hs hf
  refine ⟨cs, rfl, hsz, fun j f hj => ?_⟩
  obtain ⟨ho, hk⟩ := hone_of hone j f hj
  have hjl : j < fs.size := (Array.getElem?_eq_some_iff.1 hj).1
  have h1 := hf j f hj
  rw [ho, hk] at h1
  have ec : (Value.agg cs).cells.toList = cs.toList := rfl
  rw [ec] at h1
  have hcl : cs.toList.length = fs.size := hsz
  have hjc : j < cs.toList.length := by omega
  have hone' : (cs.toList.drop j).take 1 = [cs.toList[j]] := by
    rw [List.drop_eq_getElem_cons hjc]
    rfl
  rw [hone'] at h1
  have hys : ys[j]? = some (ys[j]'(by omega)) := List.getElem?_eq_getElem (by omega)
  refine ⟨cs.toList[j], _, _, ?_, h1.trans hys⟩
  rw [← Array.getElem?_toList]
  exact List.getElem?_eq_getElem hjc
theorem open_bytes1 {fuel : Nat} {y : DataW H × List MemPlace} (h : DataW.trod enc Tryz.prog w base spare held fuel 29 [v] = some y) : ∃ a l c, v = .slice a (l : List Int).length c ∧ SlOk a l.length c ∧ BytesC w a l ∧ ∀ x ∈ l, 0 ≤ x ∧ x ≤ 255 := by
  rcases open_ints Tryz.underlying29 Tryz.underlying5 (by kernel_rfl) h with ⟨hcs, _⟩ | ⟨x, len, cap, zs, hcs, _, hl, hm, hz, _, hcell, hwz⟩
  · simp at hcs
    exact ⟨none, [], 0, hcs, ⟨Nat.le_refl _, by decide, fun _ => rfl⟩, fun i hi => absurd hi (Nat.not_lt_zero i), by simp⟩
  · simp at hcs
    have hle : len ≤ zs.length := by rw [hz]; split <;> omega
    have hlen : (zs.take len).length = len := by simp; omega
    have hb : ∀ x ∈ zs.take len, 0 ≤ x ∧ x ≤ 255 := fun x hx => by
      obtain ⟨y, rfl, hy⟩ := u8_nat (hwz x (List.mem_of_mem_take hx))
      omega
    refine ⟨some x, zs.take len, cap, by rw [hlen]; exact hcs, ⟨by omega, by rw [← ML64]; exact hm, fun h => by cases h⟩, fun i hi => ?_, hb⟩
    have hi2 : i < zs.length := by omega
    obtain ⟨b, off, rfl⟩ := spot_zero (hcell 0 (by omega))
    obtain ⟨hb2, hc⟩ := add_cell (hcell i hi2)
    have hx := hb _ (List.getElem_mem hi)
    refine ⟨b, off, rfl, hb2, hc.trans ?_, hx.1, hx.2⟩
    simp [List.getD_eq_getElem?_getD, hi2]
set_option maxRecDepth 100000 in
theorem slice_cells {t e : TypeId} (ht : Tryz.prog.underlying t = some (.slice e)) (hv : Value.okWide Tryz.prog w r b0 t v) (h : DataW.Trod enc Tryz.prog w base spare held t v d p) : ∃ fuel, DataW.trod enc Tryz.prog w base spare held fuel t [v] = some (d, p) := by
  obtain ⟨a, len, cap, rfl⟩ := okWide_slice ht hv
  obtain ⟨fuel, hf⟩ := h
  exact ⟨fuel, hf⟩
set_option maxRecDepth 100000 in
theorem open_bytes (hv : Value.okWide Tryz.prog w r b0 29 v) (h : DataW.Trod enc Tryz.prog w base spare held 29 v d p) : ∃ a l c, v = .slice a (l : List Int).length c ∧ SlOk a l.length c ∧ BytesC w a l ∧ ∀ x ∈ l, 0 ≤ x ∧ x ≤ 255 := by
  obtain ⟨fuel, hf⟩ := slice_cells Tryz.underlying29 hv h
  exact open_bytes1 hf
set_option maxRecDepth 100000 in
/-- A hall that came in. -/
theorem open_hall (hv : Value.okWide Tryz.prog w r b0 28 v) (h : DataW.Trod enc Tryz.prog w base spare held 28 v d p) :
    ∃ aw ac kw kc m, v = hallV aw ac kw kc m ∧ HallC w aw ac kw kc m := by
  obtain ⟨cs, rfl, hsz, hf⟩ := open_str_any Tryz.underlying28 (by kernel_rfl) (by kernel_rfl) hv h
  obtain ⟨u0, y0, m0, c0, t0⟩ := hf 0 _ rfl
  obtain ⟨u1, y1, m1, c1, t1⟩ := hf 1 _ rfl
  obtain ⟨u2, y2, m2, c2, t2⟩ := hf 2 _ rfl
  obtain ⟨wax, rfl⟩ := open_int1 t0
  obtain ⟨aw, lw, kw, rfl, o1, h1, s1⟩ := open_writers t1
  obtain ⟨ac, lc, kc, rfl, o2, h2, s2⟩ := open_custs t2
  refine ⟨aw, ac, kw, kc, ⟨wax, lw, lc⟩, ?_, o1, o2, h1, h2, s1, s2⟩
  unfold hallV
  congr 1
  apply Array.ext_getElem?
  intro i
  by_cases hi : i < 3
  · have hc : i = 0 ∨ i = 1 ∨ i = 2 := by omega
    rcases hc with rfl | rfl | rfl
    all_goals assumption
  · rw [Array.getElem?_eq_none (by rw [hsz]; exact Nat.le_of_not_lt hi), Array.getElem?_eq_none (by simp; omega)]
end
end Go.Proofs.YtelmponkmmfffaaGreat
