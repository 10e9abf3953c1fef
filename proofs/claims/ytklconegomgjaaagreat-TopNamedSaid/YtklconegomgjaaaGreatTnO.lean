/- What is proved here: TopNamed's arguments, opened: a town, two bytes. No condition. Printed by wip/gentno.py. -/
import Derived.Test.YtklconegomgjaaaGreatPnBaseG
import Derived.Deep.Matrix
import Derived.OpenShut
import Derived.Test.YtklconegomgjaaaGreatProg
import Derived.Deep.Slices
import Derived.Deep.Fields
import Derived.ChangeSame
import Derived.SliceStrings
import Derived.Lib.SmallJoins
set_option linter.unusedVariables false
set_option linter.unusedSimpArgs false
namespace Go.Proofs.YtklconegomgjaaaGreat
open Go Go.RowKit Go.ChangeShapes Go.WideShapes Go.Deep Go.Joins

theorem listN_of {α : Type} (n : Nat) (p : Nat → α → Prop) (h : ∀ i, i < n → ∃ x, p i x) : ∃ l : List α, l.length = n ∧ ∀ i (hi : i < l.length), p i l[i] := by
  induction n with
  | zero => exact ⟨[], rfl, fun i hi => absurd hi (Nat.not_lt_zero i)⟩
  | succ n ih =>
    obtain ⟨l, hl, hp⟩ := ih fun i hi => h i (by omega)
    obtain ⟨x, hx⟩ := h n (by omega)
    refine ⟨l ++ [x], by simp [hl], fun i hi => ?_⟩
    by_cases e : i < l.length
    · rw [List.getElem_append_left e]; exact hp i e
    · have : i = l.length := by simp at hi; omega
      subst this
      rw [List.getElem_append_right (Nat.le_refl _)]
      simp only [Nat.sub_self, List.getElem_cons_zero]
      rw [hl]
      exact hx
theorem spotN_zero {w : World} {a : Addr} {v : Value} (h : w.cell? (a.add 0) = some v) : ∃ b off, a = ⟨b, off, none⟩ := by
  obtain ⟨b, off, spot⟩ := a
  have hs : spot = none := by simpa [Addr.add] using World.cell?_spot h
  exact ⟨b, off, by rw [hs]⟩
theorem addN_cell {w : World} {b off k : Nat} {v : Value} (h : w.cell? ((⟨b, off, none⟩ : Addr).add k) = some v) : b < w.heap.size ∧ w.cell? ⟨b, off + k, none⟩ = some v := by
  rw [Addr.add_lit] at h
  exact ⟨lt_of_cell h, h⟩
theorem ML64N : maxLen = 9223372036854775807 := rfl

theorem sized {n : Nat} (cs : Array Value) (h : cs.size = n) : cs.toList.length = n := h
theorem okWide_arr {P : Program} {w : World} {r : Reach} {base n : Nat} {t e : TypeId} {v : Value} (ht : P.underlying t = some (.array n e)) (h : Value.okWide P w r base t v) : ∃ cs, v = .agg cs ∧ cs.size = P.cellsOf t := by
  simp only [Value.okWide, ht] at h
  obtain ⟨cs, h1, h2, _⟩ := h
  exact ⟨cs, h1, h2⟩
theorem u8_nat {a : Int} (h : (Lit.int .u8 a).wf = true) : ∃ x : Nat, a = (x : Int) ∧ x ≤ 255 := by
  simp only [Lit.wf, Bool.and_eq_true, decide_eq_true_eq] at h
  have h1 : 0 ≤ a := h.1
  have h2 : a ≤ 255 := h.2
  exact ⟨a.toNat, by omega, by omega⟩
section
variable {H : Type} {enc : TypeId × Value → H} {w : World} {base : Nat} {spare : Nat → Bool} {held : Bool} {fuel : Nat} {v : Value} {y : DataW H × List MemPlace}
theorem openN_str (h : DataW.trod enc Tryz.prog w base spare held fuel 9 [v] = some y) : ∃ s : ByteArray, v = .string s ∧ s.size ≤ 9223372036854775807 := by
  obtain ⟨s, h1, _, h2⟩ := DataW.trod_string Tryz.underlying9 h
  simp at h1
  exact ⟨s, h1, by rw [← ML64N]; exact h2⟩
theorem openN_int1 (h : DataW.trod enc Tryz.prog w base spare held fuel 3 [v] = some y) : ∃ n : Int, v = .int .i64 n := by
  obtain ⟨n, h1, _⟩ := DataW.trod_int Tryz.underlying3 h
  simp at h1
  exact ⟨n, h1⟩
theorem openN_bool1 (h : DataW.trod enc Tryz.prog w base spare held fuel 4 [v] = some y) : ∃ b : Bool, v = .bool b := by
  obtain ⟨n, h1, _⟩ := DataW.trod_bool Tryz.underlying4 h
  simp at h1
  exact ⟨n, h1⟩
/-- A slice of structs, element by element, as cells. -/
theorem open_elems {t e : TypeId} {fs : Array Field} {cs : List Value} {x : DataW H × List MemPlace} {C : Nat} (ht : Tryz.prog.underlying t = some (.slice e)) (he : Tryz.prog.underlying e = some (.struct fs))
    (hC : Tryz.prog.cellsOf e = C) (h : DataW.trod enc Tryz.prog w base spare held fuel t cs = some x) :
    cs = [.slice none 0 0] ∨ ∃ (a : Addr) (len cap : Nat), cs = [.slice (some a) len cap] ∧ len ≤ cap ∧ cap ≤ maxLen ∧
      ∀ i, i < len → ∃ (cs' : List Value) (ys : List (DataW H × List MemPlace)) (n : Nat), cs'.length = C ∧ (∀ j, j < C → w.cell? (a.add (i * C + j)) = cs'[j]?) ∧
        ∀ (j : Nat) (f : Field), fs[j]? = some f → ∃ y, DataW.trod enc Tryz.prog w base spare held n f.type ((cs'.drop f.offset).take (Tryz.prog.cellsOf f.type)) = some y := by
  rcases open_slice ht h with h0 | ⟨a, len, cap, m, n, D, Pl, hcs, hb, hl, hm, hmm, hx, hi⟩
  · exact .inl h0.1
  · refine .inr ⟨a, len, cap, hcs, hl, hm, fun i him => ?_⟩
    have him' : i < m := by rw [hmm]; split <;> omega
    obtain ⟨cs', hc, ht'⟩ := hi i him'
    rw [hC] at hc
    obtain ⟨ys, n', hn', hy, hlen, hyl, hf⟩ := DataW.trod_struct he ht'
    obtain ⟨_, hcl, hat⟩ := World.cells?_some hc
    refine ⟨cs', ys, n', hcl, fun j hj => ?_, fun j f hj => ⟨_, (hf j f hj).trans (List.getElem?_eq_getElem (by have := (Array.getElem?_eq_some_iff.1 hj).1; omega))⟩⟩
    rw [← Go.Deep.add_add, hat j hj]
theorem open_span2 {c0 c1 : Value} (h : DataW.trod enc Tryz.prog w base spare held fuel 36 [c0, c1] = some y) : ∃ lo hi : Int, c0 = .int .i64 lo ∧ c1 = .int .i64 hi := by
  obtain ⟨ys, n', hn', hy, hlen, hyl, hf⟩ := DataW.trod_struct Tryz.underlying36 h
  have k1 : Tryz.prog.cellsOf 3 = 1 := by kernel_rfl
  have h0 := hf 0 _ rfl
  have h1 := hf 1 _ rfl
  simp only [List.getElem_toArray, List.getElem_cons_zero, List.getElem_cons_succ] at h0 h1
  rw [k1] at h0 h1
  obtain ⟨lo, e0⟩ := openN_int1 (h0.trans (List.getElem?_eq_getElem (by first | omega | (simp at hyl; omega) | (rw [hyl]; decide))))
  obtain ⟨hi, e1⟩ := openN_int1 (h1.trans (List.getElem?_eq_getElem (by first | omega | (simp at hyl; omega) | (rw [hyl]; decide))))
  exact ⟨lo, hi, e0, e1⟩
theorem list2 {l : List Value} (h : l.length = 2) : ∃ a b, l = [a, b] := by
  match l, h with
  | [a, b], _ => exact ⟨a, b, rfl⟩
theorem list3 {l : List Value} (h : l.length = 3) : ∃ a b c, l = [a, b, c] := by
  match l, h with
  | [a, b, c], _ => exact ⟨a, b, c, rfl⟩
theorem list6 {l : List Value} (h : l.length = 6) : ∃ a b c d e f, l = [a, b, c, d, e, f] := by
  match l, h with
  | [a, b, c, d, e, f], _ => exact ⟨a, b, c, d, e, f, rfl⟩
theorem list5 {l : List Value} (h : l.length = 5) : ∃ a b c d e, l = [a, b, c, d, e] := by
  match l, h with
  | [a, b, c, d, e], _ => exact ⟨a, b, c, d, e, rfl⟩
theorem open_u8 {u : Value} (h : DataW.trod enc Tryz.prog w base spare held fuel 5 [u] = some y) : ∃ n : Nat, u = .int .u8 (n : Int) ∧ n ≤ 255 := by
  obtain ⟨n, h1, _, h2⟩ := DataW.trod_int Tryz.underlying5 h
  simp at h1
  obtain ⟨x, rfl, hx⟩ := u8_nat h2
  exact ⟨x, h1, hx⟩
set_option maxRecDepth 100000 in
theorem open_lettersL (h : DataW.trod enc Tryz.prog w base spare held fuel 128 [v] = some y) : ∃ a l c, v = .slice a (l : List EaL).length c ∧ SlOk a l.length c ∧ EaLettersC w a l ∧ ∀ s ∈ l, 0 ≤ s.letter ∧ s.letter ≤ 255 := by
  have kb : Tryz.prog.cellsOf 4 = 1 := by kernel_rfl
  have ki : Tryz.prog.cellsOf 3 = 1 := by kernel_rfl
  have ku : Tryz.prog.cellsOf 5 = 1 := by kernel_rfl
  rcases open_elems (C := 3) Tryz.underlying128 Tryz.underlying137 (by kernel_rfl) h with hcs | ⟨x, len, cap, hcs, hl, hm, hf⟩
  · simp at hcs
    exact ⟨none, [], 0, hcs, ⟨Nat.le_refl _, by decide, fun _ => rfl⟩, fun i hi => absurd hi (Nat.not_lt_zero i), by simp⟩
  · simp at hcs
    obtain ⟨l, hll, hp⟩ := listN_of len (fun i (s : EaL) => (∃ b off, x = ⟨b, off, none⟩ ∧ b < w.heap.size ∧ w.cell? ⟨b, off + i * 3, none⟩ = some (.int .u8 s.letter) ∧ w.cell? ⟨b, off + i * 3 + 1, none⟩ = some (.int .i64 s.sounds) ∧ w.cell? ⟨b, off + i * 3 + 2, none⟩ = some (.bool s.silent)) ∧ 0 ≤ s.letter ∧ s.letter ≤ 255) (fun i hi => by
      obtain ⟨cs', ys, n, hcl, hat, hfl⟩ := hf i hi
      obtain ⟨q0, q1, q2, rfl⟩ := list3 hcl
      obtain ⟨y0, t0⟩ := hfl 0 _ rfl
      obtain ⟨y1, t1⟩ := hfl 1 _ rfl
      obtain ⟨y2, t2⟩ := hfl 2 _ rfl
      simp only [List.getElem_toArray, List.getElem_cons_zero, List.getElem_cons_succ] at t0 t1 t2
      rw [kb] at t2
      rw [ki] at t1
      rw [ku] at t0
      obtain ⟨z0, rfl, hz0⟩ := open_u8 (u := q0) t0
      obtain ⟨z1, rfl⟩ := openN_int1 (v := q1) t1
      obtain ⟨z2, rfl⟩ := openN_bool1 (v := q2) t2
      have c0 := hat 0 (by decide)
      have c1 := hat 1 (by decide)
      have c2 := hat 2 (by decide)
      obtain ⟨cs9, ys9, n9, hcl9, hat9, -⟩ := hf 0 (by omega)
      obtain ⟨r0, r1, r2, rfl⟩ := list3 hcl9
      obtain ⟨b, off, rfl⟩ := spotN_zero (by simpa using hat9 0 (by decide))
      obtain ⟨hb, c0⟩ := addN_cell (by simpa using c0)
      rw [Addr.add_lit] at c1 c2
      exact ⟨⟨(z0 : Int), z1, z2⟩, ⟨b, off, rfl, hb, c0, by rw [Nat.add_assoc]; exact c1, by rw [Nat.add_assoc]; exact c2⟩, by simp, by show ((z0 : Nat) : Int) ≤ 255; omega⟩)
    refine ⟨some x, l, cap, by rw [hll]; exact hcs, ⟨by omega, by rw [← ML64N]; exact hm, fun h => by cases h⟩, fun i hi => ?_, fun s hs => ?_⟩
    · obtain ⟨⟨b, off, e, h1⟩, -⟩ := hp i hi
      exact ⟨b, off, by rw [e], h1⟩
    · obtain ⟨i, hi, rfl⟩ := List.getElem_of_mem hs
      exact (hp i hi).2
set_option maxRecDepth 100000 in
theorem open_alphasT (h : DataW.trod enc Tryz.prog w base spare held fuel 22 [v] = some y) : ∃ a l c, v = .slice a (l : List EaA).length c ∧ SlOk a l.length c ∧ EaAlphasC w a l ∧ ∀ s ∈ l, s.name.size ≤ 9223372036854775807 ∧ ∀ x ∈ s.letters, 0 ≤ x.letter ∧ x.letter ≤ 255 := by
  have kL : Tryz.prog.cellsOf 128 = 1 := by kernel_rfl
  have ks : Tryz.prog.cellsOf 9 = 1 := by kernel_rfl
  rcases open_elems (C := 2) Tryz.underlying22 Tryz.underlying130 (by kernel_rfl) h with hcs | ⟨x, len, cap, hcs, hl, hm, hf⟩
  · simp at hcs
    exact ⟨none, [], 0, hcs, ⟨Nat.le_refl _, by decide, fun _ => rfl⟩, fun i hi => absurd hi (Nat.not_lt_zero i), by simp⟩
  · simp at hcs
    obtain ⟨l, hll, hp⟩ := listN_of len (fun i (s : EaA) => (∃ b off, x = ⟨b, off, none⟩ ∧ b < w.heap.size ∧ w.cell? ⟨b, off + i * 2, none⟩ = some (.string s.name) ∧ ∃ al cl, w.cell? ⟨b, off + i * 2 + 1, none⟩ = some (.slice al s.letters.length cl) ∧ SlOk al s.letters.length cl ∧ EaLettersC w al s.letters) ∧ s.name.size ≤ 9223372036854775807 ∧ ∀ x ∈ s.letters, 0 ≤ x.letter ∧ x.letter ≤ 255) (fun i hi => by
      obtain ⟨cs', ys, n, hcl, hat, hfl⟩ := hf i hi
      obtain ⟨q0, q1, rfl⟩ := list2 hcl
      obtain ⟨y0, t0⟩ := hfl 0 _ rfl
      obtain ⟨y1, t1⟩ := hfl 1 _ rfl
      simp only [List.getElem_toArray, List.getElem_cons_zero, List.getElem_cons_succ] at t0 t1
      rw [kL] at t1
      rw [ks] at t0
      obtain ⟨z0, rfl, hz0⟩ := openN_str (v := q0) t0
      obtain ⟨al, z1, cl, rfl, hok, hlc, hz1⟩ := open_lettersL (v := q1) t1
      have c0 := hat 0 (by decide)
      have c1 := hat 1 (by decide)
      obtain ⟨cs9, ys9, n9, hcl9, hat9, -⟩ := hf 0 (by omega)
      obtain ⟨r0, r1, rfl⟩ := list2 hcl9
      obtain ⟨b, off, rfl⟩ := spotN_zero (by simpa using hat9 0 (by decide))
      obtain ⟨hb, c0⟩ := addN_cell (by simpa using c0)
      rw [Addr.add_lit] at c1
      exact ⟨⟨z0, z1⟩, ⟨b, off, rfl, hb, c0, al, cl, by rw [Nat.add_assoc]; exact c1, hok, hlc⟩, hz0, hz1⟩)
    refine ⟨some x, l, cap, by rw [hll]; exact hcs, ⟨by omega, by rw [← ML64N]; exact hm, fun h => by cases h⟩, fun i hi => ?_, fun s hs => ?_⟩
    · obtain ⟨⟨b, off, e, h1⟩, -⟩ := hp i hi
      exact ⟨b, off, by rw [e], h1⟩
    · obtain ⟨i, hi, rfl⟩ := List.getElem_of_mem hs
      exact (hp i hi).2
set_option maxRecDepth 100000 in
theorem open_spellsT (h : DataW.trod enc Tryz.prog w base spare held fuel 23 [v] = some y) : ∃ a l c, v = .slice a (l : List EaS).length c ∧ SlOk a l.length c ∧ EaSpellsC w a l ∧ ∀ s ∈ l, s.text.size ≤ 9223372036854775807 := by
  have ki : Tryz.prog.cellsOf 3 = 1 := by kernel_rfl
  have ks : Tryz.prog.cellsOf 9 = 1 := by kernel_rfl
  rcases open_elems (C := 2) Tryz.underlying23 Tryz.underlying134 (by kernel_rfl) h with hcs | ⟨x, len, cap, hcs, hl, hm, hf⟩
  · simp at hcs
    exact ⟨none, [], 0, hcs, ⟨Nat.le_refl _, by decide, fun _ => rfl⟩, fun i hi => absurd hi (Nat.not_lt_zero i), by simp⟩
  · simp at hcs
    obtain ⟨l, hll, hp⟩ := listN_of len (fun i (s : EaS) => (∃ b off, x = ⟨b, off, none⟩ ∧ b < w.heap.size ∧ w.cell? ⟨b, off + i * 2, none⟩ = some (.int .i64 s.alpha) ∧ w.cell? ⟨b, off + i * 2 + 1, none⟩ = some (.string s.text)) ∧ s.text.size ≤ 9223372036854775807) (fun i hi => by
      obtain ⟨cs', ys, n, hcl, hat, hfl⟩ := hf i hi
      obtain ⟨q0, q1, rfl⟩ := list2 hcl
      obtain ⟨y0, t0⟩ := hfl 0 _ rfl
      obtain ⟨y1, t1⟩ := hfl 1 _ rfl
      simp only [List.getElem_toArray, List.getElem_cons_zero, List.getElem_cons_succ] at t0 t1
      rw [ki] at t0
      rw [ks] at t1
      obtain ⟨z0, rfl⟩ := openN_int1 (v := q0) t0
      obtain ⟨z1, rfl, hz1⟩ := openN_str (v := q1) t1
      have c0 := hat 0 (by decide)
      have c1 := hat 1 (by decide)
      obtain ⟨cs9, ys9, n9, hcl9, hat9, -⟩ := hf 0 (by omega)
      obtain ⟨r0, r1, rfl⟩ := list2 hcl9
      obtain ⟨b, off, rfl⟩ := spotN_zero (by simpa using hat9 0 (by decide))
      obtain ⟨hb, c0⟩ := addN_cell (by simpa using c0)
      rw [Addr.add_lit] at c1
      exact ⟨⟨z0, z1⟩, ⟨b, off, rfl, hb, c0, by rw [Nat.add_assoc]; exact c1⟩, hz1⟩)
    refine ⟨some x, l, cap, by rw [hll]; exact hcs, ⟨by omega, by rw [← ML64N]; exact hm, fun h => by cases h⟩, fun i hi => ?_, fun s hs => ?_⟩
    · obtain ⟨⟨b, off, e, h1⟩, -⟩ := hp i hi
      exact ⟨b, off, by rw [e], h1⟩
    · obtain ⟨i, hi, rfl⟩ := List.getElem_of_mem hs
      exact (hp i hi).2
set_option maxRecDepth 100000 in
theorem open_mentsT (h : DataW.trod enc Tryz.prog w base spare held fuel 26 [v] = some y) : ∃ a l c, v = .slice a (l : List PeM).length c ∧ SlOk a l.length c ∧ PeMentsC w a l ∧ ∀ s ∈ l, True := by
  have ki : Tryz.prog.cellsOf 3 = 1 := by kernel_rfl
  have kp : Tryz.prog.cellsOf 36 = 2 := by kernel_rfl
  rcases open_elems (C := 5) Tryz.underlying26 Tryz.underlying38 (by kernel_rfl) h with hcs | ⟨x, len, cap, hcs, hl, hm, hf⟩
  · simp at hcs
    exact ⟨none, [], 0, hcs, ⟨Nat.le_refl _, by decide, fun _ => rfl⟩, fun i hi => absurd hi (Nat.not_lt_zero i), by simp⟩
  · simp at hcs
    obtain ⟨l, hll, hp⟩ := listN_of len (fun i (s : PeM) => (∃ b off, x = ⟨b, off, none⟩ ∧ b < w.heap.size ∧ w.cell? ⟨b, off + i * 5, none⟩ = some (.int .i64 s.spell) ∧ w.cell? ⟨b, off + i * 5 + 1, none⟩ = some (.int .i64 s.vill) ∧ w.cell? ⟨b, off + i * 5 + 2, none⟩ = some (.int .i64 s.lo) ∧ w.cell? ⟨b, off + i * 5 + 3, none⟩ = some (.int .i64 s.hi) ∧ w.cell? ⟨b, off + i * 5 + 4, none⟩ = some (.int .i64 s.par)) ∧ True) (fun i hi => by
      obtain ⟨cs', ys, n, hcl, hat, hfl⟩ := hf i hi
      obtain ⟨q0, q1, q2, q3, q4, rfl⟩ := list5 hcl
      obtain ⟨y0, t0⟩ := hfl 0 _ rfl
      obtain ⟨y1, t1⟩ := hfl 1 _ rfl
      obtain ⟨y2, t2⟩ := hfl 2 _ rfl
      obtain ⟨y3, t3⟩ := hfl 3 _ rfl
      simp only [List.getElem_toArray, List.getElem_cons_zero, List.getElem_cons_succ] at t0 t1 t2 t3
      rw [ki] at t0 t1 t3
      rw [kp] at t2
      obtain ⟨z0, rfl⟩ := openN_int1 (v := q0) t0
      obtain ⟨z1, rfl⟩ := openN_int1 (v := q1) t1
      obtain ⟨z2, z3, rfl, rfl⟩ := open_span2 (c0 := q2) (c1 := q3) t2
      obtain ⟨z4, rfl⟩ := openN_int1 (v := q4) t3
      have c0 := hat 0 (by decide)
      have c1 := hat 1 (by decide)
      have c2 := hat 2 (by decide)
      have c3 := hat 3 (by decide)
      have c4 := hat 4 (by decide)
      obtain ⟨cs9, ys9, n9, hcl9, hat9, -⟩ := hf 0 (by omega)
      obtain ⟨r0, r1, r2, r3, r4, rfl⟩ := list5 hcl9
      obtain ⟨b, off, rfl⟩ := spotN_zero (by simpa using hat9 0 (by decide))
      obtain ⟨hb, c0⟩ := addN_cell (by simpa using c0)
      rw [Addr.add_lit] at c1 c2 c3 c4
      exact ⟨⟨z0, z1, z2, z3, z4⟩, ⟨b, off, rfl, hb, c0, by rw [Nat.add_assoc]; exact c1, by rw [Nat.add_assoc]; exact c2, by rw [Nat.add_assoc]; exact c3, by rw [Nat.add_assoc]; exact c4⟩, trivial⟩)
    refine ⟨some x, l, cap, by rw [hll]; exact hcs, ⟨by omega, by rw [← ML64N]; exact hm, fun h => by cases h⟩, fun i hi => ?_, fun s hs => ?_⟩
    · obtain ⟨⟨b, off, e, h1⟩, -⟩ := hp i hi
      exact ⟨b, off, by rw [e], h1⟩
    · obtain ⟨i, hi, rfl⟩ := List.getElem_of_mem hs
      exact (hp i hi).2
set_option maxRecDepth 100000 in
theorem open_tiesT (h : DataW.trod enc Tryz.prog w base spare held fuel 27 [v] = some y) : ∃ a l c, v = .slice a (l : List PeT).length c ∧ SlOk a l.length c ∧ PeTiesC w a l ∧ ∀ s ∈ l, True := by
  have kb : Tryz.prog.cellsOf 4 = 1 := by kernel_rfl
  have ki : Tryz.prog.cellsOf 3 = 1 := by kernel_rfl
  rcases open_elems (C := 3) Tryz.underlying27 Tryz.underlying44 (by kernel_rfl) h with hcs | ⟨x, len, cap, hcs, hl, hm, hf⟩
  · simp at hcs
    exact ⟨none, [], 0, hcs, ⟨Nat.le_refl _, by decide, fun _ => rfl⟩, fun i hi => absurd hi (Nat.not_lt_zero i), by simp⟩
  · simp at hcs
    obtain ⟨l, hll, hp⟩ := listN_of len (fun i (s : PeT) => (∃ b off, x = ⟨b, off, none⟩ ∧ b < w.heap.size ∧ w.cell? ⟨b, off + i * 3, none⟩ = some (.int .i64 s.a) ∧ w.cell? ⟨b, off + i * 3 + 1, none⟩ = some (.int .i64 s.b) ∧ w.cell? ⟨b, off + i * 3 + 2, none⟩ = some (.bool s.same)) ∧ True) (fun i hi => by
      obtain ⟨cs', ys, n, hcl, hat, hfl⟩ := hf i hi
      obtain ⟨q0, q1, q2, rfl⟩ := list3 hcl
      obtain ⟨y0, t0⟩ := hfl 0 _ rfl
      obtain ⟨y1, t1⟩ := hfl 1 _ rfl
      obtain ⟨y2, t2⟩ := hfl 2 _ rfl
      simp only [List.getElem_toArray, List.getElem_cons_zero, List.getElem_cons_succ] at t0 t1 t2
      rw [kb] at t2
      rw [ki] at t0 t1
      obtain ⟨z0, rfl⟩ := openN_int1 (v := q0) t0
      obtain ⟨z1, rfl⟩ := openN_int1 (v := q1) t1
      obtain ⟨z2, rfl⟩ := openN_bool1 (v := q2) t2
      have c0 := hat 0 (by decide)
      have c1 := hat 1 (by decide)
      have c2 := hat 2 (by decide)
      obtain ⟨cs9, ys9, n9, hcl9, hat9, -⟩ := hf 0 (by omega)
      obtain ⟨r0, r1, r2, rfl⟩ := list3 hcl9
      obtain ⟨b, off, rfl⟩ := spotN_zero (by simpa using hat9 0 (by decide))
      obtain ⟨hb, c0⟩ := addN_cell (by simpa using c0)
      rw [Addr.add_lit] at c1 c2
      exact ⟨⟨z0, z1, z2⟩, ⟨b, off, rfl, hb, c0, by rw [Nat.add_assoc]; exact c1, by rw [Nat.add_assoc]; exact c2⟩, trivial⟩)
    refine ⟨some x, l, cap, by rw [hll]; exact hcs, ⟨by omega, by rw [← ML64N]; exact hm, fun h => by cases h⟩, fun i hi => ?_, fun s hs => ?_⟩
    · obtain ⟨⟨b, off, e, h1⟩, -⟩ := hp i hi
      exact ⟨b, off, by rw [e], h1⟩
    · obtain ⟨i, hi, rfl⟩ := List.getElem_of_mem hs
      exact (hp i hi).2
end
section
variable {H : Type} {enc : TypeId × Value → H} {w : World} {base b0 : Nat} {r : Reach} {spare : Nat → Bool} {held : Bool} {v : Value} {d : DataW H} {p : List MemPlace}
/-- An array of one-cell elements, by value. -/
theorem open_arr_any {P : Program} {t e : TypeId} {n : Nat} (hs : P.underlying t = some (.array n e)) (hce : P.cellsOf e = 1) (hC : P.cellsOf t = n)
    (hv : Value.okWide P w r b0 t v) (h : DataW.Trod enc P w base spare held t v d p) :
    ∃ cs : Array Value, v = .agg cs ∧ cs.size = n ∧ ∀ (j : Nat), j < n → ∃ (u : Value) (y : DataW H × List MemPlace) (m : Nat), cs[j]? = some u ∧ DataW.trod enc P w base spare held m e [u] = some y := by
  obtain ⟨cs, rfl, hsz⟩ := okWide_arr hs hv
  obtain ⟨fuel, hf⟩ := h
  rw [hC] at hsz
  obtain ⟨ys, m, hn', hy, hlen, hyl, hf⟩ := DataW.trod_array hs hf
  refine ⟨cs, rfl, hsz, fun j hj => ?_⟩
  have h1 := hf j hj
  rw [hce, Nat.mul_one] at h1
  have ec : (Value.agg cs).cells.toList = cs.toList := rfl
  rw [ec] at h1
  have hcl : cs.toList.length = n := hsz
  have hjc : j < cs.toList.length := by omega
  have hone' : (cs.toList.drop j).take 1 = [cs.toList[j]] := by
    rw [List.drop_eq_getElem_cons hjc]
    rfl
  rw [hone'] at h1
  have hys : ys[j]? = some (ys[j]'(by omega)) := List.getElem?_eq_getElem (by omega)
  refine ⟨cs.toList[j], _, _, ?_, h1.trans hys⟩
  rw [← Array.getElem?_toList]
  exact List.getElem?_eq_getElem hjc
set_option maxRecDepth 100000 in
theorem open_u8s2 (hv : Value.okWide Tryz.prog w r b0 30 v) (h : DataW.Trod enc Tryz.prog w base spare held 30 v d p) :
    ∃ x0 x1 : Nat, v = .agg #[.int .u8 (x0 : Int), .int .u8 (x1 : Int)] ∧ x0 ≤ 255 ∧ x1 ≤ 255 := by
  obtain ⟨cs, rfl, hsz, hf⟩ := open_arr_any Tryz.underlying30 (by kernel_rfl) (by kernel_rfl) hv h
  obtain ⟨u0, y0, m0, c0, t0⟩ := hf 0 (by decide)
  obtain ⟨x0, rfl, h0⟩ := open_u8 t0
  obtain ⟨u1, y1, m1, c1, t1⟩ := hf 1 (by decide)
  obtain ⟨x1, rfl, h1⟩ := open_u8 t1
  refine ⟨x0, x1, ?_, h0, h1⟩
  congr 1
  apply Array.ext_getElem?
  intro i
  by_cases hi : i < 2
  · have hc : i = 0 ∨ i = 1 := by omega
    rcases hc with rfl | rfl
    all_goals assumption
  · rw [Array.getElem?_eq_none (by omega), Array.getElem?_eq_none (by simp; omega)]
set_option maxRecDepth 100000 in
/-- A town that came in. -/
theorem open_town (hv : Value.okWide Tryz.prog w r b0 29 v) (h : DataW.Trod enc Tryz.prog w base spare held 29 v d p) :
    ∃ a1 a2 a3 a4 k1 k2 k3 k4 t, v = (.agg #[.int .i64 t.ear.sounds, .slice a1 t.ear.alphas.length k1, .slice a2 t.ear.spells.length k2, .int .i64 t.vills, .slice a3 t.ments.length k3, .slice a4 t.ties.length k4]) ∧ TownC w a1 a2 a3 a4 k1 k2 k3 k4 t ∧ ∀ x ∈ t.ear.alphas, ∀ i (h : i < x.letters.length), 0 ≤ x.letters[i].letter ∧ x.letters[i].letter ≤ 255 := by
  have k6 : Tryz.prog.cellsOf 29 = 6 := by kernel_rfl
  have kb : Tryz.prog.cellsOf 25 = 3 := by kernel_rfl
  have ki : Tryz.prog.cellsOf 3 = 1 := by kernel_rfl
  have km : Tryz.prog.cellsOf 26 = 1 := by kernel_rfl
  have kt : Tryz.prog.cellsOf 27 = 1 := by kernel_rfl
  have ka : Tryz.prog.cellsOf 22 = 1 := by kernel_rfl
  have ks : Tryz.prog.cellsOf 23 = 1 := by kernel_rfl
  obtain ⟨cs, rfl, hsz⟩ := okWide_struct Tryz.underlying29 hv
  rw [k6] at hsz
  obtain ⟨fuel, hf⟩ := h
  obtain ⟨ys, n', hn', hy, hlen, hyl, hf⟩ := DataW.trod_struct Tryz.underlying29 hf
  have ec : (Value.agg cs).cells.toList = cs.toList := rfl
  rw [ec] at hf
  obtain ⟨q0, q1, q2, q3, q4, q5, hl⟩ := list6 (show cs.toList.length = 6 from hsz)
  rw [hl] at hf
  have t0 := hf 0 _ rfl
  have t1 := hf 1 _ rfl
  have t2 := hf 2 _ rfl
  have t3 := hf 3 _ rfl
  simp only [List.getElem_toArray, List.getElem_cons_zero, List.getElem_cons_succ] at t0 t1 t2 t3
  rw [kb] at t0
  rw [ki] at t1
  rw [km] at t2
  rw [kt] at t3
  have hy4 : ys.length = 4 := hyl
  obtain ⟨z1, e3⟩ := openN_int1 (v := q3) (t1.trans (List.getElem?_eq_getElem (by omega)))
  obtain ⟨a3, l3, c3, e4, o3, m3, -⟩ := open_mentsT (v := q4) (t2.trans (List.getElem?_eq_getElem (by omega)))
  obtain ⟨a4, l4, c4, e5, o4, m4, -⟩ := open_tiesT (v := q5) (t3.trans (List.getElem?_eq_getElem (by omega)))
  obtain ⟨zs, m', hm', hz, zlen, zl, hg⟩ := DataW.trod_struct Tryz.underlying25 (t0.trans (List.getElem?_eq_getElem (by omega)))
  have u0 := hg 0 _ rfl
  have u1 := hg 1 _ rfl
  have u2 := hg 2 _ rfl
  simp only [List.getElem_toArray, List.getElem_cons_zero, List.getElem_cons_succ] at u0 u1 u2
  rw [ki] at u0
  rw [ka] at u1
  rw [ks] at u2
  have hz3 : zs.length = 3 := zl
  obtain ⟨z0, e0⟩ := openN_int1 (v := q0) (u0.trans (List.getElem?_eq_getElem (by omega)))
  obtain ⟨a1, l1, c1, e1, o1, m1, s1⟩ := open_alphasT (v := q1) (u1.trans (List.getElem?_eq_getElem (by omega)))
  obtain ⟨a2, l2, c2, e2, o2, m2, s2⟩ := open_spellsT (v := q2) (u2.trans (List.getElem?_eq_getElem (by omega)))
  subst e0 e1 e2 e3 e4 e5
  exact ⟨a1, a2, a3, a4, c1, c2, c3, c4, ⟨⟨z0, l1, l2⟩, z1, l3, l4⟩, congrArg Value.agg (Array.ext' hl), ⟨⟨o1, o2, m1, m2, fun x hx => (s1 x hx).1, fun x hx => s2 x hx⟩, o3, o4, m3, m4⟩, fun x hx i hi => (s1 x hx).2 _ (List.getElem_mem hi)⟩
end
end Go.Proofs.YtklconegomgjaaaGreat
