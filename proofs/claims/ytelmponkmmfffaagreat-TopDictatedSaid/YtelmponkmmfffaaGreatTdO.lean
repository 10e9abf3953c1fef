/- What is proved here: TopDictated's shelf, opened. No condition. -/
import Derived.Test.YtelmponkmmfffaaGreatDfOG
import Derived.Test.YtelmponkmmfffaaGreatLrChk
import Derived.SizedLaws
set_option linter.unusedVariables false
set_option linter.unusedSimpArgs false
namespace Go.Proofs.YtelmponkmmfffaaGreat
open Go Go.RowKit Go.ChangeShapes Go.WideShapes Go.Deep Go.Joins
section
variable {H : Type} {enc : TypeId × Value → H} {w : World} {base b0 : Nat} {r : Reach} {spare : Nat → Bool} {held : Bool} {fuel : Nat} {v : Value} {y : DataW H × List MemPlace} {d : DataW H} {p : List MemPlace}
theorem open_intW (h : DataW.trod enc Tryz.prog w base spare held fuel 3 [v] = some y) : ∃ n : Int, v = .int .i64 n ∧ (Lit.int .i64 n).wf = true := by
  obtain ⟨n, h1, _, h2⟩ := DataW.trod_int Tryz.underlying3 h
  simp at h1
  exact ⟨n, h1, h2⟩
theorem open_spanW {c0 c1 : Value} (h : DataW.trod enc Tryz.prog w base spare held fuel 37 [c0, c1] = some y) : ∃ lo hi : Int, (c0 = .int .i64 lo ∧ c1 = .int .i64 hi) ∧ (Lit.int .i64 lo).wf = true ∧ (Lit.int .i64 hi).wf = true := by
  obtain ⟨ys, n', hn', hy, hlen, hyl, hf⟩ := DataW.trod_struct Tryz.underlying37 h
  have k1 : Tryz.prog.cellsOf 3 = 1 := by kernel_rfl
  have h0 := hf 0 _ rfl
  have h1 := hf 1 _ rfl
  simp only [List.getElem_toArray, List.getElem_cons_zero, List.getElem_cons_succ] at h0 h1
  rw [k1] at h0 h1
  obtain ⟨lo, e0, w0⟩ := open_intW (h0.trans (List.getElem?_eq_getElem (by first | omega | (simp at hyl; omega) | (rw [hyl]; decide))))
  obtain ⟨hi, e1, w1⟩ := open_intW (h1.trans (List.getElem?_eq_getElem (by first | omega | (simp at hyl; omega) | (rw [hyl]; decide))))
  exact ⟨lo, hi, ⟨e0, e1⟩, w0, w1⟩
theorem listL2 {l : List Value} (h : l.length = 2) : ∃ a b, l = [a, b] := by
  match l, h with
  | [a, b], _ => exact ⟨a, b, rfl⟩
theorem listL3 {l : List Value} (h : l.length = 3) : ∃ a b c, l = [a, b, c] := by
  match l, h with
  | [a, b, c], _ => exact ⟨a, b, c, rfl⟩
set_option maxRecDepth 100000 in
theorem open_wordsL (h : DataW.trod enc Tryz.prog w base spare held fuel 44 [v] = some y) : ∃ a l c, v = .slice a (l : List ByteArray).length c ∧ SlOk a l.length c ∧ StrsC w a l := by
  rcases open_strings Tryz.underlying44 Tryz.underlying9 (by kernel_rfl) h with ⟨hcs, _⟩ | ⟨x, len, cap, ss, hcs, _, hl, hm, hz, _, hcell, hsz⟩
  · simp at hcs
    exact ⟨none, [], 0, hcs, ⟨Nat.le_refl _, by decide, fun _ => rfl⟩, StrsC.nil _ _⟩
  · simp at hcs
    have hle : len ≤ ss.length := by rw [hz]; split <;> omega
    have hlen : (ss.take len).length = len := by simp; omega
    refine ⟨some x, ss.take len, cap, by rw [hlen]; exact hcs, ⟨by omega, by rw [← ML64]; exact hm, fun h => by cases h⟩, fun i hi => ?_⟩
    have hi2 : i < ss.length := by omega
    obtain ⟨b, off, rfl⟩ := spot_zero (hcell 0 (by omega))
    obtain ⟨hb, hc⟩ := add_cell (hcell i hi2)
    exact ⟨b, off, rfl, hb, hc.trans (by simp [List.getD_eq_getElem?_getD, hi2])⟩
set_option maxRecDepth 100000 in
theorem open_partsL (h : DataW.trod enc Tryz.prog w base spare held fuel 41 [v] = some y) : ∃ a l c, v = .slice a (l : List LeP).length c ∧ SlOk a l.length c ∧ PartsC w a l ∧ ∀ s ∈ l, (Lit.int .i64 s.lo).wf = true ∧ (Lit.int .i64 s.hi).wf = true := by
  have kL : Tryz.prog.cellsOf 44 = 1 := by kernel_rfl
  have kp : Tryz.prog.cellsOf 37 = 2 := by kernel_rfl
  rcases open_elems (C := 3) Tryz.underlying41 Tryz.underlying62 (by kernel_rfl) h with hcs | ⟨x, len, cap, hcs, hl, hm, hf⟩
  · simp at hcs
    exact ⟨none, [], 0, hcs, ⟨Nat.le_refl _, by decide, fun _ => rfl⟩, fun i hi => absurd hi (Nat.not_lt_zero i), by simp⟩
  · simp at hcs
    obtain ⟨l, hll, hp⟩ := list_of len (fun i (s : LeP) => (∃ b off, x = ⟨b, off, none⟩ ∧ b < w.heap.size ∧ (∃ aw cw, w.cell? ⟨b, off + i * 3, none⟩ = some (.slice aw s.words.length cw) ∧ SlOk aw s.words.length cw ∧ StrsC w aw s.words) ∧ w.cell? ⟨b, off + i * 3 + 1, none⟩ = some (.int .i64 s.lo) ∧ w.cell? ⟨b, off + i * 3 + 2, none⟩ = some (.int .i64 s.hi)) ∧ (Lit.int .i64 s.lo).wf = true ∧ (Lit.int .i64 s.hi).wf = true) (fun i hi => by
      obtain ⟨cs', ys, n, hcl, hat, hfl⟩ := hf i hi
      obtain ⟨q0, q1, q2, rfl⟩ := listL3 hcl
      obtain ⟨y0, t0⟩ := hfl 0 _ rfl
      obtain ⟨y1, t1⟩ := hfl 1 _ rfl
      simp only [List.getElem_toArray, List.getElem_cons_zero, List.getElem_cons_succ] at t0 t1
      rw [kL] at t0
      rw [kp] at t1
      obtain ⟨aw, z0, cw, rfl, ho, hw⟩ := open_wordsL (v := q0) t0
      obtain ⟨lo, hi2, ⟨rfl, rfl⟩, w0, w1⟩ := open_spanW (c0 := q1) (c1 := q2) t1
      have c0 := hat 0 (by decide)
      have c1 := hat 1 (by decide)
      have c2 := hat 2 (by decide)
      obtain ⟨cs9, ys9, n9, hcl9, hat9, -⟩ := hf 0 (by omega)
      obtain ⟨r0, r1, r2, rfl⟩ := listL3 hcl9
      obtain ⟨b, off, rfl⟩ := spot_zero (by simpa using hat9 0 (by decide))
      obtain ⟨hb, c0⟩ := add_cell (by simpa using c0)
      rw [Addr.add_lit] at c1 c2
      exact ⟨⟨z0, lo, hi2⟩, ⟨b, off, rfl, hb, ⟨aw, cw, c0, ho, hw⟩, by rw [Nat.add_assoc]; exact c1, by rw [Nat.add_assoc]; exact c2⟩, w0, w1⟩)
    refine ⟨some x, l, cap, by rw [hll]; exact hcs, ⟨by omega, by rw [← ML64]; exact hm, fun h => by cases h⟩, fun i hi => ?_, fun s hs => ?_⟩
    · obtain ⟨⟨b, off, e, h1⟩, -⟩ := hp i hi
      exact ⟨b, off, by rw [e], h1⟩
    · obtain ⟨i, hi, rfl⟩ := List.getElem_of_mem hs
      exact (hp i hi).2
set_option maxRecDepth 100000 in
theorem open_formsL (h : DataW.trod enc Tryz.prog w base spare held fuel 22 [v] = some y) : ∃ a l c, v = .slice a (l : List LeF).length c ∧ SlOk a l.length c ∧ FormsC w a l ∧ ∀ s ∈ l, s.name.size ≤ 9223372036854775807 ∧ ∀ x ∈ s.parts, (Lit.int .i64 x.lo).wf = true ∧ (Lit.int .i64 x.hi).wf = true := by
  have kL : Tryz.prog.cellsOf 41 = 1 := by kernel_rfl
  have ks : Tryz.prog.cellsOf 9 = 1 := by kernel_rfl
  rcases open_elems (C := 2) Tryz.underlying22 Tryz.underlying43 (by kernel_rfl) h with hcs | ⟨x, len, cap, hcs, hl, hm, hf⟩
  · simp at hcs
    exact ⟨none, [], 0, hcs, ⟨Nat.le_refl _, by decide, fun _ => rfl⟩, fun i hi => absurd hi (Nat.not_lt_zero i), by simp⟩
  · simp at hcs
    obtain ⟨l, hll, hp⟩ := list_of len (fun i (s : LeF) => (∃ b off, x = ⟨b, off, none⟩ ∧ b < w.heap.size ∧ w.cell? ⟨b, off + i * 2, none⟩ = some (.string s.name) ∧ ∃ ap kp, w.cell? ⟨b, off + i * 2 + 1, none⟩ = some (.slice ap s.parts.length kp) ∧ SlOk ap s.parts.length kp ∧ PartsC w ap s.parts) ∧ s.name.size ≤ 9223372036854775807 ∧ ∀ x ∈ s.parts, (Lit.int .i64 x.lo).wf = true ∧ (Lit.int .i64 x.hi).wf = true) (fun i hi => by
      obtain ⟨cs', ys, n, hcl, hat, hfl⟩ := hf i hi
      obtain ⟨q0, q1, rfl⟩ := listL2 hcl
      obtain ⟨y0, t0⟩ := hfl 0 _ rfl
      obtain ⟨y1, t1⟩ := hfl 1 _ rfl
      simp only [List.getElem_toArray, List.getElem_cons_zero, List.getElem_cons_succ] at t0 t1
      rw [kL] at t1
      rw [ks] at t0
      obtain ⟨z0, rfl, hz0⟩ := open_str (v := q0) t0
      obtain ⟨al, z1, cl, rfl, hok, hlc, hz1⟩ := open_partsL (v := q1) t1
      have c0 := hat 0 (by decide)
      have c1 := hat 1 (by decide)
      obtain ⟨cs9, ys9, n9, hcl9, hat9, -⟩ := hf 0 (by omega)
      obtain ⟨r0, r1, rfl⟩ := listL2 hcl9
      obtain ⟨b, off, rfl⟩ := spot_zero (by simpa using hat9 0 (by decide))
      obtain ⟨hb, c0⟩ := add_cell (by simpa using c0)
      rw [Addr.add_lit] at c1
      exact ⟨⟨z0, z1⟩, ⟨b, off, rfl, hb, c0, al, cl, by rw [Nat.add_assoc]; exact c1, hok, hlc⟩, hz0, hz1⟩)
    refine ⟨some x, l, cap, by rw [hll]; exact hcs, ⟨by omega, by rw [← ML64]; exact hm, fun h => by cases h⟩, fun i hi => ?_, fun s hs => ?_⟩
    · obtain ⟨⟨b, off, e, h1⟩, -⟩ := hp i hi
      exact ⟨b, off, by rw [e], h1⟩
    · obtain ⟨i, hi, rfl⟩ := List.getElem_of_mem hs
      exact (hp i hi).2
set_option maxRecDepth 100000 in
/-- A shelf that came in. -/
theorem open_shelf (hv : Value.okWide Tryz.prog w r b0 24 v) (h : DataW.Trod enc Tryz.prog w base spare held 24 v d p) :
    ∃ af kf s, v = .agg #[.int .i64 (s : LeS).width, .slice af s.forms.length kf] ∧ ShelfC w af kf s ∧ WfS s := by
  obtain ⟨cs, rfl, hsz, hf⟩ := open_str_any Tryz.underlying24 (by kernel_rfl) (by kernel_rfl) hv h
  obtain ⟨u0, y0, m0, c0, t0⟩ := hf 0 _ rfl
  obtain ⟨u1, y1, m1, c1, t1⟩ := hf 1 _ rfl
  obtain ⟨wd, rfl⟩ := open_int1 t0
  obtain ⟨af, lf, kf, rfl, o1, h1, s1⟩ := open_formsL t1
  refine ⟨af, kf, ⟨wd, lf⟩, ?_, ⟨o1, h1, fun x hx => (s1 x hx).1⟩, fun f hf => (s1 f hf).2⟩
  congr 1
  apply Array.ext_getElem?
  intro i
  by_cases hi : i < 2
  · have hc : i = 0 ∨ i = 1 := by omega
    rcases hc with rfl | rfl
    all_goals assumption
  · rw [Array.getElem?_eq_none (by rw [hsz]; exact Nat.le_of_not_lt hi), Array.getElem?_eq_none (by simp; omega)]
theorem weightsL_of {P : Program} {ts : List TypeId} {ds : List (DataW H)} (h : (DataW.weightsEach P ts ds).all (· ≤ reachBytes) = true) {j : Nat} {t : TypeId} {d : DataW H} (ht : ts[j]? = some t) (hd : ds[j]? = some d) : ∀ x ∈ DataW.weights P t d, x ≤ reachBytes := fun x hx => by
  have := List.all_eq_true.1 h _ (DataW.weights_mem_each ht hd x hx)
  simpa using this
set_option maxRecDepth 100000 in
/-- Bytes that came in are within the form's reach. -/
theorem bytes_reach (h : DataW.Trod enc Tryz.prog w base spare held 29 v d p) (hw : ∀ x ∈ DataW.weights Tryz.prog 29 d, x ≤ reachBytes) {a : Option Addr} {n c : Nat} (e : v = .slice a n c) : n ≤ 140737488351232 := by
  subst e
  have hr : reachBytes = 140737488351232 := rfl
  have b1 : Tryz.prog.bytesOf 5 = 1 := by kernel_rfl
  obtain ⟨fuel, hf⟩ := h
  rcases DataW.trod_slice Tryz.underlying29 hf with ⟨h2, _⟩ | ⟨a', len, cap, elems, rest, m, _, h2, h3, _, _, _, h4, _⟩
  · have h2' : [Value.slice a n c] = [Value.slice none 0 0] := h2
    simp only [List.cons.injEq, Value.slice.injEq] at h2'
    rw [h2'.1.2.1]
    omega
  · have h2' : [Value.slice a n c] = [Value.slice (some a') len cap] := h2
    simp only [List.cons.injEq, Value.slice.injEq, and_true] at h2'
    obtain ⟨-, e2, -⟩ := h2'
    have hm := hw ((elems.length + rest.length) * Tryz.prog.bytesOf 5) (by
      rw [(Prod.mk.inj h3).1]
      simp [DataW.weights, Tryz.underlying29])
    rw [b1, Nat.mul_one] at hm
    rw [e2]
    omega
end
end Go.Proofs.YtelmponkmmfffaaGreat
