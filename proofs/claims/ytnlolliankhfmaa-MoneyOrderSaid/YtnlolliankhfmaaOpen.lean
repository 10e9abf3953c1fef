/- What is proved here: an argument that is a list of layer 7, opened. No condition. -/
import Derived.Test.YtnlolliankhfmaaMoRep
import Derived.Test.YtnlolliankhfmaaProg
import Derived.Deep.Slices
import Derived.Deep.Fields
import Derived.ChangeSame
import Derived.SliceStrings
import Derived.Lib.SmallJoins
set_option linter.unusedVariables false
set_option linter.unusedSimpArgs false
namespace Go.Proofs.Ytnlolliankhfmaa
open Go Go.RowKit Go.ChangeShapes Go.WideShapes Go.Deep Go.Joins

section
variable {H : Type} {enc : TypeId × Value → H} {P : Program} {w : World} {base : Nat} {spare : Nat → Bool} {held : Bool}
/-- A slice of structs of one-cell fields, element by element. -/
theorem open_fields {t e : TypeId} {fs : Array Field} {fuel : Nat} {cs : List Value} {x : DataW H × List MemPlace} (ht : P.underlying t = some (.slice e)) (he : P.underlying e = some (.struct fs))
    (hone : oneCellFields P fs = true) (hC : P.cellsOf e = fs.size) (h : DataW.trod enc P w base spare held fuel t cs = some x) :
    cs = [.slice none 0 0] ∨ ∃ (a : Addr) (len cap : Nat), cs = [.slice (some a) len cap] ∧ len ≤ cap ∧ cap ≤ maxLen ∧
      ∀ i, i < len → ∀ (j : Nat) (f : Field), fs[j]? = some f → ∃ (v : Value) (y : DataW H × List MemPlace) (n : Nat), w.cell? (a.add (i * fs.size + j)) = some v ∧ DataW.trod enc P w base spare held n f.type [v] = some y := by
  rcases open_slice ht h with h0 | ⟨a, len, cap, m, n, D, Pl, hcs, hb, hl, hm, hmm, hx, hi⟩
  · exact .inl h0.1
  · refine .inr ⟨a, len, cap, hcs, hl, hm, fun i him j f hj => ?_⟩
    have him' : i < m := by rw [hmm]; split <;> omega
    obtain ⟨cs', hc, ht'⟩ := hi i him'
    rw [hC] at hc
    obtain ⟨ys, n', hn', hy, hlen, hyl, hf⟩ := DataW.trod_struct he ht'
    obtain ⟨_, hcl, hat⟩ := World.cells?_some hc
    obtain ⟨ho, hk⟩ := hone_of hone j f hj
    have hjl : j < fs.size := (Array.getElem?_eq_some_iff.1 hj).1
    have hcell := hat j hjl
    have hv : cs'[j]? = some (cs'[j]'(by omega)) := List.getElem?_eq_getElem (by omega)
    have h1 := hf j f hj
    rw [ho, hk] at h1
    have hone' : (cs'.drop j).take 1 = [cs'[j]'(by omega)] := by
      rw [List.drop_eq_getElem_cons (by omega)]
      rfl
    rw [hone'] at h1
    have hys : ys[j]? = some (ys[j]'(by omega)) := List.getElem?_eq_getElem (by omega)
    refine ⟨_, _, _, ?_, h1.trans hys⟩
    rw [← Go.Deep.add_add, hcell, hv]
end
theorem list_of {α : Type} (n : Nat) (p : Nat → α → Prop) (h : ∀ i, i < n → ∃ x, p i x) : ∃ l : List α, l.length = n ∧ ∀ i (hi : i < l.length), p i l[i] := by
  induction n with
  | zero => exact ⟨[], rfl, fun i hi => absurd hi (Nat.not_lt_zero i)⟩
  | succ n ih =>
    obtain ⟨l, hl, hp⟩ := ih fun i hi => h i (by omega)
    obtain ⟨x, hx⟩ := h n (by omega)
    refine ⟨l ++ [x], by simp [hl], fun i hi => ?_⟩
    by_cases e : i < l.length
    · rw [List.getElem_append_left e]; exact hp i e
    · have : i = l.length := by simp at hi; omega
      subst this
      rw [List.getElem_append_right (Nat.le_refl _)]
      simp only [Nat.sub_self, List.getElem_cons_zero]
      rw [hl]
      exact hx
theorem spot_zero {w : World} {a : Addr} {v : Value} (h : w.cell? (a.add 0) = some v) : ∃ b off, a = ⟨b, off, none⟩ := by
  obtain ⟨b, off, spot⟩ := a
  have hs : spot = none := by simpa [Addr.add] using World.cell?_spot h
  exact ⟨b, off, by rw [hs]⟩
theorem add_cell {w : World} {b off k : Nat} {v : Value} (h : w.cell? ((⟨b, off, none⟩ : Addr).add k) = some v) : b < w.heap.size ∧ w.cell? ⟨b, off + k, none⟩ = some v := by
  rw [Addr.add_lit] at h
  exact ⟨lt_of_cell h, h⟩
theorem ML64 : maxLen = 9223372036854775807 := rfl

section
variable {H : Type} {enc : TypeId × Value → H} {w : World} {base : Nat} {spare : Nat → Bool} {held : Bool} {fuel : Nat} {v : Value} {y : DataW H × List MemPlace}
theorem open_str (h : DataW.trod enc Try.prog w base spare held fuel 9 [v] = some y) : ∃ s : ByteArray, v = .string s ∧ s.size ≤ 9223372036854775807 := by
  obtain ⟨s, h1, _, h2⟩ := DataW.trod_string Try.underlying9 h
  simp at h1
  exact ⟨s, h1, by rw [← ML64]; exact h2⟩
theorem open_int1 (h : DataW.trod enc Try.prog w base spare held fuel 3 [v] = some y) : ∃ n : Int, v = .int .i64 n := by
  obtain ⟨n, h1, _⟩ := DataW.trod_int Try.underlying3 h
  simp at h1
  exact ⟨n, h1⟩
theorem open_bool1 (h : DataW.trod enc Try.prog w base spare held fuel 4 [v] = some y) : ∃ b : Bool, v = .bool b := by
  obtain ⟨n, h1, _⟩ := DataW.trod_bool Try.underlying4 h
  simp at h1
  exact ⟨n, h1⟩
theorem open_claimants (h : DataW.trod enc Try.prog w base spare held fuel 22 [v] = some y) : ∃ a l c, v = .slice a (l : List ByteArray).length c ∧ SlOk a l.length c ∧ StrsC w a l ∧ ∀ s ∈ l, s.size ≤ 9223372036854775807 := by
  rcases open_strings Try.underlying22 Try.underlying9 (by kernel_rfl) h with ⟨hcs, _⟩ | ⟨x, len, cap, ss, hcs, _, hl, hm, hz, _, hcell, hsz⟩
  · simp at hcs
    exact ⟨none, [], 0, hcs, ⟨Nat.le_refl _, by decide, fun _ => rfl⟩, StrsC.nil _ _, by simp⟩
  · simp at hcs
    have hle : len ≤ ss.length := by rw [hz]; split <;> omega
    have hlen : (ss.take len).length = len := by simp; omega
    refine ⟨some x, ss.take len, cap, by rw [hlen]; exact hcs, ⟨by omega, by rw [← ML64]; exact hm, fun h => by cases h⟩, fun i hi => ?_, fun s hs => by rw [← ML64]; exact hsz s (List.mem_of_mem_take hs)⟩
    have hi2 : i < ss.length := by omega
    obtain ⟨b, off, rfl⟩ := spot_zero (hcell 0 (by omega))
    obtain ⟨hb, hc⟩ := add_cell (hcell i hi2)
    refine ⟨b, off, rfl, hb, hc.trans ?_⟩
    simp [List.getD_eq_getElem?_getD, hi2]
theorem open_sums (h : DataW.trod enc Try.prog w base spare held fuel 23 [v] = some y) : ∃ a l c, v = .slice a (l : List MoSum).length c ∧ SlOk a l.length c ∧ SumsC w a l ∧ ∀ s ∈ l, s.name.size ≤ 9223372036854775807 := by
  rcases open_fields Try.underlying23 Try.underlying73 (by kernel_rfl) (by kernel_rfl) h with hcs | ⟨x, len, cap, hcs, hl, hm, hf⟩
  · simp at hcs
    exact ⟨none, [], 0, hcs, ⟨Nat.le_refl _, by decide, fun _ => rfl⟩, fun i hi => absurd hi (Nat.not_lt_zero i), by simp⟩
  · simp at hcs
    obtain ⟨l, hll, hp⟩ := list_of len (fun i (s : MoSum) => s.name.size ≤ 9223372036854775807 ∧ ∃ b off, x = ⟨b, off, none⟩ ∧ b < w.heap.size ∧ w.cell? ⟨b, off + i * 3, none⟩ = some (.string s.name) ∧ w.cell? ⟨b, off + i * 3 + 1, none⟩ = some (.int .i64 s.pence) ∧ w.cell? ⟨b, off + i * 3 + 2, none⟩ = some (.int .i64 s.for_)) (fun i hi => by
      obtain ⟨v0, y0, n0, c0, t0⟩ := hf i hi 0 _ rfl
      obtain ⟨v1, y1, n1, c1, t1⟩ := hf i hi 1 _ rfl
      obtain ⟨v2, y2, n2, c2, t2⟩ := hf i hi 2 _ rfl
      obtain ⟨s, rfl, hs⟩ := open_str t0
      obtain ⟨p, rfl⟩ := open_int1 t1
      obtain ⟨q, rfl⟩ := open_int1 t2
      obtain ⟨v9, y9, n9, c9, _⟩ := hf 0 (by omega) 0 _ rfl
      obtain ⟨b, off, rfl⟩ := spot_zero (by simpa using c9)
      obtain ⟨hb, c0⟩ := add_cell c0
      rw [Addr.add_lit] at c1 c2
      exact ⟨⟨s, p, q⟩, hs, b, off, rfl, hb, c0, by rw [Nat.add_assoc]; exact c1, by rw [Nat.add_assoc]; exact c2⟩)
    refine ⟨some x, l, cap, by rw [hll]; exact hcs, ⟨by omega, by rw [← ML64]; exact hm, fun h => by cases h⟩, fun i hi => ?_, fun s hs => ?_⟩
    · obtain ⟨_, b, off, e, h1⟩ := hp i hi
      exact ⟨b, off, by rw [e], h1⟩
    · obtain ⟨i, hi, rfl⟩ := List.getElem_of_mem hs
      exact (hp i hi).1
theorem open_words (h : DataW.trod enc Try.prog w base spare held fuel 24 [v] = some y) : ∃ a l c, v = .slice a (l : List MoWord).length c ∧ SlOk a l.length c ∧ WordsC w a l := by
  rcases open_fields Try.underlying24 Try.underlying70 (by kernel_rfl) (by kernel_rfl) h with hcs | ⟨x, len, cap, hcs, hl, hm, hf⟩
  · simp at hcs
    exact ⟨none, [], 0, hcs, ⟨Nat.le_refl _, by decide, fun _ => rfl⟩, fun i hi => absurd hi (Nat.not_lt_zero i)⟩
  · simp at hcs
    obtain ⟨l, hll, hp⟩ := list_of len (fun i (s : MoWord) => ∃ b off, x = ⟨b, off, none⟩ ∧ b < w.heap.size ∧ w.cell? ⟨b, off + i * 5, none⟩ = some (.int .i64 s.says) ∧ w.cell? ⟨b, off + i * 5 + 1, none⟩ = some (.int .i64 s.sum) ∧ w.cell? ⟨b, off + i * 5 + 2, none⟩ = some (.int .i64 s.of) ∧ w.cell? ⟨b, off + i * 5 + 3, none⟩ = some (.int .i64 s.back) ∧ w.cell? ⟨b, off + i * 5 + 4, none⟩ = some (.bool s.came)) (fun i hi => by
      obtain ⟨v0, y0, n0, c0, t0⟩ := hf i hi 0 _ rfl
      obtain ⟨v1, y1, n1, c1, t1⟩ := hf i hi 1 _ rfl
      obtain ⟨v2, y2, n2, c2, t2⟩ := hf i hi 2 _ rfl
      obtain ⟨v3, y3, n3, c3, t3⟩ := hf i hi 3 _ rfl
      obtain ⟨v4, y4, n4, c4, t4⟩ := hf i hi 4 _ rfl
      obtain ⟨a, rfl⟩ := open_int1 t0
      obtain ⟨p, rfl⟩ := open_int1 t1
      obtain ⟨q, rfl⟩ := open_int1 t2
      obtain ⟨r, rfl⟩ := open_int1 t3
      obtain ⟨s, rfl⟩ := open_bool1 t4
      obtain ⟨v9, y9, n9, c9, _⟩ := hf 0 (by omega) 0 _ rfl
      obtain ⟨b, off, rfl⟩ := spot_zero (by simpa using c9)
      obtain ⟨hb, c0⟩ := add_cell c0
      rw [Addr.add_lit] at c1 c2 c3 c4
      exact ⟨⟨a, p, q, r, s⟩, b, off, rfl, hb, c0, by rw [Nat.add_assoc]; exact c1, by rw [Nat.add_assoc]; exact c2, by rw [Nat.add_assoc]; exact c3, by rw [Nat.add_assoc]; exact c4⟩)
    refine ⟨some x, l, cap, by rw [hll]; exact hcs, ⟨by omega, by rw [← ML64]; exact hm, fun h => by cases h⟩, fun i hi => ?_⟩
    obtain ⟨b, off, e, h1⟩ := hp i hi
    exact ⟨b, off, by rw [e], h1⟩
theorem open_paid (h : DataW.trod enc Try.prog w base spare held fuel 25 [v] = some y) : ∃ a l c, v = .slice a (l : List MoPaid).length c ∧ SlOk a l.length c ∧ PaidC w a l := by
  rcases open_fields Try.underlying25 Try.underlying66 (by kernel_rfl) (by kernel_rfl) h with hcs | ⟨x, len, cap, hcs, hl, hm, hf⟩
  · simp at hcs
    exact ⟨none, [], 0, hcs, ⟨Nat.le_refl _, by decide, fun _ => rfl⟩, fun i hi => absurd hi (Nat.not_lt_zero i)⟩
  · simp at hcs
    obtain ⟨l, hll, hp⟩ := list_of len (fun i (s : MoPaid) => ∃ b off, x = ⟨b, off, none⟩ ∧ b < w.heap.size ∧ w.cell? ⟨b, off + i * 2, none⟩ = some (.int .i64 s.sum) ∧ w.cell? ⟨b, off + i * 2 + 1, none⟩ = some (.int .i64 s.claimant)) (fun i hi => by
      obtain ⟨v0, y0, n0, c0, t0⟩ := hf i hi 0 _ rfl
      obtain ⟨v1, y1, n1, c1, t1⟩ := hf i hi 1 _ rfl
      obtain ⟨p, rfl⟩ := open_int1 t0
      obtain ⟨q, rfl⟩ := open_int1 t1
      obtain ⟨v9, y9, n9, c9, _⟩ := hf 0 (by omega) 0 _ rfl
      obtain ⟨b, off, rfl⟩ := spot_zero (by simpa using c9)
      obtain ⟨hb, c0⟩ := add_cell c0
      rw [Addr.add_lit] at c1
      exact ⟨⟨p, q⟩, b, off, rfl, hb, c0, by rw [Nat.add_assoc]; exact c1⟩)
    refine ⟨some x, l, cap, by rw [hll]; exact hcs, ⟨by omega, by rw [← ML64]; exact hm, fun h => by cases h⟩, fun i hi => ?_⟩
    obtain ⟨b, off, e, h1⟩ := hp i hi
    exact ⟨b, off, by rw [e], h1⟩
end
set_option maxRecDepth 100000 in
/-- A list that came in. -/
theorem open_list {H : Type} {enc : TypeId × Value → H} {w : World} {base b0 : Nat} {r : Reach} {spare : Nat → Bool} {held : Bool} {v : Value} {d : DataW H} {p : List MemPlace} (hv : Value.okWide Try.prog w r b0 27 v) (h : DataW.Trod enc Try.prog w base spare held 27 v d p) :
    ∃ ac az aw ap cc cz cw cp m, v = listV ac az aw ap cc cz cw cp m ∧ ListC w ac az aw ap cc cz cw cp m := by
  obtain ⟨v0, v1, v2, v3, y0, y1, y2, y3, n, rfl, _, _, h0, h1, h2, h3⟩ := open_agg4 Try.underlying27 (by kernel_rfl) (by kernel_rfl) hv h
  obtain ⟨ac, lc, cc, rfl, oc, hc, sc⟩ := open_claimants h0
  obtain ⟨az, lz, cz, rfl, oz, hz, sz⟩ := open_sums h1
  obtain ⟨aw, lw, cw, rfl, ow, hw⟩ := open_words h2
  obtain ⟨ap, lp, cp, rfl, op, hp⟩ := open_paid h3
  exact ⟨ac, az, aw, ap, cc, cz, cw, cp, ⟨lc, lz, lw, lp⟩, rfl, oc, oz, ow, op, hc, hz, hw, hp, sc, sz⟩
end Go.Proofs.Ytnlolliankhfmaa
