/- What is proved here: arguments of the laws of layer 12, opened: a room, numbers in arrays, what was heard, a leak. No condition. -/
/- What is proved here: what a slice of bytes in memory is, and that it lasts. No condition. -/
/- What is proved here: a plan by turns as an argument of layer 12's law, opened. No condition. -/
/- What is proved here: nothing: the texts of layer 12 that TopShown needs. -/
import Derived.Test.YtcgplocmncionaaGreatSeGround
import Derived.Test.YtcgplocmncionaaGreatSeMemG
import Derived.OpenShut
import Derived.Test.YtcgplocmncionaaGreatProg
import Derived.Deep.Slices
import Derived.Deep.Fields
import Derived.ChangeSame
import Derived.SliceStrings
import Derived.Lib.SmallJoins
import Derived.Test.YtcgplocmncionaaGreatSwB
import Derived.Test.YtcgplocmncionaaGreatSw3
import Derived.Test.YtcgplocmncionaaGreatSrA
set_option linter.unusedVariables false
set_option linter.unusedSimpArgs false
namespace Go.Proofs.YtcgplocmncionaaGreat
open Go Go.RowKit Go.ChangeShapes Go.WideShapes Go.Deep Go.Joins

section
variable {H : Type} {enc : TypeId × Value → H} {P : Program} {w : World} {base : Nat} {spare : Nat → Bool} {held : Bool}
/-- A slice of structs of one-cell fields, element by element. -/
theorem open_fields {t e : TypeId} {fs : Array Field} {fuel : Nat} {cs : List Value} {x : DataW H × List MemPlace} (ht : P.underlying t = some (.slice e)) (he : P.underlying e = some (.struct fs))
    (hone : oneCellFields P fs = true) (hC : P.cellsOf e = fs.size) (h : DataW.trod enc P w base spare held fuel t cs = some x) :
    cs = [.slice none 0 0] ∨ ∃ (a : Addr) (len cap : Nat), cs = [.slice (some a) len cap] ∧ len ≤ cap ∧ cap ≤ maxLen ∧
      ∀ i, i < len → ∀ (j : Nat) (f : Field), fs[j]? = some f → ∃ (v : Value) (y : DataW H × List MemPlace) (n : Nat), w.cell? (a.add (i * fs.size + j)) = some v ∧ DataW.trod enc P w base spare held n f.type [v] = some y := by
  rcases open_slice ht h with h0 | ⟨a, len, cap, m, n, D, Pl, hcs, hb, hl, hm, hmm, hx, hi⟩
  · exact .inl h0.1
  · refine .inr ⟨a, len, cap, hcs, hl, hm, fun i him j f hj => ?_⟩
    have him' : i < m := by rw [hmm]; split <;> omega
    obtain ⟨cs', hc, ht'⟩ := hi i him'
    rw [hC] at hc
    obtain ⟨ys, n', hn', hy, hlen, hyl, hf⟩ := DataW.trod_struct he ht'
    obtain ⟨_, hcl, hat⟩ := World.cells?_some hc
    obtain ⟨ho, hk⟩ := hone_of hone j f hj
    have hjl : j < fs.size := (Array.getElem?_eq_some_iff.1 hj).1
    have hcell := hat j hjl
    have hv : cs'[j]? = some (cs'[j]'(by omega)) := List.getElem?_eq_getElem (by omega)
    have h1 := hf j f hj
    rw [ho, hk] at h1
    have hone' : (cs'.drop j).take 1 = [cs'[j]'(by omega)] := by
      rw [List.drop_eq_getElem_cons (by omega)]
      rfl
    rw [hone'] at h1
    have hys : ys[j]? = some (ys[j]'(by omega)) := List.getElem?_eq_getElem (by omega)
    refine ⟨_, _, _, ?_, h1.trans hys⟩
    rw [← Go.Deep.add_add, hcell, hv]
end
theorem list_of {α : Type} (n : Nat) (p : Nat → α → Prop) (h : ∀ i, i < n → ∃ x, p i x) : ∃ l : List α, l.length = n ∧ ∀ i (hi : i < l.length), p i l[i] := by
  induction n with
  | zero => exact ⟨[], rfl, fun i hi => absurd hi (Nat.not_lt_zero i)⟩
  | succ n ih =>
    obtain ⟨l, hl, hp⟩ := ih fun i hi => h i (by omega)
    obtain ⟨x, hx⟩ := h n (by omega)
    refine ⟨l ++ [x], by simp [hl], fun i hi => ?_⟩
    by_cases e : i < l.length
    · rw [List.getElem_append_left e]; exact hp i e
    · have : i = l.length := by simp at hi; omega
      subst this
      rw [List.getElem_append_right (Nat.le_refl _)]
      simp only [Nat.sub_self, List.getElem_cons_zero]
      rw [hl]
      exact hx
theorem spot_zero {w : World} {a : Addr} {v : Value} (h : w.cell? (a.add 0) = some v) : ∃ b off, a = ⟨b, off, none⟩ := by
  obtain ⟨b, off, spot⟩ := a
  have hs : spot = none := by simpa [Addr.add] using World.cell?_spot h
  exact ⟨b, off, by rw [hs]⟩
theorem add_cell {w : World} {b off k : Nat} {v : Value} (h : w.cell? ((⟨b, off, none⟩ : Addr).add k) = some v) : b < w.heap.size ∧ w.cell? ⟨b, off + k, none⟩ = some v := by
  rw [Addr.add_lit] at h
  exact ⟨lt_of_cell h, h⟩
theorem ML64 : maxLen = 9223372036854775807 := rfl

section
variable {H : Type} {enc : TypeId × Value → H} {w : World} {base : Nat} {spare : Nat → Bool} {held : Bool} {fuel : Nat} {v : Value} {y : DataW H × List MemPlace}
theorem open_int1 (h : DataW.trod enc Tryz.prog w base spare held fuel 3 [v] = some y) : ∃ n : Int, v = .int .i64 n := by
  obtain ⟨n, h1, _⟩ := DataW.trod_int Tryz.underlying3 h
  simp at h1
  exact ⟨n, h1⟩
theorem open_bool1 (h : DataW.trod enc Tryz.prog w base spare held fuel 4 [v] = some y) : ∃ b : Bool, v = .bool b := by
  obtain ⟨n, h1, _⟩ := DataW.trod_bool Tryz.underlying4 h
  simp at h1
  exact ⟨n, h1⟩
theorem open_claimants (h : DataW.trod enc Tryz.prog w base spare held fuel 22 [v] = some y) : ∃ a l c, v = .slice a (l : List ByteArray).length c ∧ SlOk a l.length c ∧ StrsC w a l ∧ ∀ s ∈ l, s.size ≤ 9223372036854775807 := by
  rcases open_strings Tryz.underlying22 Tryz.underlying9 (by kernel_rfl) h with ⟨hcs, _⟩ | ⟨x, len, cap, ss, hcs, _, hl, hm, hz, _, hcell, hsz⟩
  · simp at hcs
    exact ⟨none, [], 0, hcs, ⟨Nat.le_refl _, by decide, fun _ => rfl⟩, StrsC.nil _ _, by simp⟩
  · simp at hcs
    have hle : len ≤ ss.length := by rw [hz]; split <;> omega
    have hlen : (ss.take len).length = len := by simp; omega
    refine ⟨some x, ss.take len, cap, by rw [hlen]; exact hcs, ⟨by omega, by rw [← ML64]; exact hm, fun h => by cases h⟩, fun i hi => ?_, fun s hs => by rw [← ML64]; exact hsz s (List.mem_of_mem_take hs)⟩
    have hi2 : i < ss.length := by omega
    obtain ⟨b, off, rfl⟩ := spot_zero (hcell 0 (by omega))
    obtain ⟨hb, hc⟩ := add_cell (hcell i hi2)
    refine ⟨b, off, rfl, hb, hc.trans ?_⟩
    simp [List.getD_eq_getElem?_getD, hi2]
theorem open_kept (h : DataW.trod enc Tryz.prog w base spare held fuel 23 [v] = some y) : ∃ a l c, v = .slice a (l : List Int).length c ∧ SlOk a l.length c ∧ IntsC w a l := by
  rcases open_ints Tryz.underlying23 Tryz.underlying3 (by kernel_rfl) h with ⟨hcs, _⟩ | ⟨x, len, cap, zs, hcs, _, hl, hm, hz, _, hcell, _⟩
  · simp at hcs
    exact ⟨none, [], 0, hcs, ⟨Nat.le_refl _, by decide, fun _ => rfl⟩, IntsC.nil _ _⟩
  · simp at hcs
    have hle : len ≤ zs.length := by rw [hz]; split <;> omega
    have hlen : (zs.take len).length = len := by simp; omega
    refine ⟨some x, zs.take len, cap, by rw [hlen]; exact hcs, ⟨by omega, by rw [← ML64]; exact hm, fun h => by cases h⟩, fun i hi => ?_⟩
    have hi2 : i < zs.length := by omega
    obtain ⟨b, off, rfl⟩ := spot_zero (hcell 0 (by omega))
    obtain ⟨hb, hc⟩ := add_cell (hcell i hi2)
    refine ⟨b, off, rfl, hb, hc.trans ?_⟩
    simp [List.getD_eq_getElem?_getD, hi2]
theorem open_leaks (h : DataW.trod enc Tryz.prog w base spare held fuel 24 [v] = some y) : ∃ a l c, v = .slice a (l : List SeLeak).length c ∧ SlOk a l.length c ∧ LeaksC w a l := by
  rcases open_fields Tryz.underlying24 Tryz.underlying37 (by kernel_rfl) (by kernel_rfl) h with hcs | ⟨x, len, cap, hcs, hl, hm, hf⟩
  · simp at hcs
    exact ⟨none, [], 0, hcs, ⟨Nat.le_refl _, by decide, fun _ => rfl⟩, fun i hi => absurd hi (Nat.not_lt_zero i)⟩
  · simp at hcs
    obtain ⟨l, hll, hp⟩ := list_of len (fun i (s : SeLeak) => ∃ b off, x = ⟨b, off, none⟩ ∧ b < w.heap.size ∧ w.cell? ⟨b, off + i * 3, none⟩ = some (.int .i64 s.src) ∧ w.cell? ⟨b, off + i * 3 + 1, none⟩ = some (.int .i64 s.dst) ∧ w.cell? ⟨b, off + i * 3 + 2, none⟩ = some (.bool s.sure)) (fun i hi => by
      obtain ⟨v0, y0, n0, c0, t0⟩ := hf i hi 0 _ rfl
      obtain ⟨v1, y1, n1, c1, t1⟩ := hf i hi 1 _ rfl
      obtain ⟨v2, y2, n2, c2, t2⟩ := hf i hi 2 _ rfl
      obtain ⟨z0, rfl⟩ := open_int1 t0
      obtain ⟨z1, rfl⟩ := open_int1 t1
      obtain ⟨z2, rfl⟩ := open_bool1 t2
      obtain ⟨v9, y9, n9, c9, _⟩ := hf 0 (by omega) 0 _ rfl
      obtain ⟨b, off, rfl⟩ := spot_zero (by simpa using c9)
      obtain ⟨hb, c0⟩ := add_cell c0
      rw [Addr.add_lit] at c1 c2
      exact ⟨⟨z0, z1, z2⟩, b, off, rfl, hb, c0, by rw [Nat.add_assoc]; exact c1, by rw [Nat.add_assoc]; exact c2⟩)
    refine ⟨some x, l, cap, by rw [hll]; exact hcs, ⟨by omega, by rw [← ML64]; exact hm, fun h => by cases h⟩, fun i hi => ?_⟩
    obtain ⟨b, off, e, h1⟩ := hp i hi
    exact ⟨b, off, by rw [e], h1⟩
theorem open_letters (h : DataW.trod enc Tryz.prog w base spare held fuel 25 [v] = some y) : ∃ a l c, v = .slice a (l : List SeLetter).length c ∧ SlOk a l.length c ∧ LettersC w a l := by
  rcases open_fields Tryz.underlying25 Tryz.underlying43 (by kernel_rfl) (by kernel_rfl) h with hcs | ⟨x, len, cap, hcs, hl, hm, hf⟩
  · simp at hcs
    exact ⟨none, [], 0, hcs, ⟨Nat.le_refl _, by decide, fun _ => rfl⟩, fun i hi => absurd hi (Nat.not_lt_zero i)⟩
  · simp at hcs
    obtain ⟨l, hll, hp⟩ := list_of len (fun i (s : SeLetter) => ∃ b off, x = ⟨b, off, none⟩ ∧ b < w.heap.size ∧ w.cell? ⟨b, off + i * 3, none⟩ = some (.int .i64 s.day) ∧ w.cell? ⟨b, off + i * 3 + 1, none⟩ = some (.int .i64 s.secrets) ∧ w.cell? ⟨b, off + i * 3 + 2, none⟩ = some (.int .i64 s.writer)) (fun i hi => by
      obtain ⟨v0, y0, n0, c0, t0⟩ := hf i hi 0 _ rfl
      obtain ⟨v1, y1, n1, c1, t1⟩ := hf i hi 1 _ rfl
      obtain ⟨v2, y2, n2, c2, t2⟩ := hf i hi 2 _ rfl
      obtain ⟨z0, rfl⟩ := open_int1 t0
      obtain ⟨z1, rfl⟩ := open_int1 t1
      obtain ⟨z2, rfl⟩ := open_int1 t2
      obtain ⟨v9, y9, n9, c9, _⟩ := hf 0 (by omega) 0 _ rfl
      obtain ⟨b, off, rfl⟩ := spot_zero (by simpa using c9)
      obtain ⟨hb, c0⟩ := add_cell c0
      rw [Addr.add_lit] at c1 c2
      exact ⟨⟨z0, z1, z2⟩, b, off, rfl, hb, c0, by rw [Nat.add_assoc]; exact c1, by rw [Nat.add_assoc]; exact c2⟩)
    refine ⟨some x, l, cap, by rw [hll]; exact hcs, ⟨by omega, by rw [← ML64]; exact hm, fun h => by cases h⟩, fun i hi => ?_⟩
    obtain ⟨b, off, e, h1⟩ := hp i hi
    exact ⟨b, off, by rw [e], h1⟩
theorem open_heards (h : DataW.trod enc Tryz.prog w base spare held fuel 26 [v] = some y) : ∃ a l c, v = .slice a (l : List SeHeard).length c ∧ SlOk a l.length c ∧ HeardC w a l := by
  rcases open_fields Tryz.underlying26 Tryz.underlying58 (by kernel_rfl) (by kernel_rfl) h with hcs | ⟨x, len, cap, hcs, hl, hm, hf⟩
  · simp at hcs
    exact ⟨none, [], 0, hcs, ⟨Nat.le_refl _, by decide, fun _ => rfl⟩, fun i hi => absurd hi (Nat.not_lt_zero i)⟩
  · simp at hcs
    obtain ⟨l, hll, hp⟩ := list_of len (fun i (s : SeHeard) => ∃ b off, x = ⟨b, off, none⟩ ∧ b < w.heap.size ∧ w.cell? ⟨b, off + i * 4, none⟩ = some (.int .i64 s.writer) ∧ w.cell? ⟨b, off + i * 4 + 1, none⟩ = some (.int .i64 s.secret) ∧ w.cell? ⟨b, off + i * 4 + 2, none⟩ = some (.int .i64 s.day) ∧ w.cell? ⟨b, off + i * 4 + 3, none⟩ = some (.bool s.knew)) (fun i hi => by
      obtain ⟨v0, y0, n0, c0, t0⟩ := hf i hi 0 _ rfl
      obtain ⟨v1, y1, n1, c1, t1⟩ := hf i hi 1 _ rfl
      obtain ⟨v2, y2, n2, c2, t2⟩ := hf i hi 2 _ rfl
      obtain ⟨v3, y3, n3, c3, t3⟩ := hf i hi 3 _ rfl
      obtain ⟨z0, rfl⟩ := open_int1 t0
      obtain ⟨z1, rfl⟩ := open_int1 t1
      obtain ⟨z2, rfl⟩ := open_int1 t2
      obtain ⟨z3, rfl⟩ := open_bool1 t3
      obtain ⟨v9, y9, n9, c9, _⟩ := hf 0 (by omega) 0 _ rfl
      obtain ⟨b, off, rfl⟩ := spot_zero (by simpa using c9)
      obtain ⟨hb, c0⟩ := add_cell c0
      rw [Addr.add_lit] at c1 c2 c3
      exact ⟨⟨z0, z1, z2, z3⟩, b, off, rfl, hb, c0, by rw [Nat.add_assoc]; exact c1, by rw [Nat.add_assoc]; exact c2, by rw [Nat.add_assoc]; exact c3⟩)
    refine ⟨some x, l, cap, by rw [hll]; exact hcs, ⟨by omega, by rw [← ML64]; exact hm, fun h => by cases h⟩, fun i hi => ?_⟩
    obtain ⟨b, off, e, h1⟩ := hp i hi
    exact ⟨b, off, by rw [e], h1⟩
end
theorem okWide_arr {P : Program} {w : World} {r : Reach} {base n : Nat} {t e : TypeId} {v : Value} (ht : P.underlying t = some (.array n e)) (h : Value.okWide P w r base t v) : ∃ cs, v = .agg cs ∧ cs.size = P.cellsOf t := by
  simp only [Value.okWide, ht] at h
  obtain ⟨cs, h1, h2, _⟩ := h
  exact ⟨cs, h1, h2⟩
theorem u8_nat {a : Int} (h : (Lit.int .u8 a).wf = true) : ∃ x : Nat, a = (x : Int) ∧ x ≤ 255 := by
  simp only [Lit.wf, Bool.and_eq_true, decide_eq_true_eq] at h
  have h1 : 0 ≤ a := h.1
  have h2 : a ≤ 255 := h.2
  exact ⟨a.toNat, by omega, by omega⟩
section
variable {H : Type} {enc : TypeId × Value → H} {w : World} {base b0 : Nat} {r : Reach} {spare : Nat → Bool} {held : Bool} {v : Value} {d : DataW H} {p : List MemPlace}
/-- A struct of one-cell fields, by value: its fields, one by one. -/
theorem open_str_any {P : Program} {t : TypeId} {fs : Array Field} (hs : P.underlying t = some (.struct fs)) (hone : oneCellFields P fs = true) (hC : P.cellsOf t = fs.size)
    (hv : Value.okWide P w r b0 t v) (h : DataW.Trod enc P w base spare held t v d p) :
    ∃ cs : Array Value, v = .agg cs ∧ cs.size = fs.size ∧ ∀ (j : Nat) (f : Field), fs[j]? = some f → ∃ (u : Value) (y : DataW H × List MemPlace) (n : Nat), cs[j]? = some u ∧ DataW.trod enc P w base spare held n f.type [u] = some y := by
  obtain ⟨cs, rfl, hsz⟩ := okWide_struct hs hv
  obtain ⟨fuel, hf⟩ := h
  rw [hC] at hsz
  obtain ⟨ys, n', hn', hy, hlen, hyl, hf⟩ := DataW.trod_struct hs hf
  refine ⟨cs, rfl, hsz, fun j f hj => ?_⟩
  obtain ⟨ho, hk⟩ := hone_of hone j f hj
  have hjl : j < fs.size := (Array.getElem?_eq_some_iff.1 hj).1
  have h1 := hf j f hj
  rw [ho, hk] at h1
  have ec : (Value.agg cs).cells.toList = cs.toList := rfl
  rw [ec] at h1
  have hcl : cs.toList.length = fs.size := hsz
  have hjc : j < cs.toList.length := by omega
  have hone' : (cs.toList.drop j).take 1 = [cs.toList[j]] := by
    rw [List.drop_eq_getElem_cons hjc]
    rfl
  rw [hone'] at h1
  have hys : ys[j]? = some (ys[j]'(by omega)) := List.getElem?_eq_getElem (by omega)
  refine ⟨cs.toList[j], _, _, ?_, h1.trans hys⟩
  rw [← Array.getElem?_toList]
  exact List.getElem?_eq_getElem hjc
/-- An array of one-cell elements, by value. -/
theorem open_arr_any {P : Program} {t e : TypeId} {n : Nat} (hs : P.underlying t = some (.array n e)) (hce : P.cellsOf e = 1) (hC : P.cellsOf t = n)
    (hv : Value.okWide P w r b0 t v) (h : DataW.Trod enc P w base spare held t v d p) :
    ∃ cs : Array Value, v = .agg cs ∧ cs.size = n ∧ ∀ (j : Nat), j < n → ∃ (u : Value) (y : DataW H × List MemPlace) (m : Nat), cs[j]? = some u ∧ DataW.trod enc P w base spare held m e [u] = some y := by
  obtain ⟨cs, rfl, hsz⟩ := okWide_arr hs hv
  obtain ⟨fuel, hf⟩ := h
  rw [hC] at hsz
  obtain ⟨ys, m, hn', hy, hlen, hyl, hf⟩ := DataW.trod_array hs hf
  refine ⟨cs, rfl, hsz, fun j hj => ?_⟩
  have h1 := hf j hj
  rw [hce, Nat.mul_one] at h1
  have ec : (Value.agg cs).cells.toList = cs.toList := rfl
  rw [ec] at h1
  have hcl : cs.toList.length = n := hsz
  have hjc : j < cs.toList.length := by omega
  have hone' : (cs.toList.drop j).take 1 = [cs.toList[j]] := by
    rw [List.drop_eq_getElem_cons hjc]
    rfl
  rw [hone'] at h1
  have hys : ys[j]? = some (ys[j]'(by omega)) := List.getElem?_eq_getElem (by omega)
  refine ⟨cs.toList[j], _, _, ?_, h1.trans hys⟩
  rw [← Array.getElem?_toList]
  exact List.getElem?_eq_getElem hjc
theorem open_u8 {fuel : Nat} {u : Value} {y : DataW H × List MemPlace} (h : DataW.trod enc Tryz.prog w base spare held fuel 5 [u] = some y) : ∃ n : Nat, u = .int .u8 (n : Int) ∧ n ≤ 255 := by
  obtain ⟨n, h1, _, h2⟩ := DataW.trod_int Tryz.underlying5 h
  simp at h1
  obtain ⟨x, rfl, hx⟩ := u8_nat h2
  exact ⟨x, h1, hx⟩
set_option maxRecDepth 100000 in
theorem open_u8s3 (hv : Value.okWide Tryz.prog w r b0 29 v) (h : DataW.Trod enc Tryz.prog w base spare held 29 v d p) :
    ∃ x0 x1 x2 : Nat, v = .agg #[.int .u8 (x0 : Int), .int .u8 (x1 : Int), .int .u8 (x2 : Int)] ∧ x0 ≤ 255 ∧ x1 ≤ 255 ∧ x2 ≤ 255 := by
  obtain ⟨cs, rfl, hsz, hf⟩ := open_arr_any Tryz.underlying29 (by kernel_rfl) (by kernel_rfl) hv h
  obtain ⟨u0, y0, m0, c0, t0⟩ := hf 0 (by decide)
  obtain ⟨x0, rfl, h0⟩ := open_u8 t0
  obtain ⟨u1, y1, m1, c1, t1⟩ := hf 1 (by decide)
  obtain ⟨x1, rfl, h1⟩ := open_u8 t1
  obtain ⟨u2, y2, m2, c2, t2⟩ := hf 2 (by decide)
  obtain ⟨x2, rfl, h2⟩ := open_u8 t2
  refine ⟨x0, x1, x2, ?_, h0, h1, h2⟩
  congr 1
  apply Array.ext_getElem?
  intro i
  by_cases hi : i < 3
  · have hc : i = 0 ∨ i = 1 ∨ i = 2 := by omega
    rcases hc with rfl | rfl | rfl
    all_goals assumption
  · rw [Array.getElem?_eq_none (by omega), Array.getElem?_eq_none (by simp; omega)]
set_option maxRecDepth 100000 in
/-- A room that came in. -/
theorem open_room (hv : Value.okWide Tryz.prog w r b0 28 v) (h : DataW.Trod enc Tryz.prog w base spare held 28 v d p) :
    ∃ a1 a2 a3 a4 a5 k1 k2 k3 k4 k5 m, v = roomV a1 a2 a3 a4 a5 k1 k2 k3 k4 k5 m ∧ RoomC w a1 a2 a3 a4 a5 k1 k2 k3 k4 k5 m := by
  obtain ⟨cs, rfl, hsz, hf⟩ := open_str_any Tryz.underlying28 (by kernel_rfl) (by kernel_rfl) hv h
  obtain ⟨u0, y0, m0, c0, t0⟩ := hf 0 _ rfl
  obtain ⟨u1, y1, m1, c1, t1⟩ := hf 1 _ rfl
  obtain ⟨u2, y2, m2, c2, t2⟩ := hf 2 _ rfl
  obtain ⟨u3, y3, m3, c3, t3⟩ := hf 3 _ rfl
  obtain ⟨u4, y4, m4, c4, t4⟩ := hf 4 _ rfl
  obtain ⟨a1, l1, k1, rfl, o1, h1, s1⟩ := open_claimants t0
  obtain ⟨a2, l2, k2, rfl, o2, h2⟩ := open_kept t1
  obtain ⟨a3, l3, k3, rfl, o3, h3⟩ := open_leaks t2
  obtain ⟨a4, l4, k4, rfl, o4, h4⟩ := open_letters t3
  obtain ⟨a5, l5, k5, rfl, o5, h5⟩ := open_heards t4
  refine ⟨a1, a2, a3, a4, a5, k1, k2, k3, k4, k5, ⟨l1, l2, l3, l4, l5⟩, ?_, o1, o2, o3, o4, o5, h1, h2, h3, h4, h5, s1⟩
  unfold roomV
  congr 1
  apply Array.ext_getElem?
  intro i
  by_cases hi : i < 5
  · have hc : i = 0 ∨ i = 1 ∨ i = 2 ∨ i = 3 ∨ i = 4 := by omega
    rcases hc with rfl | rfl | rfl | rfl | rfl
    all_goals assumption
  · rw [Array.getElem?_eq_none (by rw [hsz]; exact Nat.le_of_not_lt hi), Array.getElem?_eq_none (by simp; omega)]
end
end Go.Proofs.YtcgplocmncionaaGreat
namespace Go.Proofs.YtcgplocmncionaaGreat
open Go Go.RowKit
/-- A slice of bytes, cell by cell. -/
def BytesC (w : World) (a : Option Addr) (l : List Int) : Prop :=
  ∀ i (_ : i < l.length), ∃ b off, a = some ⟨b, off, none⟩ ∧ b < w.heap.size ∧ w.cell? ⟨b, off + i, none⟩ = some (.int .u8 l[i]) ∧ 0 ≤ l[i] ∧ l[i] ≤ 255
theorem BytesC.mono {w W : World} {a : Option Addr} {l : List Int} (h : BytesC w a l) (hb : Below w.heap.size w W) : BytesC W a l := fun i hi => by
  obtain ⟨b, off, e, hlt, hc, h2⟩ := h i hi
  exact ⟨b, off, e, Nat.lt_of_lt_of_le hlt hb.size, cell_below hb hc, h2⟩
end Go.Proofs.YtcgplocmncionaaGreat
namespace Go.Proofs.YtcgplocmncionaaGreat
open Go Go.RowKit Go.ChangeShapes Go.WideShapes Go.Deep Go.Joins
section
variable {H : Type} {enc : TypeId × Value → H} {w : World} {base : Nat} {spare : Nat → Bool} {held : Bool} {d : DataW H} {p : List MemPlace} {r : Reach} {b0 : Nat} {v : Value}
end
end Go.Proofs.YtcgplocmncionaaGreat
namespace Go.Proofs.YtcgplocmncionaaGreat
end Go.Proofs.YtcgplocmncionaaGreat
