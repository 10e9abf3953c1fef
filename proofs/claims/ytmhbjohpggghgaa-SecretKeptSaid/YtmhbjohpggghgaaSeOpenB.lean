/- What is proved here: a plan by turns as an argument of layer 12's law, opened. No condition. -/
import Derived.Test.YtmhbjohpggghgaaSeOpen
import Derived.Test.YtmhbjohpggghgaaSeBytes
set_option linter.unusedVariables false
set_option linter.unusedSimpArgs false
namespace Go.Proofs.Ytmhbjohpggghgaa
open Go Go.RowKit Go.ChangeShapes Go.WideShapes Go.Deep Go.Joins
section
variable {H : Type} {enc : TypeId × Value → H} {w : World} {base : Nat} {spare : Nat → Bool} {held : Bool} {d : DataW H} {p : List MemPlace} {r : Reach} {b0 : Nat} {v : Value}
theorem open_bytes1 {fuel : Nat} {y : DataW H × List MemPlace} (h : DataW.trod enc Try.prog w base spare held fuel 62 [v] = some y) : ∃ a l c, v = .slice a (l : List Int).length c ∧ SlOk a l.length c ∧ BytesC w a l ∧ ∀ x ∈ l, 0 ≤ x ∧ x ≤ 255 := by
  rcases open_ints Try.underlying62 Try.underlying5 (by kernel_rfl) h with ⟨hcs, _⟩ | ⟨x, len, cap, zs, hcs, _, hl, hm, hz, _, hcell, hwz⟩
  · simp at hcs
    exact ⟨none, [], 0, hcs, ⟨Nat.le_refl _, by decide, fun _ => rfl⟩, fun i hi => absurd hi (Nat.not_lt_zero i), by simp⟩
  · simp at hcs
    have hle : len ≤ zs.length := by rw [hz]; split <;> omega
    have hlen : (zs.take len).length = len := by simp; omega
    have hb : ∀ x ∈ zs.take len, 0 ≤ x ∧ x ≤ 255 := fun x hx => by
      obtain ⟨y, rfl, hy⟩ := u8_nat (hwz x (List.mem_of_mem_take hx))
      omega
    refine ⟨some x, zs.take len, cap, by rw [hlen]; exact hcs, ⟨by omega, by rw [← ML64]; exact hm, fun h => by cases h⟩, fun i hi => ?_, hb⟩
    have hi2 : i < zs.length := by omega
    obtain ⟨b, off, rfl⟩ := spot_zero (hcell 0 (by omega))
    obtain ⟨hb2, hc⟩ := add_cell (hcell i hi2)
    have hx := hb _ (List.getElem_mem hi)
    refine ⟨b, off, rfl, hb2, hc.trans ?_, hx.1, hx.2⟩
    simp [List.getD_eq_getElem?_getD, hi2]
set_option maxRecDepth 100000 in
theorem open_planned (hv : Value.okWide Try.prog w r b0 64 v) (h : DataW.Trod enc Try.prog w base spare held 64 v d p) :
    ∃ ab lb cb x0, v = .agg #[.slice ab (lb : List Int).length cb, .int .u8 ((x0 : Nat) : Int)] ∧ SlOk ab lb.length cb ∧ BytesC w ab lb ∧ (∀ x ∈ lb, 0 ≤ x ∧ x ≤ 255) ∧ x0 ≤ 255 := by
  obtain ⟨cs, rfl, hsz, hf⟩ := open_str_any Try.underlying64 (by kernel_rfl) (by kernel_rfl) hv h
  obtain ⟨u0, y0, m0, c0, t0⟩ := hf 0 _ rfl
  obtain ⟨u1, y1, m1, c1, t1⟩ := hf 1 _ rfl
  obtain ⟨ab, lb, cb, rfl, o1, h1, hb⟩ := open_bytes1 t0
  obtain ⟨x0, rfl, hx⟩ := open_u8 t1
  refine ⟨ab, lb, cb, x0, ?_, o1, h1, hb, hx⟩
  congr 1
  apply Array.ext_getElem?
  intro i
  by_cases hi : i < 2
  · have hc : i = 0 ∨ i = 1 := by omega
    rcases hc with rfl | rfl
    all_goals assumption
  · rw [Array.getElem?_eq_none (by rw [hsz]; exact Nat.le_of_not_lt hi), Array.getElem?_eq_none (by simp; omega)]
end
end Go.Proofs.Ytmhbjohpggghgaa
