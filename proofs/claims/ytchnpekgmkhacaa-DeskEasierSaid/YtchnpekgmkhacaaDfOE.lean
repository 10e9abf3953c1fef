/- What is proved here: the argument that says how a hall is easier, opened. No condition. -/
import Derived.Test.YtchnpekgmkhacaaDfO
set_option linter.unusedVariables false
set_option linter.unusedSimpArgs false
namespace Go.Proofs.Ytchnpekgmkhacaa
open Go Go.RowKit Go.ChangeShapes Go.WideShapes Go.Deep Go.Joins
theorem list9 {l : List Value} (h : l.length = 9) : ∃ a b c d e f g i j, l = [a, b, c, d, e, f, g, i, j] := by
  match l, h with
  | [a, b, c, d, e, f, g, i, j], _ => exact ⟨a, b, c, d, e, f, g, i, j, rfl⟩
section
variable {H : Type} {enc : TypeId × Value → H} {w : World} {base b0 : Nat} {r : Reach} {spare : Nat → Bool} {held : Bool} {v : Value} {d : DataW H} {p : List MemPlace}
set_option maxRecDepth 100000 in
theorem open_easier (hv : Value.okWide Try.prog w r b0 78 v) (h : DataW.Trod enc Try.prog w base spare held 78 v d p) :
    ∃ (s0 s1 s2 s3 s4 : Nat) (nm : ByteArray) (kn fl fh : Int), v = .agg #[.int .u8 (s0 : Int), .int .u8 (s1 : Int), .int .u8 (s2 : Int), .int .u8 (s3 : Int), .int .u8 (s4 : Int), .string nm, .int .i64 kn, .int .i64 fl, .int .i64 fh] ∧
      s0 ≤ 255 ∧ s1 ≤ 255 ∧ s2 ≤ 255 ∧ s3 ≤ 255 ∧ s4 ≤ 255 ∧ nm.size ≤ 9223372036854775807 := by
  have k9 : Try.prog.cellsOf 78 = 9 := by kernel_rfl
  have ku : Try.prog.cellsOf 5 = 1 := by kernel_rfl
  have kw : Try.prog.cellsOf 72 = 4 := by kernel_rfl
  have ks : Try.prog.cellsOf 9 = 1 := by kernel_rfl
  have ki : Try.prog.cellsOf 3 = 1 := by kernel_rfl
  have kp : Try.prog.cellsOf 53 = 2 := by kernel_rfl
  obtain ⟨cs, rfl, hsz⟩ := okWide_struct Try.underlying78 hv
  rw [k9] at hsz
  obtain ⟨fuel, hf⟩ := h
  obtain ⟨ys, n', hn', hy, hlen, hyl, hf⟩ := DataW.trod_struct Try.underlying78 hf
  have ec : (Value.agg cs).cells.toList = cs.toList := rfl
  rw [ec] at hf
  obtain ⟨q0, q1, q2, q3, q4, q5, q6, q7, q8, hl⟩ := list9 (show cs.toList.length = 9 from hsz)
  rw [hl] at hf
  have t0 := hf 0 _ rfl
  have t1 := hf 1 _ rfl
  have t2 := hf 2 _ rfl
  have t3 := hf 3 _ rfl
  have t4 := hf 4 _ rfl
  have t5 := hf 5 _ rfl
  simp only [List.getElem_toArray, List.getElem_cons_zero, List.getElem_cons_succ] at t0 t1 t2 t3 t4 t5
  rw [ku] at t0 t1 t2 t3 t4
  rw [kw] at t5
  have hy6 : ys.length = 6 := hyl
  obtain ⟨s0, e0, g0⟩ := open_u8 (u := q0) (t0.trans (List.getElem?_eq_getElem (by omega)))
  obtain ⟨s1, e1, g1⟩ := open_u8 (u := q1) (t1.trans (List.getElem?_eq_getElem (by omega)))
  obtain ⟨s2, e2, g2⟩ := open_u8 (u := q2) (t2.trans (List.getElem?_eq_getElem (by omega)))
  obtain ⟨s3, e3, g3⟩ := open_u8 (u := q3) (t3.trans (List.getElem?_eq_getElem (by omega)))
  obtain ⟨s4, e4, g4⟩ := open_u8 (u := q4) (t4.trans (List.getElem?_eq_getElem (by omega)))
  obtain ⟨zs, m', hm', hz, zlen, zl, hg⟩ := DataW.trod_struct Try.underlying72 (t5.trans (List.getElem?_eq_getElem (by omega)))
  have u0 := hg 0 _ rfl
  have u1 := hg 1 _ rfl
  have u2 := hg 2 _ rfl
  simp only [List.getElem_toArray, List.getElem_cons_zero, List.getElem_cons_succ] at u0 u1 u2
  rw [ks] at u0
  rw [ki] at u1
  rw [kp] at u2
  have hz3 : zs.length = 3 := zl
  obtain ⟨nm, e5, hnm⟩ := open_str (v := q5) (u0.trans (List.getElem?_eq_getElem (by omega)))
  obtain ⟨kn, e6⟩ := open_int1 (v := q6) (u1.trans (List.getElem?_eq_getElem (by omega)))
  obtain ⟨fl, fh, e7, e8⟩ := open_span2 (c0 := q7) (c1 := q8) (u2.trans (List.getElem?_eq_getElem (by omega)))
  subst e0 e1 e2 e3 e4 e5 e6 e7 e8
  exact ⟨s0, s1, s2, s3, s4, nm, kn, fl, fh, congrArg Value.agg (Array.ext' hl), g0, g1, g2, g3, g4, hnm⟩
end
end Go.Proofs.Ytchnpekgmkhacaa
