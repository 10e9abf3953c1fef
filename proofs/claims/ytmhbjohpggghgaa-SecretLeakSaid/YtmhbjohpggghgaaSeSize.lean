/- What is proved here: a slice in a field of an argument takes at most the bytes of the form's reach. Over any program. -/
import Derived.Test.YtmhbjohpggghgaaSeOpen
import Derived.SizedLaws
set_option linter.unusedVariables false
set_option linter.unusedSimpArgs false
namespace Go.Proofs.Ytmhbjohpggghgaa
open Go Go.RowKit Go.ChangeShapes Go.WideShapes Go.ChangeAt Go.Deep Go.Joins
section
variable {H : Type} {enc : TypeId × Value → H} {w : World} {base : Nat} {spare : Nat → Bool} {held : Bool} {d : DataW H} {p : List MemPlace} {r : Reach} {b0 : Nat}
theorem field_bytes {P : Program} {t e : TypeId} {fs : Array Field} (hs : P.underlying t = some (.struct fs)) (hone : oneCellFields P fs = true) (hC : P.cellsOf t = fs.size)
    {cs : Array Value} (hv : Value.okWide P w r b0 t (.agg cs)) (h : DataW.Trod enc P w base spare held t (.agg cs) d p) (hw : ∀ x ∈ DataW.weights P t d, x ≤ reachBytes)
    {j : Nat} {f : Field} (hj : fs[j]? = some f) (hu : P.underlying f.type = some (.slice e)) {a : Option Addr} {n c : Nat} (hval : cs[j]? = some (.slice a n c)) : n * P.bytesOf e ≤ reachBytes := by
  obtain ⟨cs', hcs, hsz⟩ := okWide_struct hs hv
  cases hcs
  obtain ⟨fuel, hf⟩ := h
  rw [hC] at hsz
  obtain ⟨ys, n', hn', hy, hlen, hyl, hf⟩ := DataW.trod_struct hs hf
  obtain ⟨ho, hk⟩ := hone_of hone j f hj
  have hjl : j < fs.size := (Array.getElem?_eq_some_iff.1 hj).1
  have h1 := hf j f hj
  rw [ho, hk] at h1
  have ec : (Value.agg cs).cells.toList = cs.toList := rfl
  rw [ec] at h1
  have hcl : cs.toList.length = fs.size := hsz
  have hjc : j < cs.toList.length := by omega
  have hone' : (cs.toList.drop j).take 1 = [cs.toList[j]] := by
    rw [List.drop_eq_getElem_cons hjc]
    rfl
  have he : cs.toList[j] = .slice a n c := by
    have := hval
    rw [← Array.getElem?_toList, List.getElem?_eq_getElem hjc] at this
    exact Option.some.inj this
  rw [hone', he] at h1
  have hys : ys[j]? = some (ys[j]'(by omega)) := List.getElem?_eq_getElem (by omega)
  rw [hys] at h1
  have hd : d = .agg (ys.map (·.1)) := (Prod.mk.inj hy).1
  rcases DataW.trod_slice hu h1 with ⟨h2, _⟩ | ⟨a', len, cap, elems, rest, m, _, h2, h3, _, _, _, h4, _⟩
  · cases h2; simp
  · cases h2
    have hm := hw ((elems.length + rest.length) * P.bytesOf e) (by
      rw [hd]
      unfold DataW.weights
      rw [hs]
      refine DataW.weights_mem_each (j := j) (t := f.type) (d := (ys[j]'(by omega)).1) (by rw [List.getElem?_map, Array.getElem?_toList, hj]; rfl) (by rw [List.getElem?_map, hys]; rfl) _ ?_
      rw [h3]
      simp [DataW.weights, hu])
    rw [← h4]
    exact Nat.le_trans (Nat.mul_le_mul_right _ (Nat.le_add_right _ _)) hm
theorem weights_of {P : Program} {ts : List TypeId} {ds : List (DataW H)} (h : (DataW.weightsEach P ts ds).all (· ≤ reachBytes) = true) {j : Nat} {t : TypeId} {d : DataW H} (ht : ts[j]? = some t) (hd : ds[j]? = some d) : ∀ x ∈ DataW.weights P t d, x ≤ reachBytes := fun x hx => by
  have := List.all_eq_true.1 h _ (DataW.weights_mem_each ht hd x hx)
  simpa using this
set_option maxRecDepth 100000 in
theorem room_heard_bytes {v : Value} (hv : Value.okWide Try.prog w r b0 28 v) (h : DataW.Trod enc Try.prog w base spare held 28 v d p) (hw : ∀ x ∈ DataW.weights Try.prog 28 d, x ≤ reachBytes)
    {a1 a2 a3 a4 a5 : Option Addr} {k1 k2 k3 k4 k5 : Nat} {m : SeRoom} (e : v = roomV a1 a2 a3 a4 a5 k1 k2 k3 k4 k5 m) : (m.leaks.length + 1) * 24 ≤ 140737488355328 ∧ (m.heard.length + 1) * 32 ≤ 140737488355328 := by
  subst e
  have hr : reachBytes = 140737488351232 := rfl
  have b1 : Try.prog.bytesOf 79 = 24 := by kernel_rfl
  have b2 : Try.prog.bytesOf 74 = 32 := by kernel_rfl
  have h1 := field_bytes (e := 79) Try.underlying28 (by kernel_rfl) (by kernel_rfl) hv h hw (j := 2) rfl Try.underlying24 rfl
  have h2 := field_bytes (e := 74) Try.underlying28 (by kernel_rfl) (by kernel_rfl) hv h hw (j := 4) rfl Try.underlying26 rfl
  rw [b1] at h1
  rw [b2] at h2
  omega
end
end Go.Proofs.Ytmhbjohpggghgaa
