/- What is proved here: the contract of the program's Check of layer 9. Conditions: the hall lies in memory. -/
import Derived.Test.YtchnpekgmkhacaaDeChk
import Derived.Shelf.RegionOpen
set_option linter.unusedVariables false
set_option linter.unusedSimpArgs false
namespace Go.Proofs.Ytchnpekgmkhacaa
open Go Go.RowKit Go.Shelf

theorem part_fail (part : Int) (n most : Nat) (f : Nat → Int) (next : Int × Int × Int) : checkPart part n most f next = if (failOf n most f).2 = 0 then next else (part, (failOf n most f).1, (failOf n most f).2) := by
  by_cases h : most < n
  · rw [checkPart_long h, failOf_long h]; rfl
  · unfold checkPart failOf
    rw [if_neg h, if_neg h]
    cases e : firstErr n f with
    | none => rfl
    | some i =>
      have hne : f i ≠ 0 := by
        have := List.find?_some e
        simpa using this
      simp only [if_neg hne]
theorem tup3 {p q r p' q' r' : Int} (h : (p, q, r) = (p', q', r')) : Ending.returned (.tuple #[.int .i64 p, .int .i64 q, .int .i64 r]) = Ending.returned (.tuple #[.int .i64 p', .int .i64 q', .int .i64 r']) := by cases h; rfl
theorem tup2i {v : Value} {a b : Int} (h : a = b) : Ending.returned (.tuple #[v, .int .i64 a]) = .returned (.tuple #[v, .int .i64 b]) := by rw [h]

theorem DFailWs_any (aw ac : Option Addr) (kw kc : Nat) (h : DeH) (B : Nat) (w W : World) (hm : HallC w aw ac kw kc h) (hb : Below w.heap.size w W) (c1 : W.cell? ⟨B, 1, none⟩ = some (.slice aw h.writers.length kw)) :
    Calls Try.prog 57 #[.slice aw h.writers.length kw, .int .i64 3, .func (.func 58) #[] #[.pointer (some ⟨B, 0, none⟩)]] W fun e w' => e = .returned (.tuple #[.int .i64 (failOf h.writers.length 3 (deWErr h)).1, .int .i64 (failOf h.writers.length 3 (deWErr h)).2]) ∧ Below W.heap.size W w' :=
  DFailW_any aw h.writers kw 58 3 #[.pointer (some ⟨B, 0, none⟩)] (deWErr h) W hm.okw.len (by decide) (hm.mono hb).writers (enters_of Try.func58 (by kernel_rfl) rfl)
    (fun k hk V hV => DChkW_any aw ac kw kc h k B V ((hm.mono hb).mono hV) hk (cell_below hV c1))
theorem DFailCs_any (aw ac : Option Addr) (kw kc : Nat) (h : DeH) (B : Nat) (w W : World) (hm : HallC w aw ac kw kc h) (hb : Below w.heap.size w W) (c2 : W.cell? ⟨B, 2, none⟩ = some (.slice ac h.customers.length kc)) :
    Calls Try.prog 62 #[.slice ac h.customers.length kc, .int .i64 5, .func (.func 63) #[] #[.pointer (some ⟨B, 0, none⟩)]] W fun e w' => e = .returned (.tuple #[.int .i64 (failOf h.customers.length 5 (deCErr h)).1, .int .i64 (failOf h.customers.length 5 (deCErr h)).2]) ∧ Below W.heap.size W w' :=
  DFailC_any ac h.customers kc 63 5 #[.pointer (some ⟨B, 0, none⟩)] (deCErr h) W hm.okc.len (by decide) (hm.mono hb).custs (enters_of Try.func63 (by kernel_rfl) rfl)
    (fun k hk V hV => DChkC_any aw ac kw kc h k B V ((hm.mono hb).mono hV) hk (cell_below hV c2))

set_option maxRecDepth 100000 in
set_option maxHeartbeats 2000000 in
theorem DCheck_any (aw ac : Option Addr) (kw kc : Nat) (h : DeH) (w : World) (hm : HallC w aw ac kw kc h) :
    Calls Try.prog 16 #[(.agg #[.int .i64 h.wax, .slice aw h.writers.length kw, .slice ac h.customers.length kc])] w fun e w' => e = .returned (.tuple #[.int .i64 (deCheck h).1, .int .i64 (deCheck h).2.1, .int .i64 (deCheck h).2.2]) ∧ Below w.heap.size w w' := by
  have HE : Hid (deCheck h = if inB h.wax 0 5 then checkPart 2 h.writers.length 3 (deWErr h) (checkPart 3 h.customers.length 5 (deCErr h) (0, 0, 0)) else (1, 0, 7)) := rfl
  rw [part_fail, part_fail] at HE
  generalize deCheck h = r at HE ⊢
  obtain ⟨r1, r2, r3⟩ := r
  simp only
  have F1 := fun (B : Nat) (W : World) hb hc => DFailWs_any aw ac kw kc h B w W hm hb hc
  have F2 := fun (B : Nat) (W : World) hb hc => DFailCs_any aw ac kw kc h B w W hm hb hc
  have B1 := fun (a : Nat) (W : World) hc => MBeyondOne_any h.wax 0 5 a W hc
  generalize failOf h.writers.length 3 (deWErr h) = f1 at F1 HE
  generalize failOf h.customers.length 5 (deCErr h) = f2 at F2 HE
  generalize inB h.wax 0 5 = b1 at B1 HE
  obtain ⟨p1, q1⟩ := f1
  obtain ⟨p2, q2⟩ := f2
  simp only at F1 F2 HE
  have F1 := Lib.hid F1
  have F2 := Lib.hid F2
  have B1 := Lib.hid B1
  have hQ0 := Below.refl (w.heap.size + 1) (w.alloc (.cells #[.int .i64 h.wax, .slice aw h.writers.length kw, .slice ac h.customers.length kc] 25))
  clear hm
  cases b1
  · go_enter Try.func16, Try.ntmps16
    go_wp2_with (go_at_call 56; go_must ((with_reducible refine (B1.out _ _ ?_).mono ?_); (simp); rintro e w2 ⟨rfl, hb2⟩; have hQ2 := (hQ0.alloc (by simp) (.cells #[.int .i64 h.wax] 3)).trans (hb2.mono (by simp)); dsimp only))
    go_ret3
    exact ⟨(tup3 (HE.out.trans (by simp))).symm, box_old hQ2⟩
  replace HE := Lib.hid (HE.out.trans (if_pos rfl))
  by_cases h1 : q1 = 0
  · have g1 := nei_f h1
    replace HE := Lib.hid (HE.out.trans (if_pos h1))
    clear h1
    by_cases h2 : q2 = 0
    · have g2 := nei_f h2
      replace HE := Lib.hid (HE.out.trans (if_pos h2))
      clear h2
      go_enter Try.func16, Try.ntmps16
      go_wp2_with (first
        | (go_at_call 62; go_must ((with_reducible refine (F2.out _ _ (box_old hQ3) y2).mono ?_); rintro e w4 ⟨rfl, hb4⟩; have hQ4 := hQ3.trans (hb4.mono (by have := hQ3.size; simp at this; omega)); dsimp only))
        | (go_at_call 57; go_must ((with_reducible refine (F1.out _ _ (box_old hQ2) x1).mono ?_); rintro e w3 ⟨rfl, hb3⟩; have hQ3 := hQ2.trans (hb3.mono (by have := hQ2.size; simp at this; omega)); have y2 := box_cell hQ3 2 _ rfl; have yz := box_size hQ3; dsimp only))
        | (go_at_call 56; go_must ((with_reducible refine (B1.out _ _ ?_).mono ?_); (simp); rintro e w2 ⟨rfl, hb2⟩; have hQ2 := (hQ0.alloc (by simp) (.cells #[.int .i64 h.wax] 3)).trans (hb2.mono (by simp)); have x1 := box_cell hQ2 1 _ rfl; have xz := box_size hQ2; dsimp only)))
      go_ret3
      exact ⟨(tup3 HE.out).symm, box_old hQ4⟩
    · have g2 := nei_t h2
      replace HE := Lib.hid (HE.out.trans (if_neg h2))
      clear h2
      go_enter Try.func16, Try.ntmps16
      go_wp2_with (first
        | (go_at_call 62; go_must ((with_reducible refine (F2.out _ _ (box_old hQ3) y2).mono ?_); rintro e w4 ⟨rfl, hb4⟩; have hQ4 := hQ3.trans (hb4.mono (by have := hQ3.size; simp at this; omega)); dsimp only))
        | (go_at_call 57; go_must ((with_reducible refine (F1.out _ _ (box_old hQ2) x1).mono ?_); rintro e w3 ⟨rfl, hb3⟩; have hQ3 := hQ2.trans (hb3.mono (by have := hQ2.size; simp at this; omega)); have y2 := box_cell hQ3 2 _ rfl; have yz := box_size hQ3; dsimp only))
        | (go_at_call 56; go_must ((with_reducible refine (B1.out _ _ ?_).mono ?_); (simp); rintro e w2 ⟨rfl, hb2⟩; have hQ2 := (hQ0.alloc (by simp) (.cells #[.int .i64 h.wax] 3)).trans (hb2.mono (by simp)); have x1 := box_cell hQ2 1 _ rfl; have xz := box_size hQ2; dsimp only)))
      go_ret3
      exact ⟨(tup3 HE.out).symm, box_old hQ4⟩
  · have g1 := nei_t h1
    replace HE := Lib.hid (HE.out.trans (if_neg h1))
    clear h1
    go_enter Try.func16, Try.ntmps16
    go_wp2_with (first
      | (go_at_call 57; go_must ((with_reducible refine (F1.out _ _ (box_old hQ2) x1).mono ?_); rintro e w3 ⟨rfl, hb3⟩; have hQ3 := hQ2.trans (hb3.mono (by have := hQ2.size; simp at this; omega)); dsimp only))
      | (go_at_call 56; go_must ((with_reducible refine (B1.out _ _ ?_).mono ?_); (simp); rintro e w2 ⟨rfl, hb2⟩; have hQ2 := (hQ0.alloc (by simp) (.cells #[.int .i64 h.wax] 3)).trans (hb2.mono (by simp)); have x1 := box_cell hQ2 1 _ rfl; have xz := box_size hQ2; dsimp only)))
    go_ret3
    exact ⟨(tup3 HE.out).symm, box_old hQ3⟩
end Go.Proofs.Ytchnpekgmkhacaa
