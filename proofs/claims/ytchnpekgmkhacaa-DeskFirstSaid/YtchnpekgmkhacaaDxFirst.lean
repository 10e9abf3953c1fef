/- What is proved here: the walk of DeskFirst: it returns true, and turns nothing that was there. Conditions: the hall lies in memory. -/
import Derived.Test.YtchnpekgmkhacaaDxFirstA
import Derived.Test.YtchnpekgmkhacaaDxFirstB
set_option linter.unusedVariables false
set_option linter.unusedSimpArgs false
namespace Go.Proofs.Ytchnpekgmkhacaa
open Go Go.RowKit
set_option maxRecDepth 100000 in
set_option maxHeartbeats 16000000 in
theorem DeskFirst_walk (aw ac : Option Addr) (kw kc : Nat) (h : DeH) (ax : Option Addr) (x : List Int) (cx : Nat) (ay : Option Addr) (y : List Int) (cy : Nat) (w : World) (hm : HallC w aw ac kw kc h) (hox : SlOk ax x.length cx) (hix : BytesC w ax x) (hoy : SlOk ay y.length cy) (hiy : BytesC w ay y) : Calls Try.prog 9 #[(.agg #[.int .i64 h.wax, .slice aw h.writers.length kw, .slice ac h.customers.length kc]), .slice ax x.length cx, .slice ay y.length cy] w fun e w' => e = .returned (.bool true) ∧ Below w.heap.size w w' := by
  obtain ⟨X, hX⟩ : ∃ X : World, X = (w.alloc (.cells #[.int .i64 h.wax, .slice aw h.writers.length kw, .slice ac h.customers.length kc] 25)) := ⟨_, rfl⟩
  have hwX : Below w.heap.size w X := by rw [hX]; exact (by (repeat' (first | assumption | exact Below.refl _ _ | refine below_drew' ?_ | refine Below.setCell ?_ (by first | omega | (simp <;> omega)) _ | refine Below.alloc ?_ (by first | omega | (simp <;> omega)) _)))
  have g1 : X.heap[w.heap.size]? = some (.cells #[.int .i64 h.wax, .slice aw h.writers.length kw, .slice ac h.customers.length kc] 25 (0, 0)) := by rw [hX]; (repeat' (first | exact alloc_at _ _ (by simp) | refine (heap_alloc_old _ _ (by first | omega | (simp <;> omega))).trans ?_))
  replace g1 := fun (V : World) (h : Below X.heap.size X V) => (h.block _ (lt_of_block g1)).trans g1
  have HC : Hid (∀ V, Below X.heap.size X V → (V.cell? ⟨w.heap.size, 0, none⟩ = some (.int .i64 h.wax) ∧ V.cell? ⟨w.heap.size, 1, none⟩ = some (.slice aw h.writers.length kw) ∧ V.cell? ⟨w.heap.size, 2, none⟩ = some (.slice ac h.customers.length kc) ∧ w.heap.size < V.heap.size)) := Lib.hid (fun V h => ⟨blk_cell 0 (g1 V h) rfl, blk_cell 1 (g1 V h) rfl, blk_cell 2 (g1 V h) rfl, lt_of_block (g1 V h)⟩)
  have M := Lib.hid (fun (V : World) (h : Below X.heap.size X V) => (hm.mono hwX).mono h)
  clear g1
  have hQ := Below.refl X.heap.size X
  have hx := HC.out _ hQ
  have MX := Lib.hid (fun (V : World) (h : Below X.heap.size X V) => (hix.mono hwX).mono h)
  have MY := Lib.hid (fun (V : World) (h : Below X.heap.size X V) => (hiy.mono hwX).mono h)
  by_cases he : deErr h = 0
  · have hvd := Lib.hid (decide_eq_true he)
    have hv := deValid_of he
    cases hA : anyD h x with
    | none =>
      have AN := Lib.hid (fun (V : World) (hq : Below X.heap.size X V) => DAny_none aw ac kw kc h ax x cx hA V (M.out _ hq) hv hox (MX.out _ hq))
      clear hA he
      go_enter Try.func9, Try.ntmps9
      go_upto_region 1 with (fail)
      rw [← hX]
      clear hX
      go_wp2_with (first
        | (go_at_call 23; (with_reducible refine (DAwake_any _).mono ?_); rintro e w5 ⟨rfl, hb⟩; replace hQ := q_on hQ hb; replace hx := HC.out _ hQ; dsimp only)
        | (go_at_call 40; (with_reducible refine (AN.out _ hQ).mono ?_); rintro e w4 ⟨rfl, hb⟩; replace hQ := q_on hQ hb; replace hx := HC.out _ hQ; dsimp only)
        | (go_at_call 37; (with_reducible refine (DValid_is _ _ _ _ h true hvd.out _ (M.out _ hQ)).mono ?_); rintro e w2 ⟨rfl, hb⟩; replace hQ := q_on hQ hb; replace hx := HC.out _ hQ; dsimp only))
      go_ret
      exact ⟨rfl, hwX.trans (hQ.mono hwX.size)⟩
    | some p =>
      cases hR : lateFrom h 0 (deSealed h p) none with
      | none => exact DeskFirst_none aw ac kw kc h ax x cx ay y cy w hm hox hix hoy hiy he p hA hR
      | some f => exact DeskFirst_some aw ac kw kc h ax x cx ay y cy w hm hox hix hoy hiy he p hA f hR
  · have hvd := Lib.hid (decide_eq_false he)
    have hpe := ends_bad he []
    have hbe : deLate h [] = (0, deErr h) := by unfold deLate; rw [if_neg (by rw [hpe]; exact he), hpe]
    have hne := nei_t he
    have LT := fun (V : World) (hq : Below X.heap.size X V) => DA_Late aw ac kw kc h none [] 0 0 (deErr h) hbe V (M.out _ hq) ⟨by simp, by omega, fun _ => rfl⟩ (by simp) (RowsC.nil _ _)
    obtain ⟨er, her⟩ : ∃ er, er = deErr h := ⟨_, rfl⟩
    rw [← her] at hne LT
    rw [List.length_nil] at LT
    replace LT := Lib.hid LT
    clear he her hbe hpe
    go_enter Try.func9, Try.ntmps9
    go_upto_region 1 with (fail)
    rw [← hX]
    clear hX
    go_wp2_with (first
      | (go_at_call 23; (with_reducible refine (DAwake_any _).mono ?_); rintro e w4 ⟨rfl, hb⟩; replace hQ := q_on hQ hb; replace hx := HC.out _ hQ; dsimp only)
      | (go_at_call 24; (with_reducible refine (LT.out _ hQ).mono ?_); rintro e w3 ⟨rfl, hb⟩; replace hQ := q_on hQ hb; replace hx := HC.out _ hQ; dsimp only)
      | (go_at_call 37; (with_reducible refine (DValid_is _ _ _ _ h false hvd.out _ (M.out _ hQ)).mono ?_); rintro e w2 ⟨rfl, hb⟩; replace hQ := q_on hQ hb; replace hx := HC.out _ hQ; dsimp only))
    go_ret
    exact ⟨rfl, hwX.trans (hQ.mono hwX.size)⟩
end Go.Proofs.Ytchnpekgmkhacaa
