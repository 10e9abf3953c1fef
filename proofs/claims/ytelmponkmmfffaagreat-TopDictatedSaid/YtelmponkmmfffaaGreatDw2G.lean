/- What is proved here: contracts of the reference of layer 9: Later. Condition: the hall lies in memory. -/
/- What is proved here: contracts of the laws' span, Plan and Hall of layer 9. No condition. -/
/- What is proved here: the functions of layer 9 and of its reference, at halls whose answers are named. Conditions: the hall lies in memory. -/
import Derived.Test.YtelmponkmmfffaaGreatDrRG
import Derived.Test.YtelmponkmmfffaaGreatDeFlatG
import Derived.Test.YtelmponkmmfffaaGreatDrIG
import Derived.Test.YtelmponkmmfffaaGreatDeBest2G
import Derived.Test.YtelmponkmmfffaaGreatDrHG
import Derived.Test.YtelmponkmmfffaaGreatDrNG
set_option linter.unusedVariables false
set_option linter.unusedSimpArgs false
namespace Go.Proofs.YtelmponkmmfffaaGreat
open Go Go.RowKit Go.Shelf

end Go.Proofs.YtelmponkmmfffaaGreat
namespace Go.Proofs.YtelmponkmmfffaaGreat
open Go Go.RowKit

theorem al_on (W : World) (o : Obj) : Below W.heap.size W (W.alloc o) := (Below.refl _ _).alloc (Nat.le_refl _) o
theorem q_on {X V V' : World} (h : Below X.heap.size X V) (h2 : Below V.heap.size V V') : Below X.heap.size X V' := h.trans (h2.mono h.size)
theorem DSpan_any (lo hi : Int) (w : World) : Calls Tryz.prog 42 #[.int .i64 lo, .int .i64 hi] w fun e w' => e = .returned (.agg #[.int .i64 lo, .int .i64 hi]) ∧ Below w.heap.size w w' := by
  go_enter Tryz.func42, Tryz.ntmps42
  go_wp2
  (try simp only [Exit.inBlock, Exit.then])
  refine bodyPost_ret (v := .agg #[.int .i64 lo, .int .i64 hi]) ?_ rfl ⟨rfl, ?_⟩
  · rw [results_cell1 rfl]
    go_simp
  · exact (by (repeat' (first | assumption | exact Below.refl _ _ | refine below_drew' ?_ | refine Below.setCell ?_ (by first | omega | (simp <;> omega)) _ | refine Below.alloc ?_ (by first | omega | (simp <;> omega)) _)))
theorem DSpanX_any (lo hi : Int) (w : World) : Calls Tryz.prog 42 #[.int .i64 lo, .int .i64 hi] w fun e w' => e = .returned (.agg #[.int .i64 lo, .int .i64 hi]) ∧ w' = w.alloc (.cells #[.int .i64 lo, .int .i64 hi] 37) := by
  go_enter Tryz.func42, Tryz.ntmps42
  go_wp2
  (try simp only [Exit.inBlock, Exit.then])
  refine bodyPost_ret (v := .agg #[.int .i64 lo, .int .i64 hi]) ?_ rfl ⟨rfl, ?_⟩
  · rw [results_cell1 rfl]
    go_simp
  · rfl
theorem ints_blk {W : World} {b : Nat} {t : TypeId} {l : List Int} (h : W.heap[b]? = some (.cells (l.map (Value.int .i64)).toArray t (0, 0))) : IntsC W (some ⟨b, 0, none⟩) l := fun i hi =>
  ⟨b, 0, rfl, lt_of_block h, blk_cell _ h (by simp [hi])⟩
/-- Two lists, a block for each, and a block of the two. -/
theorem rows_two {W : World} {b b1 b2 : Nat} {t t1 t2 : TypeId} {l1 l2 : List Int} {n1 n2 : Nat} (h : W.heap[b]? = some (.cells #[.slice (some ⟨b1, 0, none⟩) n1 n1, .slice (some ⟨b2, 0, none⟩) n2 n2] t (0, 0)))
    (h1 : W.heap[b1]? = some (.cells (l1.map (Value.int .i64)).toArray t1 (0, 0))) (h2 : W.heap[b2]? = some (.cells (l2.map (Value.int .i64)).toArray t2 (0, 0))) (e1 : n1 = l1.length) (e2 : n2 = l2.length) (k1 : l1.length ≤ 100) (k2 : l2.length ≤ 100) : RowsC W (some ⟨b, 0, none⟩) [l1, l2] := fun i hi => by
  subst e1; subst e2
  have h9 : i = 0 ∨ i = 1 := by simp at hi; omega
  rcases h9 with rfl | rfl
  · exact ⟨b, 0, some ⟨b1, 0, none⟩, l1.length, rfl, lt_of_block h, blk_cell _ h rfl, ⟨Nat.le_refl _, by show l1.length ≤ _; omega, fun h => by cases h⟩, ints_blk h1⟩
  · exact ⟨b, 0, some ⟨b2, 0, none⟩, l2.length, rfl, lt_of_block h, blk_cell _ h rfl, ⟨Nat.le_refl _, by show l2.length ≤ _; omega, fun h => by cases h⟩, ints_blk h2⟩
set_option maxRecDepth 100000 in
theorem DPlanL_any (w : World) : Calls Tryz.prog 35 #[] w fun e w' => ∃ a, e = .returned (.slice a exP.length 2) ∧ SlOk a exP.length 2 ∧ RowsC w' a exP ∧ Below w.heap.size w w' := by
  go_enter Tryz.func35, Tryz.ntmps35
  go_wp2
  go_ret
  unfold exP
  refine ⟨some ⟨w.heap.size + 1 + 1, 0, none⟩, rfl, ⟨Nat.le_refl _, by decide, fun h => by cases h⟩, ?_, (by (repeat' (first | assumption | exact Below.refl _ _ | refine below_drew' ?_ | refine Below.setCell ?_ (by first | omega | (simp <;> omega)) _ | refine Below.alloc ?_ (by first | omega | (simp <;> omega)) _)))⟩
  refine rows_two (b1 := w.heap.size) (b2 := w.heap.size + 1) (t := 35) (t1 := 3) (t2 := 3) ?_ ?_ ?_ rfl rfl (by decide) (by decide)
  all_goals (repeat' (first | exact alloc_at _ _ (by simp) | refine (Below.heap_setCell _ _ _ _ (by simp)).trans ?_ | refine (heap_alloc_old _ _ (by first | omega | (simp <;> omega))).trans ?_))
set_option maxRecDepth 100000 in
theorem exH_blk {W : World} {b1 b2 : Nat} {t1 t2 : TypeId} {ship : Int}
    (h1 : W.heap[b1]? = some (.cells #[.string ⟨#[112, 97, 122]⟩, .int .i64 3, .int .i64 0, .int .i64 0, .string ⟨#[114, 117, 116]⟩, .int .i64 1, .int .i64 2, .int .i64 4] t1 (0, 0)))
    (h2 : W.heap[b2]? = some (.cells #[.string ⟨#[97, 110, 97]⟩, .int .i64 0, .int .i64 5, .int .i64 8, .int .i64 ship, .string ⟨#[98, 101, 110]⟩, .int .i64 1, .int .i64 6, .int .i64 10, .int .i64 12, .string ⟨#[99, 111, 114, 97]⟩, .int .i64 0, .int .i64 4, .int .i64 6, .int .i64 15] t2 (0, 0))) :
    HallC W (some ⟨b1, 0, none⟩) (some ⟨b2, 0, none⟩) 2 3 (exH ship) := by
  refine ⟨⟨Nat.le_refl _, by decide, fun h => by cases h⟩, ⟨Nat.le_refl _, by decide, fun h => by cases h⟩, fun i hi => ?_, fun i hi => ?_, fun x hx => ?_, fun x hx => ?_⟩
  · have h : i = 0 ∨ i = 1 := by have : i < 2 := hi; omega
    rcases h with rfl | rfl <;> exact ⟨b1, 0, rfl, lt_of_block h1, blk_cell _ h1 rfl, blk_cell _ h1 rfl, blk_cell _ h1 rfl, blk_cell _ h1 rfl⟩
  · have h : i = 0 ∨ i = 1 ∨ i = 2 := by have : i < 3 := hi; omega
    rcases h with rfl | rfl | rfl <;> exact ⟨b2, 0, rfl, lt_of_block h2, blk_cell _ h2 rfl, blk_cell _ h2 rfl, blk_cell _ h2 rfl, blk_cell _ h2 rfl, blk_cell _ h2 rfl⟩
  · have hx : x = ⟨⟨#[112, 97, 122]⟩, 3, 0, 0⟩ ∨ x = ⟨⟨#[114, 117, 116]⟩, 1, 2, 4⟩ := by simpa [exH] using hx
    rcases hx with rfl | rfl <;> decide
  · have hx : x = ⟨⟨#[97, 110, 97]⟩, 0, 5, 8, ship⟩ ∨ x = ⟨⟨#[98, 101, 110]⟩, 1, 6, 10, 12⟩ ∨ x = ⟨⟨#[99, 111, 114, 97]⟩, 0, 4, 6, 15⟩ := by simpa [exH] using hx
    rcases hx with rfl | rfl | rfl <;> exact Nat.le_of_ble_eq_true rfl
set_option maxRecDepth 100000 in
set_option maxHeartbeats 2000000 in
theorem DHallL_any (ship : Int) (w : World) : Calls Tryz.prog 33 #[.int .i64 ship] w fun e w' => ∃ aw ac, e = .returned (.agg #[.int .i64 1, .slice aw (exH ship).writers.length 2, .slice ac (exH ship).customers.length 3]) ∧ HallC w' aw ac 2 3 (exH ship) ∧ Below w.heap.size w w' := by
  go_enter Tryz.func33, Tryz.ntmps33
  go_wp2_with (go_at_call 42; (with_reducible refine (DSpanX_any _ _ _).mono ?_); rintro e _ ⟨rfl, rfl⟩; dsimp only)
  (try simp only [Exit.inBlock, Exit.then])
  refine bodyPost_ret (v := .agg #[.int .i64 1, .slice (some ⟨w.heap.size + 1 + 1, 0, none⟩) 2 2, .slice (some ⟨w.heap.size + 1 + 1 + 1 + 1 + 1 + 1, 0, none⟩) 3 3]) ?_ rfl ⟨some ⟨w.heap.size + 1 + 1, 0, none⟩, some ⟨w.heap.size + 1 + 1 + 1 + 1 + 1 + 1, 0, none⟩, rfl, ?_, ?_⟩
  · rw [results_cell1 rfl]
    go_simp
  · refine exH_blk (t1 := 56) (t2 := 39) ?_ ?_
    all_goals (repeat' (first | exact alloc_at _ _ (by simp) | refine (Below.heap_setCell _ _ _ _ (by simp)).trans ?_ | refine (heap_alloc_old _ _ (by first | omega | (simp <;> omega))).trans ?_))
  · exact (by (repeat' (first | assumption | exact Below.refl _ _ | refine below_drew' ?_ | refine Below.setCell ?_ (by first | omega | (simp <;> omega)) _ | refine Below.alloc ?_ (by first | omega | (simp <;> omega)) _)))
end Go.Proofs.YtelmponkmmfffaaGreat
namespace Go.Proofs.YtelmponkmmfffaaGreat
open Go Go.RowKit

theorem DA_Ends (aw ac : Option Addr) (kw kc : Nat) (h : DeH) (ad : Option Addr) (p : List (List Int)) (cp : Nat) (l : List (Int × Int)) (e : Int) (h0 : deEnds h p = (l, e)) (w : World) (hm : HallC w aw ac kw kc h) (hc : SlOk ad p.length cp) (hsz : p.flatten.length ≤ 1048576) (hi : RowsC w ad p) : Calls Tryz.prog 34 #[(.agg #[.int .i64 h.wax, .slice aw h.writers.length kw, .slice ac h.customers.length kc]), .slice ad p.length cp] w fun x w' => ∃ a c, x = .returned (.tuple #[.slice a l.length c, .int .i64 e]) ∧ SlOk a l.length c ∧ SpansC w' a l ∧ Below w.heap.size w w' := by
  have C := DEnds_any aw ac kw kc h ad p cp w hm hc hsz hi
  rw [h0] at C
  exact C.mono fun x w' ⟨v, h1, ⟨a, c, h2, h3, h4⟩, h5⟩ => ⟨a, c, by rw [h1, h2], h3, h4, h5⟩
theorem DA_Fate (aw ac : Option Addr) (kw kc : Nat) (h : DeH) (ad : Option Addr) (p : List (List Int)) (cp : Nat) (m : Int) (e : Int) (h0 : deFate h p = (m, e)) (w : World) (hm : HallC w aw ac kw kc h) (hc : SlOk ad p.length cp) (hsz : p.flatten.length ≤ 1048576) (hi : RowsC w ad p) : Calls Tryz.prog 36 #[(.agg #[.int .i64 h.wax, .slice aw h.writers.length kw, .slice ac h.customers.length kc]), .slice ad p.length cp] w fun x w' => x = .returned (.tuple #[.int .i64 m, .int .i64 e]) ∧ Below w.heap.size w w' := by
  have C := DFate_any aw ac kw kc h ad p cp w hm hc hsz hi
  rwa [h0] at C
theorem DA_Late (aw ac : Option Addr) (kw kc : Nat) (h : DeH) (ad : Option Addr) (p : List (List Int)) (cp : Nat) (m : Int) (e : Int) (h0 : deLate h p = (m, e)) (w : World) (hm : HallC w aw ac kw kc h) (hc : SlOk ad p.length cp) (hsz : p.flatten.length ≤ 1048576) (hi : RowsC w ad p) : Calls Tryz.prog 37 #[(.agg #[.int .i64 h.wax, .slice aw h.writers.length kw, .slice ac h.customers.length kc]), .slice ad p.length cp] w fun x w' => x = .returned (.tuple #[.int .i64 m, .int .i64 e]) ∧ Below w.heap.size w w' := by
  have C := DLate_any aw ac kw kc h ad p cp w hm hc hsz hi
  rwa [h0] at C
theorem DA_Best (aw ac : Option Addr) (kw kc : Nat) (h : DeH) (l : List (List Int)) (n : Int) (e : Int) (h0 : deBest h = (l, n, e)) (w : World) (hm : HallC w aw ac kw kc h) : Calls Tryz.prog 12 #[(.agg #[.int .i64 h.wax, .slice aw h.writers.length kw, .slice ac h.customers.length kc])] w fun x w' => ∃ a c, x = .returned (.tuple #[.slice a l.length c, .int .i64 n, .int .i64 e]) ∧ SlOk a l.length c ∧ RowsC w' a l ∧ Below w.heap.size w w' := by
  have C := DBest_any aw ac kw kc h w hm
  rw [h0] at C
  exact C.mono fun x w' ⟨v, h1, ⟨a, c, h2, h3, h4⟩, h5⟩ => ⟨a, c, by rw [h1, h2], h3, h4, h5⟩
theorem DA_Enough (aw ac : Option Addr) (kw kc : Nat) (h : DeH) (l : List Int) (e : Int) (h0 : deEnough h = (l, e)) (w : World) (hm : HallC w aw ac kw kc h) : Calls Tryz.prog 38 #[(.agg #[.int .i64 h.wax, .slice aw h.writers.length kw, .slice ac h.customers.length kc])] w fun x w' => ∃ a c, x = .returned (.tuple #[.slice a l.length c, .int .i64 e]) ∧ SlOk a l.length c ∧ IntsC w' a l ∧ Below w.heap.size w w' := by
  have C := DEnough_any aw ac kw kc h w hm
  rw [h0] at C
  exact C.mono fun x w' ⟨v, h1, ⟨a, c, h2, h3, h4⟩, h5⟩ => ⟨a, c, by rw [h1, h2], h3, h4, h5⟩
theorem DA_Away (aw ac : Option Addr) (kw kc : Nat) (h : DeH) (l : List Int) (e : Int) (h0 : deAway h = (l, e)) (w : World) (hm : HallC w aw ac kw kc h) : Calls Tryz.prog 39 #[(.agg #[.int .i64 h.wax, .slice aw h.writers.length kw, .slice ac h.customers.length kc])] w fun x w' => ∃ a c, x = .returned (.tuple #[.slice a l.length c, .int .i64 e]) ∧ SlOk a l.length c ∧ IntsC w' a l ∧ Below w.heap.size w w' := by
  have C := DAway_any aw ac kw kc h w hm
  rw [h0] at C
  exact C.mono fun x w' ⟨v, h1, ⟨a, c, h2, h3, h4⟩, h5⟩ => ⟨a, c, by rw [h1, h2], h3, h4, h5⟩
theorem DA_Later (aw ac : Option Addr) (kw kc : Nat) (h : DeH) (cu : Int) (m : Int) (e : Int) (h0 : deLater h cu = (m, e)) (w : World) (hm : HallC w aw ac kw kc h) : Calls Tryz.prog 40 #[(.agg #[.int .i64 h.wax, .slice aw h.writers.length kw, .slice ac h.customers.length kc]), .int .i64 cu] w fun x w' => x = .returned (.tuple #[.int .i64 m, .int .i64 e]) ∧ Below w.heap.size w w' := by
  have C := DLater_any aw ac kw kc h cu w hm
  rwa [h0] at C
end Go.Proofs.YtelmponkmmfffaaGreat
