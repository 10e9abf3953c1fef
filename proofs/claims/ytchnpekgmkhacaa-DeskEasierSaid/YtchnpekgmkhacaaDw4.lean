/- What is proved here: contracts of the laws' helpers valid, turn, some and inside of layer 9. Conditions: the arguments lie in memory; small numbers. -/
import Derived.Test.YtchnpekgmkhacaaDw3
import Derived.Test.YtchnpekgmkhacaaDwB
set_option linter.unusedVariables false
set_option linter.unusedSimpArgs false
namespace Go.Proofs.Ytchnpekgmkhacaa
open Go Go.RowKit
set_option maxRecDepth 100000 in
set_option maxHeartbeats 1000000 in
theorem DValid_is (aw ac : Option Addr) (kw kc : Nat) (h : DeH) (b : Bool) (hb : decide (deErr h = 0) = b) (w : World) (hm : HallC w aw ac kw kc h) : Calls Try.prog 37 #[(.agg #[.int .i64 h.wax, .slice aw h.writers.length kw, .slice ac h.customers.length kc])] w fun e w' => e = .returned (.bool b) ∧ Below w.heap.size w w' := by
  have hQ := Below.refl (w.heap.size + 1) (w.alloc (.cells #[.int .i64 h.wax, .slice aw h.writers.length kw, .slice ac h.customers.length kc] 25))
  have hbX := box_old hQ
  have CK := DRCheck_any aw ac kw kc h (w.alloc (.cells #[.int .i64 h.wax, .slice aw h.writers.length kw, .slice ac h.customers.length kc] 25)) (hm.mono hbX)
  have e0 : (deCheck h).2.2 = deErr h := rfl
  rw [e0] at CK
  generalize (deCheck h).1 = q1 at CK
  generalize (deCheck h).2.1 = q2 at CK
  generalize deErr h = er at CK hb
  replace CK := Lib.hid CK
  have x0 := box_cell hQ 0 _ rfl
  have x1 := box_cell hQ 1 _ rfl
  have x2 := box_cell hQ 2 _ rfl
  have xz := box_size hQ
  have hbe : (er == 0) = b := by rw [← hb]; by_cases h : er = 0 <;> simp [h]
  clear hb
  go_enter Try.func37, Try.ntmps37
  go_wp2_with (go_at_call 17; go_must ((with_reducible refine CK.out.mono ?_); rintro e w2 ⟨rfl, hb2⟩; have hb3 := hbX.trans (hb2.mono hbX.size); dsimp only))
  go_ret
  exact ⟨rfl, hb3⟩
set_option maxHeartbeats 400000 in
theorem DTurn_any (a : Option Addr) (l : List Int) (c n : Nat) (w : World) (hl : l.length ≤ 9223372036854775807) (hn : n ≤ 1000) (hi : BytesC w a l) :
    Calls Try.prog 89 #[.slice a l.length c, .int .i64 n] w fun e w' => e = .returned (.int .i64 (turnD l n)) ∧ w' = w := by
  by_cases h0 : l.length = 0
  · have hr : turnD l n = 0 := by unfold turnD; rw [if_pos h0]
    rw [hr, h0]
    go_enter Try.func89, Try.ntmps89
    go_wp2
    go_ret
    exact ⟨rfl, rfl⟩
  · have hlt : n % l.length < l.length := Nat.mod_lt _ (by omega)
    have hr : Hid (turnD l n = l[n % l.length]) := Lib.hid (by unfold turnD; rw [if_neg h0, List.getElem?_eq_getElem hlt]; rfl)
    obtain ⟨b, off, rfl, hb, hc, h1, h2⟩ := hi _ hlt
    have hne : ((l.length : Int) == 0) = false := eqi_f (by omega)
    generalize turnD l n = r at hr ⊢
    generalize l[n % l.length] = y at hc h1 h2 hr
    have hbl := lt_of_cell hc
    go_enter Try.func89, Try.ntmps89
    go_wp2
    go_ret
    exact ⟨by rw [hr.out]; rfl, rfl⟩
theorem bytes_bd {w : World} {a : Option Addr} {l : List Int} (hi : BytesC w a l) : ∀ x ∈ l, 0 ≤ x ∧ x ≤ 255 := fun x hx => by
  obtain ⟨i, h, rfl⟩ := List.getElem_of_mem hx
  obtain ⟨b, off, -, -, -, h1, h2⟩ := hi i h
  exact ⟨h1, h2⟩
set_option maxRecDepth 100000 in
set_option maxHeartbeats 1000000 in
theorem DSomeN_any (lo hi n : Int) (w : World) (h0 : 0 ≤ lo) (h1 : lo ≤ hi) (h2 : hi ≤ 1000) (h3 : 0 ≤ n) (h4 : n ≤ 255) :
    Calls Try.prog 53 #[.agg #[.int .i64 lo, .int .i64 hi], .int .i64 n] w fun e w' => e = .returned (.int .i64 (someN lo hi n)) ∧ Below w.heap.size w w' := by
  have hr : Hid (someN lo hi n = lo + n % (hi - lo + 1)) := Lib.hid rfl
  have k1 := Int.emod_nonneg n (show hi - lo + 1 ≠ 0 by omega)
  have k2 := Int.emod_lt_of_pos n (show 0 < hi - lo + 1 by omega)
  have hne : (hi - lo + 1 == 0) = false := eqi_f (by omega)
  generalize someN lo hi n = r at hr ⊢
  go_enter Try.func53, Try.ntmps53
  go_upto_region 1 with (fail)
  go_quiet (fail)
  go_wp2
  go_ret
  exact ⟨by rw [hr.out]; rfl, below_drewN' (by (repeat' (first | assumption | exact Below.refl _ _ | refine below_drew' ?_ | refine Below.setCell ?_ (by first | omega | (simp <;> omega)) _ | refine Below.alloc ?_ (by first | omega | (simp <;> omega)) _))) _⟩
set_option maxRecDepth 100000 in
set_option maxHeartbeats 1000000 in
theorem DInside_any (a b c d : Int) (w : World) :
    Calls Try.prog 55 #[.agg #[.int .i64 a, .int .i64 b], .agg #[.int .i64 c, .int .i64 d]] w fun e w' => e = .returned (.bool (decide (c ≤ a) && decide (b ≤ d))) ∧ Below w.heap.size w w' := by
  by_cases h1 : c ≤ a
  · by_cases h2 : b ≤ d
    · have k1 := decide_eq_true h1
      have k2 := decide_eq_true h2
      rw [k1, k2]
      go_enter Try.func55, Try.ntmps55
      go_wp2
      go_ret
      exact ⟨rfl, (by (repeat' (first | assumption | exact Below.refl _ _ | refine below_drew' ?_ | refine Below.setCell ?_ (by first | omega | (simp <;> omega)) _ | refine Below.alloc ?_ (by first | omega | (simp <;> omega)) _)))⟩
    · have k1 := decide_eq_true h1
      have k2 := decide_eq_false h2
      rw [k1, k2]
      go_enter Try.func55, Try.ntmps55
      go_wp2
      go_ret
      exact ⟨rfl, (by (repeat' (first | assumption | exact Below.refl _ _ | refine below_drew' ?_ | refine Below.setCell ?_ (by first | omega | (simp <;> omega)) _ | refine Below.alloc ?_ (by first | omega | (simp <;> omega)) _)))⟩
  · have k1 := decide_eq_false h1
    rw [k1]
    go_enter Try.func55, Try.ntmps55
    go_wp2
    go_ret
    exact ⟨rfl, (by (repeat' (first | assumption | exact Below.refl _ _ | refine below_drew' ?_ | refine Below.setCell ?_ (by first | omega | (simp <;> omega)) _ | refine Below.alloc ?_ (by first | omega | (simp <;> omega)) _)))⟩
end Go.Proofs.Ytchnpekgmkhacaa
