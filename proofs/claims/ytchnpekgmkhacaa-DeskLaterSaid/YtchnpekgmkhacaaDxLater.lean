/- What is proved here: the walk of DeskLater: it returns true, and turns nothing that was there. Conditions: the hall lies in memory. -/
import Derived.Test.YtchnpekgmkhacaaDw6
set_option linter.unusedVariables false
set_option linter.unusedSimpArgs false
namespace Go.Proofs.Ytchnpekgmkhacaa
open Go Go.RowKit
set_option maxRecDepth 100000 in
set_option maxHeartbeats 16000000 in
theorem DeskLater_walk (aw ac : Option Addr) (kw kc : Nat) (h : DeH) (x0 : Nat) (w : World) (hm : HallC w aw ac kw kc h) (hx0 : x0 ≤ 255) : Calls Try.prog 12 #[(.agg #[.int .i64 h.wax, .slice aw h.writers.length kw, .slice ac h.customers.length kc]), .int .u8 (x0 : Int)] w fun e w' => e = .returned (.bool true) ∧ Below w.heap.size w w' := by
  obtain ⟨X, hX⟩ : ∃ X : World, X = (w.alloc (.cells #[.int .i64 h.wax, .slice aw h.writers.length kw, .slice ac h.customers.length kc] 25)) := ⟨_, rfl⟩
  have hwX : Below w.heap.size w X := by rw [hX]; exact (by (repeat' (first | assumption | exact Below.refl _ _ | refine below_drew' ?_ | refine Below.setCell ?_ (by first | omega | (simp <;> omega)) _ | refine Below.alloc ?_ (by first | omega | (simp <;> omega)) _)))
  have g1 : X.heap[w.heap.size]? = some (.cells #[.int .i64 h.wax, .slice aw h.writers.length kw, .slice ac h.customers.length kc] 25 (0, 0)) := by rw [hX]; (repeat' (first | exact alloc_at _ _ (by simp) | refine (heap_alloc_old _ _ (by first | omega | (simp <;> omega))).trans ?_))
  replace g1 := fun (V : World) (h : Below X.heap.size X V) => (h.block _ (lt_of_block g1)).trans g1
  have HC : Hid (∀ V, Below X.heap.size X V → (V.cell? ⟨w.heap.size, 0, none⟩ = some (.int .i64 h.wax) ∧ V.cell? ⟨w.heap.size, 1, none⟩ = some (.slice aw h.writers.length kw) ∧ V.cell? ⟨w.heap.size, 2, none⟩ = some (.slice ac h.customers.length kc) ∧ w.heap.size < V.heap.size)) := Lib.hid (fun V h => ⟨blk_cell 0 (g1 V h) rfl, blk_cell 1 (g1 V h) rfl, blk_cell 2 (g1 V h) rfl, lt_of_block (g1 V h)⟩)
  have M := Lib.hid (fun (V : World) (h : Below X.heap.size X V) => (hm.mono hwX).mono h)
  clear g1
  have hQ := Below.refl X.heap.size X
  have hx := HC.out _ hQ
  by_cases he : deErr h = 0
  · by_cases h0 : h.customers.length = 0
    · have hbe := Lib.hid (later_out (c := 0) he (inB_no.2 (by omega)))
      have hvd := Lib.hid (decide_eq_true he)
      have q0 := eqi_t (show (h.customers.length : Int) = 0 by omega)
      replace h0 := Lib.hid h0
      clear he
      go_enter Try.func12, Try.ntmps12
      go_upto_region 1 with (fail)
      rw [← hX]
      clear hX
      go_wp2_with (first
        | (go_at_call 23; (with_reducible refine (DAwake_any _).mono ?_); rintro e w4 ⟨rfl, hb⟩; replace hQ := q_on hQ hb; replace hx := HC.out _ hQ; dsimp only)
        | (go_at_call 34; (with_reducible refine (DA_Later _ _ _ _ h 0 0 4 hbe.out _ (M.out _ hQ)).mono ?_); rintro e w3 ⟨rfl, hb⟩; replace hQ := q_on hQ hb; replace hx := HC.out _ hQ; dsimp only)
        | (go_at_call 37; (with_reducible refine (DValid_is _ _ _ _ h true hvd.out _ (M.out _ hQ)).mono ?_); rintro e w2 ⟨rfl, hb⟩; replace hQ := q_on hQ hb; replace hx := HC.out _ hQ; dsimp only))
      go_ret
      exact ⟨rfl, hwX.trans (hQ.mono hwX.size)⟩
    · have hvd := Lib.hid (decide_eq_true he)
      have hv := deValid_of he
      have hnc := hv.nc
      have hcc := hm.okc.1
      have q0 := eqi_f (show (h.customers.length : Int) ≠ 0 by omega)
      obtain ⟨c, hcd⟩ : ∃ c : Nat, c = x0 % h.customers.length := ⟨_, rfl⟩
      have hc : c < h.customers.length := by rw [hcd]; exact Nat.mod_lt _ (by omega)
      have f1 : (x0 : Int) % (h.customers.length : Int) = (c : Int) := by rw [hcd]; exact (Int.natCast_emod _ _).symm
      have hk1 : (h.customers.length : Int) ≠ 0 := by omega
      have hk2 : (0 : Int) < (h.customers.length : Int) := by omega
      have hcI : (c : Int) < h.customers.length := by omega
      have hcK : (c : Int) < kc := by omega
      clear hcd
      have hsh : 0 ≤ h.customers[c].ship ∧ h.customers[c].ship ≤ 240 := by have := hv.c c hc; omega
      have ec : customerAt h c = h.customers[c] := by unfold customerAt; rw [List.getElem?_eq_getElem hc]; rfl
      have hlc := later_cases he hc
      rw [ec] at hlc
      obtain ⟨b3, o3, e3, -, -, -, -, -, k4⟩ := hm.custs c hc
      generalize h.customers[c].ship = ship at hsh hlc k4
      have K4 := Lib.hid (fun (V : World) (hq : Below X.heap.size X V) => cell_below (hwX.trans (hq.mono hwX.size)) k4)
      clear ec k4
      rcases hlc with ⟨hl, hs⟩ | ⟨n, hl, hn0, hn1, hs1, hs2⟩
      · have hbe : deBest (shippedD h c 240) = ([], 0, 9) := by
          rcases best_some_iff (ship_err he c (m := 240) (by decide) (by decide)) with ⟨e, _⟩ | ⟨_, e⟩
          · rw [hs] at e; cases e
          · exact e
        have hle := Lib.hid hl
        have B1 := Lib.hid (fun (b5 : Option Addr) (d5 : Nat) (V : World) (hC : HallC V aw b5 kw d5 (shippedD h c (240))) => show Calls Try.prog 26 #[.agg #[.int .i64 h.wax, .slice aw h.writers.length kw, .slice b5 (shippedD h c (240)).customers.length d5]] V (fun x w' => ∃ a k, x = .returned (.tuple #[.slice a 0 k, .int .i64 0, .int .i64 9]) ∧ SlOk a [].length k ∧ RowsC w' a [] ∧ Below V.heap.size V w') from DA_Best aw b5 kw d5 (shippedD h c (240)) [] 0 9 hbe V hC)
        have S1 := Lib.hid (fun (V : World) (hq : Below X.heap.size X V) => DRShipped_any aw ac kw kc h c (240) V (M.out _ hq) hnc hc)
        clear hl hs hbe he
        replace h0 := Lib.hid h0
        replace f1 := Lib.hid f1
        have hM := Lib.hid hm
        subst e3
        go_enter Try.func12, Try.ntmps12
        go_upto_region 1 with (fail)
        rw [← hX]
        clear hX
        go_upto_region 5 with (first
          | (go_at_call 37; (with_reducible refine (DValid_is _ _ _ _ h true hvd.out _ (M.out _ hQ)).mono ?_); rintro e w2 ⟨rfl, hb⟩; replace hQ := q_on hQ hb; replace hx := HC.out _ hQ; dsimp only))
        simp only [f1.out]
        go_upto_region 6 with (first
          | (go_at_call 34; (with_reducible refine (DA_Later _ _ _ _ h (c : Int) 0 9 hle.out _ (M.out _ hQ)).mono ?_); rintro e w3 ⟨rfl, hb⟩; replace hQ := q_on hQ hb; replace hx := HC.out _ hQ; dsimp only))
        have k4 := K4.out _ hQ
        have z4 := lt_of_cell k4
        have n9 : ((9 : Int) != 0) = true := rfl
        go_wp2_with (first
          | (go_at_call 23; (with_reducible refine (DAwake_any _).mono ?_); rintro e w6 ⟨rfl, hb⟩; replace hQ := q_on hQ hb; replace hx := HC.out _ hQ; dsimp only)
          | (go_at_call 26; (with_reducible refine (B1.out _ _ _ hC5).mono ?_); rintro e w5 ⟨b6, d6, rfl, o6, r6, hb⟩; replace hQ := q_on hQ hb; replace hx := HC.out _ hQ; dsimp only)
          | (go_at_call 52; (with_reducible refine (S1.out _ hQ).mono ?_); rintro e w4 ⟨b5, d5, rfl, hC5, hb⟩; replace hQ := q_on hQ hb; replace hx := HC.out _ hQ; dsimp only))
        go_ret
        exact ⟨rfl, hwX.trans (hQ.mono hwX.size)⟩
      · have hin : inB n 0 (240 - ship) = true := inB_iff.2 (by omega)
        have hbe : ∃ q ov, deBest (shippedD h c (ship + n)) = (q, ov, 0) := by
          rcases best_some_iff (ship_err he c (m := ship + n) (by omega) (by omega)) with ⟨_, q, e, _⟩ | ⟨e, _⟩
          · exact ⟨q, _, e⟩
          · rw [hs1] at e; cases e
        obtain ⟨q, ov, hbe⟩ := hbe
        have hle := Lib.hid hl
        have hw1 : IntKind.i64.wrap (240 - ship) = 240 - ship := wrap_id (by omega) (by omega)
        have hw2 : IntKind.i64.wrap (ship + n) = ship + n := wrap_id (by omega) (by omega)
        have hw3 : IntKind.i64.wrap (ship + n - 1) = ship + n - 1 := wrap_id (by omega) (by omega)
        replace hin := Lib.hid hin
        clear hl hs1
        by_cases hz : n = 0
        · have z0 := eqi_t hz
          subst hz
          have hbz : deBest (shippedD h c ship) = (q, ov, 0) := by rw [← hbe, Int.add_zero]
          have B1 := Lib.hid (fun (b5 : Option Addr) (d5 : Nat) (V : World) (hC : HallC V aw b5 kw d5 (shippedD h c (ship))) => show Calls Try.prog 26 #[.agg #[.int .i64 h.wax, .slice aw h.writers.length kw, .slice b5 (shippedD h c (ship)).customers.length d5]] V (fun x w' => ∃ a k, x = .returned (.tuple #[.slice a q.length k, .int .i64 ov, .int .i64 0]) ∧ SlOk a q.length k ∧ RowsC w' a q ∧ Below V.heap.size V w') from DA_Best aw b5 kw d5 (shippedD h c (ship)) q ov 0 hbz V hC)
          have S1 := Lib.hid (fun (V : World) (hq : Below X.heap.size X V) => DRShipped_any aw ac kw kc h c (ship) V (M.out _ hq) hnc hc)
          clear hs2 he hbe hbz
          replace h0 := Lib.hid h0
          replace f1 := Lib.hid f1
          subst e3
          go_enter Try.func12, Try.ntmps12
          go_upto_region 1 with (fail)
          rw [← hX]
          clear hX
          go_upto_region 5 with (first
            | (go_at_call 37; (with_reducible refine (DValid_is _ _ _ _ h true hvd.out _ (M.out _ hQ)).mono ?_); rintro e w2 ⟨rfl, hb⟩; replace hQ := q_on hQ hb; replace hx := HC.out _ hQ; dsimp only))
          simp only [f1.out]
          go_upto_region 6 with (first
            | (go_at_call 34; (with_reducible refine (DA_Later _ _ _ _ h (c : Int) 0 0 hle.out _ (M.out _ hQ)).mono ?_); rintro e w3 ⟨rfl, hb⟩; replace hQ := q_on hQ hb; replace hx := HC.out _ hQ; dsimp only))
          have k4 := K4.out _ hQ
          have z4 := lt_of_cell k4
          go_wp2_with (first
            | (go_at_call 23; (with_reducible refine (DAwake_any _).mono ?_); rintro e w7 ⟨rfl, hb⟩; replace hQ := q_on hQ hb; replace hx := HC.out _ hQ; dsimp only)
            | (go_at_call 26; (with_reducible refine (B1.out _ _ _ hC5).mono ?_); rintro e w6 ⟨b6, d6, rfl, o6, r6, hb⟩; replace hQ := q_on hQ hb; replace hx := HC.out _ hQ; dsimp only)
            | (go_at_call 52; (with_reducible refine (S1.out _ hQ).mono ?_); rintro e w5 ⟨b5, d5, rfl, hC5, hb⟩; replace hQ := q_on hQ hb; replace hx := HC.out _ hQ; dsimp only)
            | (go_at_call 41; (with_reducible refine (DIn_is 0 0 (240 - ship) true hin.out _).mono ?_); rintro e w4 ⟨rfl, hb⟩; replace hQ := q_on hQ hb; replace hx := HC.out _ hQ; dsimp only))
          go_ret
          exact ⟨rfl, hwX.trans (hQ.mono hwX.size)⟩
        · have z0 := eqi_f hz
          have B1 := Lib.hid (fun (b5 : Option Addr) (d5 : Nat) (V : World) (hC : HallC V aw b5 kw d5 (shippedD h c (ship + n))) => show Calls Try.prog 26 #[.agg #[.int .i64 h.wax, .slice aw h.writers.length kw, .slice b5 (shippedD h c (ship + n)).customers.length d5]] V (fun x w' => ∃ a k, x = .returned (.tuple #[.slice a q.length k, .int .i64 ov, .int .i64 0]) ∧ SlOk a q.length k ∧ RowsC w' a q ∧ Below V.heap.size V w') from DA_Best aw b5 kw d5 (shippedD h c (ship + n)) q ov 0 hbe V hC)
          have S1 := Lib.hid (fun (V : World) (hq : Below X.heap.size X V) => DRShipped_any aw ac kw kc h c (ship + n) V (M.out _ hq) hnc hc)
          have hbf : deBest (shippedD h c (ship + n - 1)) = ([], 0, 9) := by
            rcases best_some_iff (ship_err he c (m := ship + n - 1) (by omega) (by omega)) with ⟨e, _⟩ | ⟨_, e⟩
            · rw [hs2 hz] at e; cases e
            · exact e
          have B2 := Lib.hid (fun (b5 : Option Addr) (d5 : Nat) (V : World) (hC : HallC V aw b5 kw d5 (shippedD h c (ship + n - 1))) => show Calls Try.prog 26 #[.agg #[.int .i64 h.wax, .slice aw h.writers.length kw, .slice b5 (shippedD h c (ship + n - 1)).customers.length d5]] V (fun x w' => ∃ a k, x = .returned (.tuple #[.slice a 0 k, .int .i64 0, .int .i64 9]) ∧ SlOk a [].length k ∧ RowsC w' a [] ∧ Below V.heap.size V w') from DA_Best aw b5 kw d5 (shippedD h c (ship + n - 1)) [] 0 9 hbf V hC)
          have S2 := Lib.hid (fun (V : World) (hq : Below X.heap.size X V) => DRShipped_any aw ac kw kc h c (ship + n - 1) V (M.out _ hq) hnc hc)
          clear hs2 he hbf hbe
          replace h0 := Lib.hid h0
          replace f1 := Lib.hid f1
          subst e3
          go_enter Try.func12, Try.ntmps12
          go_upto_region 1 with (fail)
          rw [← hX]
          clear hX
          go_upto_region 5 with (first
            | (go_at_call 37; (with_reducible refine (DValid_is _ _ _ _ h true hvd.out _ (M.out _ hQ)).mono ?_); rintro e w2 ⟨rfl, hb⟩; replace hQ := q_on hQ hb; replace hx := HC.out _ hQ; dsimp only))
          simp only [f1.out]
          go_upto_region 6 with (first
            | (go_at_call 34; (with_reducible refine (DA_Later _ _ _ _ h (c : Int) n 0 hle.out _ (M.out _ hQ)).mono ?_); rintro e w3 ⟨rfl, hb⟩; replace hQ := q_on hQ hb; replace hx := HC.out _ hQ; dsimp only))
          have k4 := K4.out _ hQ
          have z4 := lt_of_cell k4
          go_wp2_with (first
            | (go_at_call 23; (with_reducible refine (DAwake_any _).mono ?_); rintro e w9 ⟨rfl, hb⟩; replace hQ := q_on hQ hb; replace hx := HC.out _ hQ; dsimp only)
            | (go_at_call 26; (with_reducible refine (B2.out _ _ _ hC5).mono ?_); rintro e w8 ⟨b6, d6, rfl, o6, r6, hb⟩; replace hQ := q_on hQ hb; replace hx := HC.out _ hQ; dsimp only)
            | (go_at_call 52; (with_reducible refine (S2.out _ hQ).mono ?_); rintro e w7 ⟨b5, d5, rfl, hC5, hb⟩; replace hQ := q_on hQ hb; replace hx := HC.out _ hQ; dsimp only)
            | (go_at_call 26; (with_reducible refine (B1.out _ _ _ hC5).mono ?_); rintro e w6 ⟨b6, d6, rfl, o6, r6, hb⟩; replace hQ := q_on hQ hb; replace hx := HC.out _ hQ; dsimp only)
            | (go_at_call 52; (with_reducible refine (S1.out _ hQ).mono ?_); rintro e w5 ⟨b5, d5, rfl, hC5, hb⟩; replace hQ := q_on hQ hb; replace hx := HC.out _ hQ; dsimp only)
            | (go_at_call 41; (with_reducible refine (DIn_is n 0 (240 - ship) true hin.out _).mono ?_); rintro e w4 ⟨rfl, hb⟩; replace hQ := q_on hQ hb; replace hx := HC.out _ hQ; dsimp only))
          go_ret
          exact ⟨rfl, hwX.trans (hQ.mono hwX.size)⟩
  · have hvd := decide_eq_false he
    have hbe := later_bad (c := 0) he
    have hne := nei_t he
    replace hvd := Lib.hid hvd
    obtain ⟨er, her⟩ : ∃ er, er = deErr h := ⟨_, rfl⟩
    rw [← her] at hbe hne
    replace hbe := Lib.hid hbe
    clear he her
    go_enter Try.func12, Try.ntmps12
    go_upto_region 1 with (fail)
    rw [← hX]
    clear hX
    go_wp2_with (first
      | (go_at_call 23; (with_reducible refine (DAwake_any _).mono ?_); rintro e w4 ⟨rfl, hb⟩; replace hQ := q_on hQ hb; replace hx := HC.out _ hQ; dsimp only)
      | (go_at_call 34; (with_reducible refine (DA_Later _ _ _ _ h 0 0 er hbe.out _ (M.out _ hQ)).mono ?_); rintro e w3 ⟨rfl, hb⟩; replace hQ := q_on hQ hb; replace hx := HC.out _ hQ; dsimp only)
      | (go_at_call 37; (with_reducible refine (DValid_is _ _ _ _ h false hvd.out _ (M.out _ hQ)).mono ?_); rintro e w2 ⟨rfl, hb⟩; replace hQ := q_on hQ hb; replace hx := HC.out _ hQ; dsimp only))
    go_ret
    exact ⟨rfl, hwX.trans (hQ.mono hwX.size)⟩
end Go.Proofs.Ytchnpekgmkhacaa
