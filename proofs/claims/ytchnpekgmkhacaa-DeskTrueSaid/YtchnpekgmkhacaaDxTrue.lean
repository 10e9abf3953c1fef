/- What is proved here: the walk of DeskTrue: it returns true, and turns nothing that was there. Conditions: the hall lies in memory. -/
import Derived.Test.YtchnpekgmkhacaaDw6
set_option linter.unusedVariables false
set_option linter.unusedSimpArgs false
namespace Go.Proofs.Ytchnpekgmkhacaa
open Go Go.RowKit
set_option maxRecDepth 100000 in
set_option maxHeartbeats 16000000 in
theorem DeskTrue_walk (aw ac : Option Addr) (kw kc : Nat) (h : DeH) (ax : Option Addr) (x : List Int) (cx : Nat) (w : World) (hm : HallC w aw ac kw kc h) (hox : SlOk ax x.length cx) (hix : BytesC w ax x) : Calls Try.prog 8 #[(.agg #[.int .i64 h.wax, .slice aw h.writers.length kw, .slice ac h.customers.length kc]), .slice ax x.length cx] w fun e w' => e = .returned (.bool true) ∧ Below w.heap.size w w' := by
  obtain ⟨X, hX⟩ : ∃ X : World, X = (w.alloc (.cells #[.int .i64 h.wax, .slice aw h.writers.length kw, .slice ac h.customers.length kc] 25)) := ⟨_, rfl⟩
  have hwX : Below w.heap.size w X := by rw [hX]; exact (by (repeat' (first | assumption | exact Below.refl _ _ | refine below_drew' ?_ | refine Below.setCell ?_ (by first | omega | (simp <;> omega)) _ | refine Below.alloc ?_ (by first | omega | (simp <;> omega)) _)))
  have g1 : X.heap[w.heap.size]? = some (.cells #[.int .i64 h.wax, .slice aw h.writers.length kw, .slice ac h.customers.length kc] 25 (0, 0)) := by rw [hX]; (repeat' (first | exact alloc_at _ _ (by simp) | refine (heap_alloc_old _ _ (by first | omega | (simp <;> omega))).trans ?_))
  replace g1 := fun (V : World) (h : Below X.heap.size X V) => (h.block _ (lt_of_block g1)).trans g1
  have HC : Hid (∀ V, Below X.heap.size X V → (V.cell? ⟨w.heap.size, 0, none⟩ = some (.int .i64 h.wax) ∧ V.cell? ⟨w.heap.size, 1, none⟩ = some (.slice aw h.writers.length kw) ∧ V.cell? ⟨w.heap.size, 2, none⟩ = some (.slice ac h.customers.length kc) ∧ w.heap.size < V.heap.size)) := Lib.hid (fun V h => ⟨blk_cell 0 (g1 V h) rfl, blk_cell 1 (g1 V h) rfl, blk_cell 2 (g1 V h) rfl, lt_of_block (g1 V h)⟩)
  have M := Lib.hid (fun (V : World) (h : Below X.heap.size X V) => (hm.mono hwX).mono h)
  clear g1
  have hQ := Below.refl X.heap.size X
  have hx := HC.out _ hQ
  have MX := Lib.hid (fun (V : World) (h : Below X.heap.size X V) => (hix.mono hwX).mono h)
  by_cases he : deErr h = 0
  ·   have hvd : decide (deErr h = 0) = true := decide_eq_true he
      have hv := deValid_of he
      rcases best_cases he with ⟨hb, hno⟩ | ⟨q, hb, hp, hd, hmin⟩
      ·   have hbe := Lib.hid hb
          clear hb
          replace hvd := Lib.hid hvd
          clear hno he
          go_enter Try.func8, Try.ntmps8
          go_upto_region 1 with (fail)
          rw [← hX]
          clear hX
          go_wp2_with (first
            | (go_at_call 23; (with_reducible refine (DAwake_any _).mono ?_); rintro e w5 ⟨rfl, hb⟩; replace hQ := q_on hQ hb; replace hx := HC.out _ hQ; dsimp only)
            | (go_at_call 37; (with_reducible refine (DValid_is _ _ _ _ h true hvd.out _ (M.out _ hQ)).mono ?_); rintro e w4 ⟨rfl, hb⟩; replace hQ := q_on hQ hb; replace hx := HC.out _ hQ; dsimp only)
            | (go_at_call 37; (with_reducible refine (DValid_is _ _ _ _ h true hvd.out _ (M.out _ hQ)).mono ?_); rintro e w3 ⟨rfl, hb⟩; replace hQ := q_on hQ hb; replace hx := HC.out _ hQ; dsimp only)
            | (go_at_call 26; (with_reducible refine (DA_Best _ _ _ _ h [] 0 9 hbe.out _ (M.out _ hQ)).mono ?_); rintro e w2 ⟨b1, c1, rfl, o1, r1, hb⟩; replace hQ := q_on hQ hb; replace hx := HC.out _ hQ; dsimp only [List.length_nil]))
          go_ret
          exact ⟨rfl, hwX.trans (hQ.mono hwX.size)⟩
      ·   have hbe := Lib.hid hb
          have hpe := plan_good he hp
          have hfe := Lib.hid (show deFate h q = (1, 0) by rw [fate_good he hp, hd])
          have hin := Lib.hid (true_in_time he x hp hd)
          have htl := truly_len h x q
          have hqs := Nat.le_trans (plan_short hv hp) (show 5 ≤ 1048576 by decide)
          have TR := Lib.hid (fun (a : Option Addr) (c : Nat) (V : World) (hq : Below X.heap.size X V) (ho : SlOk a q.length c) (hr : RowsC V a q) => DTruly_any aw ac kw kc h a q c ax x cx V (M.out _ hq) hv hp ho hr hox (MX.out _ hq))
          have PL := fun (a : Option Addr) (c : Nat) (V : World) (hq : Below X.heap.size X V) (ho : SlOk a q.length c) (hr : RowsC V a q) => DRPlan_any aw ac kw kc h a q c V (M.out _ hq) ho hqs hr
          rw [hpe] at PL
          replace PL := Lib.hid PL
          replace hvd := Lib.hid hvd
          clear hb hpe hmin he
          generalize deOver h q = over at hbe hin
          generalize trulyD h x q = l at hin htl TR
          go_enter Try.func8, Try.ntmps8
          go_upto_region 1 with (fail)
          rw [← hX]
          clear hX
          go_upto_region 8 with (first
            | (go_at_call 39; (with_reducible refine (TR.out _ _ _ hQ o1 r1).mono ?_); rintro e w5 ⟨b2, c2, rfl, o2, i2, hb⟩; replace r1 := r1.mono hb; replace hQ := q_on hQ hb; replace hx := HC.out _ hQ; dsimp only)
            | (go_at_call 38; (with_reducible refine (PL.out _ _ _ hQ o1 r1).mono ?_); rintro e w4 ⟨rfl, hb⟩; replace r1 := r1.mono hb; replace hQ := q_on hQ hb; replace hx := HC.out _ hQ; dsimp only)
            | (go_at_call 37; (with_reducible refine (DValid_is _ _ _ _ h true hvd.out _ (M.out _ hQ)).mono ?_); rintro e w3 ⟨rfl, hb⟩; replace r1 := r1.mono hb; replace hQ := q_on hQ hb; replace hx := HC.out _ hQ; dsimp only)
            | (go_at_call 26; (with_reducible refine (DA_Best _ _ _ _ h q over 0 hbe.out _ (M.out _ hQ)).mono ?_); rintro e w2 ⟨b1, c1, rfl, o1, r1, hb⟩; replace hQ := q_on hQ hb; replace hx := HC.out _ hQ; dsimp only))
          have hQ5 := hQ
          replace hx := hx
          have o2l := o2.1
          have hcc := hm.okc.1
          have hnc := hv.nc
          clear hb hx
          go_loopw [9] (fun i V => ∃ k : Nat, k ≤ l.length ∧ i = .int .i64 k ∧ Below w5.heap.size w5 V) (fun i _ => l.length - (intOf i).toNat)
          case atStart => exact ⟨0, Nat.zero_le _, rfl, Below.refl _ _⟩
          case round =>
            obtain ⟨k, hk, rfl, hb⟩ := hrel
            have hQ := q_on hQ5 hb
            have hx := HC.out _ hQ
            by_cases hlt : k < l.length
            · have hkn : k < h.customers.length := by omega
              obtain ⟨h1, h2⟩ := hin.out k _ (List.getElem?_eq_getElem hlt)
              have ec : customerAt h k = h.customers[k] := by unfold customerAt; rw [List.getElem?_eq_getElem hkn]; rfl
              rw [ec] at h1
              obtain ⟨b3, o3, e3, -, -, -, -, -, k4⟩ := (M.out _ hQ).custs k hkn
              obtain ⟨b4, o4, e4, -, k5⟩ := (i2.mono hb) k hlt
              generalize h.customers[k].ship = ship at h1 k4
              generalize l[k] = n at h1 h2 k5
              have z4 := lt_of_cell k4
              have z5 := lt_of_cell k5
              have g1 : (k : Int) < h.customers.length := by omega
              have g2 : (k : Int) < l.length := by omega
              have g3 : (k : Int) < kc := by omega
              have g4 : (k : Int) < c2 := by omega
              have n1 : ¬ ship < n := by omega
              have n2 : ¬ over < n := by omega
              clear ec
              subst e3
              subst e4
              go_upto_region 10 with (fail)
              go_quiet (fail)
              go_wp2
              go_roundw
              case rel => exact ⟨k + 1, by omega, by go_num, below_drewN' hb _⟩
              case measure => simp [intOf]; omega
            · obtain rfl : k = l.length := by omega
              replace i2 := i2.mono hb
              replace r1 := r1.mono hb
              clear hb
              go_wp2_with (first
                | (go_at_call 23; (with_reducible refine (DAwake_any _).mono ?_); rintro e w7 ⟨rfl, hb⟩; replace hQ := q_on hQ hb; replace hx := HC.out _ hQ; dsimp only)
                | (go_at_call 21; (with_reducible refine (DA_Fate _ _ _ _ h _ q _ 1 0 hfe.out _ (M.out _ hQ) o1 hqs r1).mono ?_); rintro e w6 ⟨rfl, hb⟩; replace hQ := q_on hQ hb; replace hx := HC.out _ hQ; dsimp only))
              go_ret
              exact ⟨rfl, hwX.trans (hQ.mono hwX.size)⟩
  ·   have hvd := decide_eq_false he
      have hbe := best_err he
      have hne := nei_t he
      replace hvd := Lib.hid hvd
      obtain ⟨er, her⟩ : ∃ er, er = deErr h := ⟨_, rfl⟩
      rw [← her] at hbe hne
      replace hbe := Lib.hid hbe
      clear he her
      go_enter Try.func8, Try.ntmps8
      go_upto_region 1 with (fail)
      rw [← hX]
      clear hX
      go_wp2_with (first
        | (go_at_call 23; (with_reducible refine (DAwake_any _).mono ?_); rintro e w5 ⟨rfl, hb⟩; replace hQ := q_on hQ hb; replace hx := HC.out _ hQ; dsimp only)
        | (go_at_call 37; (with_reducible refine (DValid_is _ _ _ _ h false hvd.out _ (M.out _ hQ)).mono ?_); rintro e w4 ⟨rfl, hb⟩; replace hQ := q_on hQ hb; replace hx := HC.out _ hQ; dsimp only)
        | (go_at_call 37; (with_reducible refine (DValid_is _ _ _ _ h false hvd.out _ (M.out _ hQ)).mono ?_); rintro e w3 ⟨rfl, hb⟩; replace hQ := q_on hQ hb; replace hx := HC.out _ hQ; dsimp only)
        | (go_at_call 26; (with_reducible refine (DA_Best _ _ _ _ h [] 0 er hbe.out _ (M.out _ hQ)).mono ?_); rintro e w2 ⟨b1, c1, rfl, o1, r1, hb⟩; replace hQ := q_on hQ hb; replace hx := HC.out _ hQ; dsimp only [List.length_nil]))
      go_ret
      exact ⟨rfl, hwX.trans (hQ.mono hwX.size)⟩
end Go.Proofs.Ytchnpekgmkhacaa
