/- What is proved here: the walk of DeskBetter: it returns true, and turns nothing that was there. Conditions: the hall lies in memory. -/
import Derived.Test.YtchnpekgmkhacaaDw6
set_option linter.unusedVariables false
set_option linter.unusedSimpArgs false
namespace Go.Proofs.Ytchnpekgmkhacaa
open Go Go.RowKit
set_option maxRecDepth 100000 in
set_option maxHeartbeats 16000000 in
theorem DeskBetter_walk (aw ac : Option Addr) (kw kc : Nat) (h : DeH) (ax : Option Addr) (x : List Int) (cx : Nat) (w : World) (hm : HallC w aw ac kw kc h) (hox : SlOk ax x.length cx) (hix : BytesC w ax x) : Calls Try.prog 10 #[(.agg #[.int .i64 h.wax, .slice aw h.writers.length kw, .slice ac h.customers.length kc]), .slice ax x.length cx] w fun e w' => e = .returned (.bool true) ∧ Below w.heap.size w w' := by
  obtain ⟨X, hX⟩ : ∃ X : World, X = (w.alloc (.cells #[.int .i64 h.wax, .slice aw h.writers.length kw, .slice ac h.customers.length kc] 25)) := ⟨_, rfl⟩
  have hwX : Below w.heap.size w X := by rw [hX]; exact (by (repeat' (first | assumption | exact Below.refl _ _ | refine below_drew' ?_ | refine Below.setCell ?_ (by first | omega | (simp <;> omega)) _ | refine Below.alloc ?_ (by first | omega | (simp <;> omega)) _)))
  have g1 : X.heap[w.heap.size]? = some (.cells #[.int .i64 h.wax, .slice aw h.writers.length kw, .slice ac h.customers.length kc] 25 (0, 0)) := by rw [hX]; (repeat' (first | exact alloc_at _ _ (by simp) | refine (heap_alloc_old _ _ (by first | omega | (simp <;> omega))).trans ?_))
  replace g1 := fun (V : World) (h : Below X.heap.size X V) => (h.block _ (lt_of_block g1)).trans g1
  have HC : Hid (∀ V, Below X.heap.size X V → (V.cell? ⟨w.heap.size, 0, none⟩ = some (.int .i64 h.wax) ∧ V.cell? ⟨w.heap.size, 1, none⟩ = some (.slice aw h.writers.length kw) ∧ V.cell? ⟨w.heap.size, 2, none⟩ = some (.slice ac h.customers.length kc) ∧ w.heap.size < V.heap.size)) := Lib.hid (fun V h => ⟨blk_cell 0 (g1 V h) rfl, blk_cell 1 (g1 V h) rfl, blk_cell 2 (g1 V h) rfl, lt_of_block (g1 V h)⟩)
  have M := Lib.hid (fun (V : World) (h : Below X.heap.size X V) => (hm.mono hwX).mono h)
  clear g1
  have hQ := Below.refl X.heap.size X
  have hx := HC.out _ hQ
  have MX := Lib.hid (fun (V : World) (h : Below X.heap.size X V) => (hix.mono hwX).mono h)
  by_cases he : deErr h = 0
  · have hvd := Lib.hid (decide_eq_true he)
    have hv := deValid_of he
    cases hA : anyD h x with
    | none =>
      have hbe : Hid (deBest h = ([], 0, 9)) := Lib.hid (by
        rcases best_cases he with ⟨hb, _⟩ | ⟨q, _, hp, _⟩
        · exact hb
        · exact absurd hp (any_no hA))
      have AN := Lib.hid (fun (V : World) (hq : Below X.heap.size X V) => DAny_none aw ac kw kc h ax x cx hA V (M.out _ hq) hv hox (MX.out _ hq))
      clear hA he
      go_enter Try.func10, Try.ntmps10
      go_upto_region 1 with (fail)
      rw [← hX]
      clear hX
      go_wp2_with (first
        | (go_at_call 23; (with_reducible refine (DAwake_any _).mono ?_); rintro e w5 ⟨rfl, hb⟩; replace hQ := q_on hQ hb; replace hx := HC.out _ hQ; dsimp only)
        | (go_at_call 40; (with_reducible refine (AN.out _ hQ).mono ?_); rintro e w4 ⟨rfl, hb⟩; replace hQ := q_on hQ hb; replace hx := HC.out _ hQ; dsimp only)
        | (go_at_call 26; (with_reducible refine (DA_Best _ _ _ _ h [] 0 9 hbe.out _ (M.out _ hQ)).mono ?_); rintro e w3 ⟨b1, c1, rfl, o1, r1, hb⟩; replace hQ := q_on hQ hb; replace hx := HC.out _ hQ; dsimp only [List.length_nil])
        | (go_at_call 37; (with_reducible refine (DValid_is _ _ _ _ h true hvd.out _ (M.out _ hQ)).mono ?_); rintro e w2 ⟨rfl, hb⟩; replace hQ := q_on hQ hb; replace hx := HC.out _ hQ; dsimp only))
      go_ret
      exact ⟨rfl, hwX.trans (hQ.mono hwX.size)⟩
    | some p =>
      have hok : PlanOk h h.customers.length p := any_ok hA
      have AN := Lib.hid (fun (V : World) (hq : Below X.heap.size X V) => DAny_some aw ac kw kc h ax x cx p hA V (M.out _ hq) hv hox (MX.out _ hq))
      have hfe := fate_good he hok
      have hps := Nat.le_trans (plan_short hv hok) (show 5 ≤ 1048576 by decide)
      have hvals := deDoes_vals h p
      have hin : inB (deDoes h p) 0 2 = true := inB_iff.2 (by omega)
      rcases best_cases he with ⟨hb, hno⟩ | ⟨q, hb, hp, hd, hmin⟩
      ·   have hbe := Lib.hid hb
          have hn1 := nei_t (hno p hok)
          clear hb hno hA he hvals
          generalize deDoes h p = n at hfe hn1 hin
          replace hfe := Lib.hid hfe
          replace hin := Lib.hid hin
          go_enter Try.func10, Try.ntmps10
          go_upto_region 1 with (fail)
          rw [← hX]
          clear hX
          go_wp2_with (first
            | (go_at_call 23; (with_reducible refine (DAwake_any _).mono ?_); rintro e w7 ⟨rfl, hb⟩; replace hQ := q_on hQ hb; replace hx := HC.out _ hQ; dsimp only)
            | (go_at_call 41; (with_reducible refine (DIn_is n 0 2 true hin.out _).mono ?_); rintro e w6 ⟨rfl, hb⟩; replace hQ := q_on hQ hb; replace hx := HC.out _ hQ; dsimp only)
            | (go_at_call 21; (with_reducible refine (DA_Fate _ _ _ _ h _ p _ n 0 hfe.out _ (M.out _ hQ) o2 hps r2).mono ?_); rintro e w5 ⟨rfl, hb⟩; replace r2 := r2.mono hb; replace hQ := q_on hQ hb; replace hx := HC.out _ hQ; dsimp only)
            | (go_at_call 40; (with_reducible refine (AN.out _ hQ).mono ?_); rintro e w4 ⟨b2, c2, rfl, o2, r2, hb⟩; replace hQ := q_on hQ hb; replace hx := HC.out _ hQ; dsimp only)
            | (go_at_call 26; (with_reducible refine (DA_Best _ _ _ _ h [] 0 9 hbe.out _ (M.out _ hQ)).mono ?_); rintro e w3 ⟨b1, c1, rfl, o1, r1, hb⟩; replace hQ := q_on hQ hb; replace hx := HC.out _ hQ; dsimp only [List.length_nil])
            | (go_at_call 37; (with_reducible refine (DValid_is _ _ _ _ h true hvd.out _ (M.out _ hQ)).mono ?_); rintro e w2 ⟨rfl, hb⟩; replace hQ := q_on hQ hb; replace hx := HC.out _ hQ; dsimp only))
          go_ret
          exact ⟨rfl, hwX.trans (hQ.mono hwX.size)⟩
      ·   have hbe := Lib.hid hb
          have hqs := Nat.le_trans (plan_short hv hp) (show 5 ≤ 1048576 by decide)
          have hcmp := hmin p hok
          have hll : p.length = q.length := by rw [hok.len, hp.len]
          have PL := fun (a : Option Addr) (c : Nat) (V : World) (hq : Below X.heap.size X V) (ho : SlOk a q.length c) (hr : RowsC V a q) => DRPlan_any aw ac kw kc h a q c V (M.out _ hq) ho hqs hr
          rw [plan_good he hp] at PL
          have DO := fun (a : Option Addr) (c : Nat) (V : World) (hq : Below X.heap.size X V) (ho : SlOk a q.length c) (hr : RowsC V a q) => DRDoes_any aw ac kw kc h a q c V (M.out _ hq) hv hp ho hr
          rw [hd] at DO
          have OQ := fun (a : Option Addr) (c : Nat) (V : World) (hq : Below X.heap.size X V) (ho : SlOk a q.length c) (hr : RowsC V a q) => DROver_any aw ac kw kc h a q c V (M.out _ hq) hv hp ho hr
          have OP := fun (a : Option Addr) (c : Nat) (V : World) (hq : Below X.heap.size X V) (ho : SlOk a p.length c) (hr : RowsC V a p) => DROver_any aw ac kw kc h a p c V (M.out _ hq) hv hok ho hr
          have BE := fun (a b : Option Addr) (ca cb : Nat) (V : World) (oa : SlOk a p.length ca) (ob : SlOk b q.length cb) (ra : RowsC V a p) (rb : RowsC V b q) => (DRBefore_any a b p q ca cb V hll oa ob ra rb).mono (R' := fun e w' => e = .returned (.bool (beforeD p q)) ∧ Below V.heap.size V w') (fun e w' ⟨e1, q9, e2⟩ => ⟨e1, by rw [e2]; exact below_draws _ _ q9⟩)
          clear hb hmin hA he hvals hll
          generalize deOver h q = over at hbe hcmp OQ
          generalize deOver h p = m at hcmp OP
          generalize deDoes h p = n at hfe hin hcmp
          generalize beforeD p q = bf at hcmp BE
          replace hfe := Lib.hid hfe
          replace hin := Lib.hid hin
          replace PL := Lib.hid PL
          replace DO := Lib.hid DO
          replace OQ := Lib.hid OQ
          replace OP := Lib.hid OP
          have o9 := nei_f (show over = over from rfl)
          by_cases h1 : n = 1
          · have k1 := nei_f h1
            rcases hcmp h1 with h2 | ⟨h2, h3⟩
            · replace BE := Lib.hid BE
              clear h1 hcmp
              go_enter Try.func10, Try.ntmps10
              go_upto_region 1 with (fail)
              rw [← hX]
              clear hX
              go_wp2_with (first
                | (go_at_call 23; (with_reducible refine (DAwake_any _).mono ?_); rintro e w12 ⟨rfl, hb⟩; replace hQ := q_on hQ hb; replace hx := HC.out _ hQ; dsimp only)
                | (go_at_call 45; (with_reducible refine (BE.out _ _ _ _ _ o2 o1 r2 r1).mono ?_); rintro e w11 ⟨rfl, hb⟩; replace hQ := q_on hQ hb; replace hx := HC.out _ hQ; dsimp only)
                | (go_at_call 44; (with_reducible refine (OP.out _ _ _ hQ o2 r2).mono ?_); rintro e w10 ⟨rfl, hb⟩; replace r1 := r1.mono hb; replace r2 := r2.mono hb; replace hQ := q_on hQ hb; replace hx := HC.out _ hQ; dsimp only)
                | (go_at_call 44; (with_reducible refine (OQ.out _ _ _ hQ o1 r1).mono ?_); rintro e w9 ⟨rfl, hb⟩; replace r1 := r1.mono hb; replace r2 := r2.mono hb; replace hQ := q_on hQ hb; replace hx := HC.out _ hQ; dsimp only)
                | (go_at_call 43; (with_reducible refine (DO.out _ _ _ hQ o1 r1).mono ?_); rintro e w8 ⟨rfl, hb⟩; replace r1 := r1.mono hb; replace r2 := r2.mono hb; replace hQ := q_on hQ hb; replace hx := HC.out _ hQ; dsimp only)
                | (go_at_call 38; (with_reducible refine (PL.out _ _ _ hQ o1 r1).mono ?_); rintro e w7 ⟨rfl, hb⟩; replace r1 := r1.mono hb; replace r2 := r2.mono hb; replace hQ := q_on hQ hb; replace hx := HC.out _ hQ; dsimp only)
                | (go_at_call 41; (with_reducible refine (DIn_is n 0 2 true hin.out _).mono ?_); rintro e w6 ⟨rfl, hb⟩; replace r1 := r1.mono hb; replace r2 := r2.mono hb; replace hQ := q_on hQ hb; replace hx := HC.out _ hQ; dsimp only)
                | (go_at_call 21; (with_reducible refine (DA_Fate _ _ _ _ h _ p _ n 0 hfe.out _ (M.out _ hQ) o2 hps r2).mono ?_); rintro e w5 ⟨rfl, hb⟩; replace r1 := r1.mono hb; replace r2 := r2.mono hb; replace hQ := q_on hQ hb; replace hx := HC.out _ hQ; dsimp only)
                | (go_at_call 40; (with_reducible refine (AN.out _ hQ).mono ?_); rintro e w4 ⟨b2, c2, rfl, o2, r2, hb⟩; replace r1 := r1.mono hb; replace hQ := q_on hQ hb; replace hx := HC.out _ hQ; dsimp only)
                | (go_at_call 26; (with_reducible refine (DA_Best _ _ _ _ h q over 0 hbe.out _ (M.out _ hQ)).mono ?_); rintro e w3 ⟨b1, c1, rfl, o1, r1, hb⟩; replace hQ := q_on hQ hb; replace hx := HC.out _ hQ; dsimp only)
                | (go_at_call 37; (with_reducible refine (DValid_is _ _ _ _ h true hvd.out _ (M.out _ hQ)).mono ?_); rintro e w2 ⟨rfl, hb⟩; replace hQ := q_on hQ hb; replace hx := HC.out _ hQ; dsimp only))
              go_ret
              exact ⟨rfl, hwX.trans (hQ.mono hwX.size)⟩
            · have k2 : ¬ over < m := by omega
              have k3 := eqi_t h2.symm
              subst h3
              replace BE := Lib.hid BE
              clear h1 hcmp h2
              go_enter Try.func10, Try.ntmps10
              go_upto_region 1 with (fail)
              rw [← hX]
              clear hX
              go_wp2_with (first
                | (go_at_call 23; (with_reducible refine (DAwake_any _).mono ?_); rintro e w12 ⟨rfl, hb⟩; replace hQ := q_on hQ hb; replace hx := HC.out _ hQ; dsimp only)
                | (go_at_call 45; (with_reducible refine (BE.out _ _ _ _ _ o2 o1 r2 r1).mono ?_); rintro e w11 ⟨rfl, hb⟩; replace hQ := q_on hQ hb; replace hx := HC.out _ hQ; dsimp only)
                | (go_at_call 44; (with_reducible refine (OP.out _ _ _ hQ o2 r2).mono ?_); rintro e w10 ⟨rfl, hb⟩; replace r1 := r1.mono hb; replace r2 := r2.mono hb; replace hQ := q_on hQ hb; replace hx := HC.out _ hQ; dsimp only)
                | (go_at_call 44; (with_reducible refine (OQ.out _ _ _ hQ o1 r1).mono ?_); rintro e w9 ⟨rfl, hb⟩; replace r1 := r1.mono hb; replace r2 := r2.mono hb; replace hQ := q_on hQ hb; replace hx := HC.out _ hQ; dsimp only)
                | (go_at_call 43; (with_reducible refine (DO.out _ _ _ hQ o1 r1).mono ?_); rintro e w8 ⟨rfl, hb⟩; replace r1 := r1.mono hb; replace r2 := r2.mono hb; replace hQ := q_on hQ hb; replace hx := HC.out _ hQ; dsimp only)
                | (go_at_call 38; (with_reducible refine (PL.out _ _ _ hQ o1 r1).mono ?_); rintro e w7 ⟨rfl, hb⟩; replace r1 := r1.mono hb; replace r2 := r2.mono hb; replace hQ := q_on hQ hb; replace hx := HC.out _ hQ; dsimp only)
                | (go_at_call 41; (with_reducible refine (DIn_is n 0 2 true hin.out _).mono ?_); rintro e w6 ⟨rfl, hb⟩; replace r1 := r1.mono hb; replace r2 := r2.mono hb; replace hQ := q_on hQ hb; replace hx := HC.out _ hQ; dsimp only)
                | (go_at_call 21; (with_reducible refine (DA_Fate _ _ _ _ h _ p _ n 0 hfe.out _ (M.out _ hQ) o2 hps r2).mono ?_); rintro e w5 ⟨rfl, hb⟩; replace r1 := r1.mono hb; replace r2 := r2.mono hb; replace hQ := q_on hQ hb; replace hx := HC.out _ hQ; dsimp only)
                | (go_at_call 40; (with_reducible refine (AN.out _ hQ).mono ?_); rintro e w4 ⟨b2, c2, rfl, o2, r2, hb⟩; replace r1 := r1.mono hb; replace hQ := q_on hQ hb; replace hx := HC.out _ hQ; dsimp only)
                | (go_at_call 26; (with_reducible refine (DA_Best _ _ _ _ h q over 0 hbe.out _ (M.out _ hQ)).mono ?_); rintro e w3 ⟨b1, c1, rfl, o1, r1, hb⟩; replace hQ := q_on hQ hb; replace hx := HC.out _ hQ; dsimp only)
                | (go_at_call 37; (with_reducible refine (DValid_is _ _ _ _ h true hvd.out _ (M.out _ hQ)).mono ?_); rintro e w2 ⟨rfl, hb⟩; replace hQ := q_on hQ hb; replace hx := HC.out _ hQ; dsimp only))
              go_ret
              exact ⟨rfl, hwX.trans (hQ.mono hwX.size)⟩
          · have k1 := nei_t h1
            replace BE := Lib.hid BE
            clear h1 hcmp
            go_enter Try.func10, Try.ntmps10
            go_upto_region 1 with (fail)
            rw [← hX]
            clear hX
            go_wp2_with (first
              | (go_at_call 23; (with_reducible refine (DAwake_any _).mono ?_); rintro e w12 ⟨rfl, hb⟩; replace hQ := q_on hQ hb; replace hx := HC.out _ hQ; dsimp only)
              | (go_at_call 45; (with_reducible refine (BE.out _ _ _ _ _ o2 o1 r2 r1).mono ?_); rintro e w11 ⟨rfl, hb⟩; replace hQ := q_on hQ hb; replace hx := HC.out _ hQ; dsimp only)
              | (go_at_call 44; (with_reducible refine (OP.out _ _ _ hQ o2 r2).mono ?_); rintro e w10 ⟨rfl, hb⟩; replace r1 := r1.mono hb; replace r2 := r2.mono hb; replace hQ := q_on hQ hb; replace hx := HC.out _ hQ; dsimp only)
              | (go_at_call 44; (with_reducible refine (OQ.out _ _ _ hQ o1 r1).mono ?_); rintro e w9 ⟨rfl, hb⟩; replace r1 := r1.mono hb; replace r2 := r2.mono hb; replace hQ := q_on hQ hb; replace hx := HC.out _ hQ; dsimp only)
              | (go_at_call 43; (with_reducible refine (DO.out _ _ _ hQ o1 r1).mono ?_); rintro e w8 ⟨rfl, hb⟩; replace r1 := r1.mono hb; replace r2 := r2.mono hb; replace hQ := q_on hQ hb; replace hx := HC.out _ hQ; dsimp only)
              | (go_at_call 38; (with_reducible refine (PL.out _ _ _ hQ o1 r1).mono ?_); rintro e w7 ⟨rfl, hb⟩; replace r1 := r1.mono hb; replace r2 := r2.mono hb; replace hQ := q_on hQ hb; replace hx := HC.out _ hQ; dsimp only)
              | (go_at_call 41; (with_reducible refine (DIn_is n 0 2 true hin.out _).mono ?_); rintro e w6 ⟨rfl, hb⟩; replace r1 := r1.mono hb; replace r2 := r2.mono hb; replace hQ := q_on hQ hb; replace hx := HC.out _ hQ; dsimp only)
              | (go_at_call 21; (with_reducible refine (DA_Fate _ _ _ _ h _ p _ n 0 hfe.out _ (M.out _ hQ) o2 hps r2).mono ?_); rintro e w5 ⟨rfl, hb⟩; replace r1 := r1.mono hb; replace r2 := r2.mono hb; replace hQ := q_on hQ hb; replace hx := HC.out _ hQ; dsimp only)
              | (go_at_call 40; (with_reducible refine (AN.out _ hQ).mono ?_); rintro e w4 ⟨b2, c2, rfl, o2, r2, hb⟩; replace r1 := r1.mono hb; replace hQ := q_on hQ hb; replace hx := HC.out _ hQ; dsimp only)
              | (go_at_call 26; (with_reducible refine (DA_Best _ _ _ _ h q over 0 hbe.out _ (M.out _ hQ)).mono ?_); rintro e w3 ⟨b1, c1, rfl, o1, r1, hb⟩; replace hQ := q_on hQ hb; replace hx := HC.out _ hQ; dsimp only)
              | (go_at_call 37; (with_reducible refine (DValid_is _ _ _ _ h true hvd.out _ (M.out _ hQ)).mono ?_); rintro e w2 ⟨rfl, hb⟩; replace hQ := q_on hQ hb; replace hx := HC.out _ hQ; dsimp only))
            go_ret
            exact ⟨rfl, hwX.trans (hQ.mono hwX.size)⟩
  · have hvd := decide_eq_false he
    have hbe := best_err he
    have hne := nei_t he
    replace hvd := Lib.hid hvd
    obtain ⟨er, her⟩ : ∃ er, er = deErr h := ⟨_, rfl⟩
    rw [← her] at hbe hne
    replace hbe := Lib.hid hbe
    clear he her
    go_enter Try.func10, Try.ntmps10
    go_upto_region 1 with (fail)
    rw [← hX]
    clear hX
    go_wp2_with (first
      | (go_at_call 23; (with_reducible refine (DAwake_any _).mono ?_); rintro e w4 ⟨rfl, hb⟩; replace hQ := q_on hQ hb; replace hx := HC.out _ hQ; dsimp only)
      | (go_at_call 26; (with_reducible refine (DA_Best _ _ _ _ h [] 0 er hbe.out _ (M.out _ hQ)).mono ?_); rintro e w3 ⟨b1, c1, rfl, o1, r1, hb⟩; replace hQ := q_on hQ hb; replace hx := HC.out _ hQ; dsimp only [List.length_nil])
      | (go_at_call 37; (with_reducible refine (DValid_is _ _ _ _ h false hvd.out _ (M.out _ hQ)).mono ?_); rintro e w2 ⟨rfl, hb⟩; replace hQ := q_on hQ hb; replace hx := HC.out _ hQ; dsimp only))
    go_ret
    exact ⟨rfl, hwX.trans (hQ.mono hwX.size)⟩
end Go.Proofs.Ytchnpekgmkhacaa
