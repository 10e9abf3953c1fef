/- What is proved here: the walks of the statements of layer 9 that compare: they return true, and turn nothing that was there. Conditions: the hall lies in memory. -/
import Derived.Test.YtchnpekgmkhacaaDw3
set_option linter.unusedVariables false
set_option linter.unusedSimpArgs false
namespace Go.Proofs.Ytchnpekgmkhacaa
open Go Go.RowKit
theorem DInts_same {a b : Option Addr} {l : List Int} {c d : Nat} {w : World} (hl : SlOk a l.length c) (hi : IntsC w a l) (hj : IntsC w b l) :
    Calls Try.prog 31 #[.slice a l.length c, .slice b l.length d] w fun e w' => e = .returned (.bool true) ∧ Below w.heap.size w w' := by
  have C := Ints_any a b l l c d w hl.len hl.len hi hj
  rw [intsB_iff.2 rfl] at C
  exact C.mono fun e w' ⟨h1, q, h2⟩ => ⟨h1, by rw [h2]; exact below_draws _ _ q⟩
theorem DSpans_same {a b : Option Addr} {A : List (Int × Int)} {ca cb : Nat} {w : World} (hoa : SlOk a A.length ca) (hob : SlOk b A.length cb) (hi : SpansC w a A) (hj : SpansC w b A) (hs : SmallS A) :
    Calls Try.prog 20 #[.slice a A.length ca, .slice b A.length cb] w fun e w' => e = .returned (.bool true) ∧ Below w.heap.size w w' := by
  have C := DRSpans_any a b A A ca cb w hoa hob hi hj hs hs
  rw [decide_eq_true rfl] at C
  exact C.mono fun e w' ⟨h1, q, h2⟩ => ⟨h1, by rw [h2]; exact below_draws _ _ q⟩
theorem sealed_small {h : DeH} (hv : DeValid h) {p : List (List Int)} (hp : PlanOk h h.customers.length p) : ∀ s ∈ deSealed h p, 0 ≤ s.1 ∧ s.1 ≤ s.2 ∧ s.2 ≤ 1000 := fun s hs => by
  obtain ⟨i, hi, rfl⟩ := List.getElem_of_mem hs
  have hi2 : i < h.customers.length := by rw [sealed_len] at hi; exact hi
  have h1 := sealed_bd hv hp hi2 hi
  have h2 := sealed_le hv hp (List.getElem?_eq_getElem hi)
  refine ⟨?_, h2, h1.2⟩
  obtain ⟨u, a, b, hu, e⟩ := plan_has hp hi2
  have h3 := sealed_at hp e
  rw [Int.toNat_natCast, List.getElem?_eq_getElem hi] at h3
  rw [Option.some.inj h3]
  have hw := hv.writer hu
  refine (spanD_bd hv _ ((writerAt h u).lo, (writerAt h u).hi) (fun d hd => plan_idx hp _ (List.mem_of_getElem? e) d ?_) hw.1 (by simp only; omega)).1
  rcases List.mem_append.1 hd with h9 | h9
  · exact List.mem_append.2 (.inl h9)
  · rw [List.mem_singleton.1 h9]; simp
theorem ends_small (h : DeH) (p : List (List Int)) : SmallS (deEnds h p).1 := by
  unfold deEnds
  by_cases e : dePlanErr h p = 0
  · rw [if_pos e]
    obtain ⟨hv, hp⟩ := plan_of_err e
    intro s hs
    have := sealed_small hv hp s hs
    omega
  · rw [if_neg e]
    intro s hs
    cases hs
set_option maxRecDepth 100000 in
set_option maxHeartbeats 16000000 in
theorem DeskEnds_walk (aw ac : Option Addr) (kw kc : Nat) (h : DeH) (ad : Option Addr) (p : List (List Int)) (cp : Nat) (w : World) (hm : HallC w aw ac kw kc h) (hc : SlOk ad p.length cp) (hsz : p.flatten.length ≤ 1048576) (hi : RowsC w ad p) : Calls Try.prog 3 #[(.agg #[.int .i64 h.wax, .slice aw h.writers.length kw, .slice ac h.customers.length kc]), .slice ad p.length cp] w fun e w' => e = .returned (.bool true) ∧ Below w.heap.size w w' := by
  obtain ⟨X, hX⟩ : ∃ X : World, X = (w.alloc (.cells #[.int .i64 h.wax, .slice aw h.writers.length kw, .slice ac h.customers.length kc] 25)) := ⟨_, rfl⟩
  have hwX : Below w.heap.size w X := by rw [hX]; exact (by (repeat' (first | assumption | exact Below.refl _ _ | refine below_drew' ?_ | refine Below.setCell ?_ (by first | omega | (simp <;> omega)) _ | refine Below.alloc ?_ (by first | omega | (simp <;> omega)) _)))
  have g1 : X.heap[w.heap.size]? = some (.cells #[.int .i64 h.wax, .slice aw h.writers.length kw, .slice ac h.customers.length kc] 25 (0, 0)) := by rw [hX]; (repeat' (first | exact alloc_at _ _ (by simp) | refine (heap_alloc_old _ _ (by first | omega | (simp <;> omega))).trans ?_))
  replace g1 := fun (V : World) (h : Below X.heap.size X V) => (h.block _ (lt_of_block g1)).trans g1
  have HC : Hid (∀ V, Below X.heap.size X V → (V.cell? ⟨w.heap.size, 0, none⟩ = some (.int .i64 h.wax) ∧ V.cell? ⟨w.heap.size, 1, none⟩ = some (.slice aw h.writers.length kw) ∧ V.cell? ⟨w.heap.size, 2, none⟩ = some (.slice ac h.customers.length kc) ∧ w.heap.size < V.heap.size)) := Lib.hid (fun V h => ⟨blk_cell 0 (g1 V h) rfl, blk_cell 1 (g1 V h) rfl, blk_cell 2 (g1 V h) rfl, lt_of_block (g1 V h)⟩)
  have M := Lib.hid (fun (V : World) (h : Below X.heap.size X V) => (hm.mono hwX).mono h)
  clear g1
  have hQ := Below.refl X.heap.size X
  have hx := HC.out _ hQ
  obtain ⟨⟨q1, q2, q3⟩, h1⟩ : ∃ x, deCheck h = x := ⟨_, rfl⟩
  obtain ⟨⟨l1, e1⟩, h2⟩ : ∃ x, deEnds h p = x := ⟨_, rfl⟩
  obtain ⟨⟨m1, e2⟩, h3⟩ : ∃ x, deFate h p = x := ⟨_, rfl⟩
  have hsm : SmallS l1 := by have := ends_small h p; rw [h2] at this; exact this
  replace hsm := Lib.hid hsm
  have rp := (hi.mono hwX).mono hQ
  replace h1 := Lib.hid h1
  replace h2 := Lib.hid h2
  replace h3 := Lib.hid h3
  go_enter Try.func3, Try.ntmps3
  go_upto_region 1 with (fail)
  rw [← hX]
  clear hX
  go_wp2_with (first
    | (go_at_call 23; (with_reducible refine (DAwake_any _).mono ?_); rintro e w9 ⟨rfl, hb⟩; replace hQ := q_on hQ hb; replace hx := HC.out _ hQ; dsimp only)
    | (go_at_call 22; (with_reducible refine (DB_Fate _ _ _ _ h _ p _ m1 e2 h3.out _ (M.out _ hQ) hc hsz rp).mono ?_); rintro e w8 ⟨rfl, hb⟩; replace hQ := q_on hQ hb; replace hx := HC.out _ hQ; dsimp only)
    | (go_at_call 21; (with_reducible refine (DA_Fate _ _ _ _ h _ p _ m1 e2 h3.out _ (M.out _ hQ) hc hsz rp).mono ?_); rintro e w7 ⟨rfl, hb⟩; replace rp := rp.mono hb; replace hQ := q_on hQ hb; replace hx := HC.out _ hQ; dsimp only)
    | (go_at_call 20; (with_reducible refine (DSpans_same o1 o2 s1 s2 hsm.out).mono ?_); rintro e w6 ⟨rfl, hb⟩; replace rp := rp.mono hb; replace hQ := q_on hQ hb; replace hx := HC.out _ hQ; dsimp only)
    | (go_at_call 19; (with_reducible refine (DB_Ends _ _ _ _ h _ p _ l1 e1 h2.out _ (M.out _ hQ) hc hsz rp).mono ?_); rintro e w5 ⟨b2, c2, rfl, o2, s2, hb⟩; replace rp := rp.mono hb; replace s1 := s1.mono hb; replace hQ := q_on hQ hb; replace hx := HC.out _ hQ; dsimp only)
    | (go_at_call 18; (with_reducible refine (DA_Ends _ _ _ _ h _ p _ l1 e1 h2.out _ (M.out _ hQ) hc hsz rp).mono ?_); rintro e w4 ⟨b1, c1, rfl, o1, s1, hb⟩; replace rp := rp.mono hb; replace hQ := q_on hQ hb; replace hx := HC.out _ hQ; dsimp only)
    | (go_at_call 17; (with_reducible refine (DB_Check _ _ _ _ h q1 q2 q3 h1.out _ (M.out _ hQ)).mono ?_); rintro e w3 ⟨rfl, hb⟩; replace rp := rp.mono hb; replace hQ := q_on hQ hb; replace hx := HC.out _ hQ; dsimp only)
    | (go_at_call 16; (with_reducible refine (DA_Check _ _ _ _ h q1 q2 q3 h1.out _ (M.out _ hQ)).mono ?_); rintro e w2 ⟨rfl, hb⟩; replace rp := rp.mono hb; replace hQ := q_on hQ hb; replace hx := HC.out _ hQ; dsimp only))
  go_ret
  exact ⟨rfl, hwX.trans (hQ.mono hwX.size)⟩
set_option maxRecDepth 100000 in
set_option maxHeartbeats 16000000 in
theorem DeskLates_walk (aw ac : Option Addr) (kw kc : Nat) (h : DeH) (ad : Option Addr) (p : List (List Int)) (cp : Nat) (w : World) (hm : HallC w aw ac kw kc h) (hc : SlOk ad p.length cp) (hsz : p.flatten.length ≤ 1048576) (hi : RowsC w ad p) : Calls Try.prog 4 #[(.agg #[.int .i64 h.wax, .slice aw h.writers.length kw, .slice ac h.customers.length kc]), .slice ad p.length cp] w fun e w' => e = .returned (.bool true) ∧ Below w.heap.size w w' := by
  obtain ⟨X, hX⟩ : ∃ X : World, X = (w.alloc (.cells #[.int .i64 h.wax, .slice aw h.writers.length kw, .slice ac h.customers.length kc] 25)) := ⟨_, rfl⟩
  have hwX : Below w.heap.size w X := by rw [hX]; exact (by (repeat' (first | assumption | exact Below.refl _ _ | refine below_drew' ?_ | refine Below.setCell ?_ (by first | omega | (simp <;> omega)) _ | refine Below.alloc ?_ (by first | omega | (simp <;> omega)) _)))
  have g1 : X.heap[w.heap.size]? = some (.cells #[.int .i64 h.wax, .slice aw h.writers.length kw, .slice ac h.customers.length kc] 25 (0, 0)) := by rw [hX]; (repeat' (first | exact alloc_at _ _ (by simp) | refine (heap_alloc_old _ _ (by first | omega | (simp <;> omega))).trans ?_))
  replace g1 := fun (V : World) (h : Below X.heap.size X V) => (h.block _ (lt_of_block g1)).trans g1
  have HC : Hid (∀ V, Below X.heap.size X V → (V.cell? ⟨w.heap.size, 0, none⟩ = some (.int .i64 h.wax) ∧ V.cell? ⟨w.heap.size, 1, none⟩ = some (.slice aw h.writers.length kw) ∧ V.cell? ⟨w.heap.size, 2, none⟩ = some (.slice ac h.customers.length kc) ∧ w.heap.size < V.heap.size)) := Lib.hid (fun V h => ⟨blk_cell 0 (g1 V h) rfl, blk_cell 1 (g1 V h) rfl, blk_cell 2 (g1 V h) rfl, lt_of_block (g1 V h)⟩)
  have M := Lib.hid (fun (V : World) (h : Below X.heap.size X V) => (hm.mono hwX).mono h)
  clear g1
  have hQ := Below.refl X.heap.size X
  have hx := HC.out _ hQ
  obtain ⟨⟨m1, e1⟩, h1⟩ : ∃ x, deLate h p = x := ⟨_, rfl⟩
  have rp := (hi.mono hwX).mono hQ
  replace h1 := Lib.hid h1
  go_enter Try.func4, Try.ntmps4
  go_upto_region 1 with (fail)
  rw [← hX]
  clear hX
  go_wp2_with (first
    | (go_at_call 23; (with_reducible refine (DAwake_any _).mono ?_); rintro e w4 ⟨rfl, hb⟩; replace hQ := q_on hQ hb; replace hx := HC.out _ hQ; dsimp only)
    | (go_at_call 25; (with_reducible refine (DB_Late _ _ _ _ h _ p _ m1 e1 h1.out _ (M.out _ hQ) hc hsz rp).mono ?_); rintro e w3 ⟨rfl, hb⟩; replace hQ := q_on hQ hb; replace hx := HC.out _ hQ; dsimp only)
    | (go_at_call 24; (with_reducible refine (DA_Late _ _ _ _ h _ p _ m1 e1 h1.out _ (M.out _ hQ) hc hsz rp).mono ?_); rintro e w2 ⟨rfl, hb⟩; replace rp := rp.mono hb; replace hQ := q_on hQ hb; replace hx := HC.out _ hQ; dsimp only))
  go_ret
  exact ⟨rfl, hwX.trans (hQ.mono hwX.size)⟩
set_option maxRecDepth 100000 in
set_option maxHeartbeats 16000000 in
theorem DeskBests_walk (aw ac : Option Addr) (kw kc : Nat) (h : DeH) (w : World) (hm : HallC w aw ac kw kc h) : Calls Try.prog 5 #[(.agg #[.int .i64 h.wax, .slice aw h.writers.length kw, .slice ac h.customers.length kc])] w fun e w' => e = .returned (.bool true) ∧ Below w.heap.size w w' := by
  obtain ⟨X, hX⟩ : ∃ X : World, X = (w.alloc (.cells #[.int .i64 h.wax, .slice aw h.writers.length kw, .slice ac h.customers.length kc] 25)) := ⟨_, rfl⟩
  have hwX : Below w.heap.size w X := by rw [hX]; exact (by (repeat' (first | assumption | exact Below.refl _ _ | refine below_drew' ?_ | refine Below.setCell ?_ (by first | omega | (simp <;> omega)) _ | refine Below.alloc ?_ (by first | omega | (simp <;> omega)) _)))
  have g1 : X.heap[w.heap.size]? = some (.cells #[.int .i64 h.wax, .slice aw h.writers.length kw, .slice ac h.customers.length kc] 25 (0, 0)) := by rw [hX]; (repeat' (first | exact alloc_at _ _ (by simp) | refine (heap_alloc_old _ _ (by first | omega | (simp <;> omega))).trans ?_))
  replace g1 := fun (V : World) (h : Below X.heap.size X V) => (h.block _ (lt_of_block g1)).trans g1
  have HC : Hid (∀ V, Below X.heap.size X V → (V.cell? ⟨w.heap.size, 0, none⟩ = some (.int .i64 h.wax) ∧ V.cell? ⟨w.heap.size, 1, none⟩ = some (.slice aw h.writers.length kw) ∧ V.cell? ⟨w.heap.size, 2, none⟩ = some (.slice ac h.customers.length kc) ∧ w.heap.size < V.heap.size)) := Lib.hid (fun V h => ⟨blk_cell 0 (g1 V h) rfl, blk_cell 1 (g1 V h) rfl, blk_cell 2 (g1 V h) rfl, lt_of_block (g1 V h)⟩)
  have M := Lib.hid (fun (V : World) (h : Below X.heap.size X V) => (hm.mono hwX).mono h)
  clear g1
  have hQ := Below.refl X.heap.size X
  have hx := HC.out _ hQ
  obtain ⟨⟨l1, n1, e1⟩, h1⟩ : ∃ x, deBest h = x := ⟨_, rfl⟩
  replace h1 := Lib.hid h1
  go_enter Try.func5, Try.ntmps5
  go_upto_region 1 with (fail)
  rw [← hX]
  clear hX
  go_wp2_with (first
    | (go_at_call 23; (with_reducible refine (DAwake_any _).mono ?_); rintro e w5 ⟨rfl, hb⟩; replace hQ := q_on hQ hb; replace hx := HC.out _ hQ; dsimp only)
    | (go_at_call 28; (with_reducible refine (DRows_same o1 o2 r1 r2).mono ?_); rintro e w4 ⟨rfl, hb⟩; replace hQ := q_on hQ hb; replace hx := HC.out _ hQ; dsimp only)
    | (go_at_call 27; (with_reducible refine (DB_Best _ _ _ _ h l1 n1 e1 h1.out _ (M.out _ hQ)).mono ?_); rintro e w3 ⟨b2, c2, rfl, o2, r2, hb⟩; replace r1 := r1.mono hb; replace hQ := q_on hQ hb; replace hx := HC.out _ hQ; dsimp only)
    | (go_at_call 26; (with_reducible refine (DA_Best _ _ _ _ h l1 n1 e1 h1.out _ (M.out _ hQ)).mono ?_); rintro e w2 ⟨b1, c1, rfl, o1, r1, hb⟩; replace hQ := q_on hQ hb; replace hx := HC.out _ hQ; dsimp only))
  go_ret
  exact ⟨rfl, hwX.trans (hQ.mono hwX.size)⟩
set_option maxRecDepth 100000 in
set_option maxHeartbeats 16000000 in
theorem DeskAways_walk (aw ac : Option Addr) (kw kc : Nat) (h : DeH) (cu : Int) (w : World) (hm : HallC w aw ac kw kc h) : Calls Try.prog 6 #[(.agg #[.int .i64 h.wax, .slice aw h.writers.length kw, .slice ac h.customers.length kc]), .int .i64 cu] w fun e w' => e = .returned (.bool true) ∧ Below w.heap.size w w' := by
  obtain ⟨X, hX⟩ : ∃ X : World, X = (w.alloc (.cells #[.int .i64 h.wax, .slice aw h.writers.length kw, .slice ac h.customers.length kc] 25)) := ⟨_, rfl⟩
  have hwX : Below w.heap.size w X := by rw [hX]; exact (by (repeat' (first | assumption | exact Below.refl _ _ | refine below_drew' ?_ | refine Below.setCell ?_ (by first | omega | (simp <;> omega)) _ | refine Below.alloc ?_ (by first | omega | (simp <;> omega)) _)))
  have g1 : X.heap[w.heap.size]? = some (.cells #[.int .i64 h.wax, .slice aw h.writers.length kw, .slice ac h.customers.length kc] 25 (0, 0)) := by rw [hX]; (repeat' (first | exact alloc_at _ _ (by simp) | refine (heap_alloc_old _ _ (by first | omega | (simp <;> omega))).trans ?_))
  replace g1 := fun (V : World) (h : Below X.heap.size X V) => (h.block _ (lt_of_block g1)).trans g1
  have HC : Hid (∀ V, Below X.heap.size X V → (V.cell? ⟨w.heap.size, 0, none⟩ = some (.int .i64 h.wax) ∧ V.cell? ⟨w.heap.size, 1, none⟩ = some (.slice aw h.writers.length kw) ∧ V.cell? ⟨w.heap.size, 2, none⟩ = some (.slice ac h.customers.length kc) ∧ w.heap.size < V.heap.size)) := Lib.hid (fun V h => ⟨blk_cell 0 (g1 V h) rfl, blk_cell 1 (g1 V h) rfl, blk_cell 2 (g1 V h) rfl, lt_of_block (g1 V h)⟩)
  have M := Lib.hid (fun (V : World) (h : Below X.heap.size X V) => (hm.mono hwX).mono h)
  clear g1
  have hQ := Below.refl X.heap.size X
  have hx := HC.out _ hQ
  obtain ⟨⟨l1, e1⟩, h1⟩ : ∃ x, deEnough h = x := ⟨_, rfl⟩
  obtain ⟨⟨l2, e2⟩, h2⟩ : ∃ x, deAway h = x := ⟨_, rfl⟩
  obtain ⟨⟨m3, e3⟩, h3⟩ : ∃ x, deLater h cu = x := ⟨_, rfl⟩
  replace h1 := Lib.hid h1
  replace h2 := Lib.hid h2
  replace h3 := Lib.hid h3
  go_enter Try.func6, Try.ntmps6
  go_upto_region 1 with (fail)
  rw [← hX]
  clear hX
  go_wp2_with (first
    | (go_at_call 23; (with_reducible refine (DAwake_any _).mono ?_); rintro e w10 ⟨rfl, hb⟩; replace hQ := q_on hQ hb; replace hx := HC.out _ hQ; dsimp only)
    | (go_at_call 35; (with_reducible refine (DB_Later _ _ _ _ h cu m3 e3 h3.out _ (M.out _ hQ)).mono ?_); rintro e w9 ⟨rfl, hb⟩; replace hQ := q_on hQ hb; replace hx := HC.out _ hQ; dsimp only)
    | (go_at_call 34; (with_reducible refine (DA_Later _ _ _ _ h cu m3 e3 h3.out _ (M.out _ hQ)).mono ?_); rintro e w8 ⟨rfl, hb⟩; replace hQ := q_on hQ hb; replace hx := HC.out _ hQ; dsimp only)
    | (go_at_call 31; (with_reducible refine (DInts_same o3 i3 i4).mono ?_); rintro e w7 ⟨rfl, hb⟩; replace hQ := q_on hQ hb; replace hx := HC.out _ hQ; dsimp only)
    | (go_at_call 33; (with_reducible refine (DB_Away _ _ _ _ h l2 e2 h2.out _ (M.out _ hQ)).mono ?_); rintro e w6 ⟨b4, c4, rfl, o4, i4, hb⟩; replace i3 := i3.mono hb; replace hQ := q_on hQ hb; replace hx := HC.out _ hQ; dsimp only)
    | (go_at_call 32; (with_reducible refine (DA_Away _ _ _ _ h l2 e2 h2.out _ (M.out _ hQ)).mono ?_); rintro e w5 ⟨b3, c3, rfl, o3, i3, hb⟩; replace hQ := q_on hQ hb; replace hx := HC.out _ hQ; dsimp only)
    | (go_at_call 31; (with_reducible refine (DInts_same o1 i1 i2).mono ?_); rintro e w4 ⟨rfl, hb⟩; replace hQ := q_on hQ hb; replace hx := HC.out _ hQ; dsimp only)
    | (go_at_call 30; (with_reducible refine (DB_Enough _ _ _ _ h l1 e1 h1.out _ (M.out _ hQ)).mono ?_); rintro e w3 ⟨b2, c2, rfl, o2, i2, hb⟩; replace i1 := i1.mono hb; replace hQ := q_on hQ hb; replace hx := HC.out _ hQ; dsimp only)
    | (go_at_call 29; (with_reducible refine (DA_Enough _ _ _ _ h l1 e1 h1.out _ (M.out _ hQ)).mono ?_); rintro e w2 ⟨b1, c1, rfl, o1, i1, hb⟩; replace hQ := q_on hQ hb; replace hx := HC.out _ hQ; dsimp only))
  go_ret
  exact ⟨rfl, hwX.trans (hQ.mono hwX.size)⟩
set_option maxRecDepth 100000 in
set_option maxHeartbeats 16000000 in
theorem DeskKnown_walk (w : World) : Calls Try.prog 7 #[] w fun e w' => e = .returned (.bool true) ∧ Below w.heap.size w w' := by
  have R1 : ∀ W : World, Calls Try.prog 36 #[.int .i64 20] W fun e w' => ∃ aw ac, e = .returned (.agg #[.int .i64 (exH 20).wax, .slice aw (exH 20).writers.length 2, .slice ac (exH 20).customers.length 3]) ∧ HallC w' aw ac 2 3 (exH 20) ∧ Below W.heap.size W w' := fun W => DHallL_any 20 W
  have R2 : ∀ W : World, Calls Try.prog 36 #[.int .i64 17] W fun e w' => ∃ aw ac, e = .returned (.agg #[.int .i64 (exH 17).wax, .slice aw (exH 17).writers.length 2, .slice ac (exH 17).customers.length 3]) ∧ HallC w' aw ac 2 3 (exH 17) ∧ Below W.heap.size W w' := fun W => DHallL_any 17 W
  have F1 := ex_zero
  have F2 := ex_three2
  have F3 := ex_nobody
  generalize exH 20 = r1 at R1 F1 F3
  generalize exH 17 = r2 at R2 F2
  replace R1 := Lib.hid R1
  replace R2 := Lib.hid R2
  replace F1 := Lib.hid F1
  replace F2 := Lib.hid F2
  replace F3 := Lib.hid F3
  go_enter Try.func7, Try.ntmps7
  go_upto_region 2 with (first
    | (go_at_call 36; (with_reducible refine (R2.out _).mono ?_); rintro e w3 ⟨aw2, ac2, rfl, hR2, hb3⟩; dsimp only)
    | (go_at_call 36; (with_reducible refine (R1.out _).mono ?_); rintro e w2 ⟨aw1, ac1, rfl, hR1, hb2⟩; dsimp only))
  obtain ⟨X, hX⟩ : ∃ X : World, X = ((w3.alloc (.cells #[.int .i64 r1.wax, .slice aw1 r1.writers.length 2, .slice ac1 r1.customers.length 3] 25)).alloc (.cells #[.int .i64 r2.wax, .slice aw2 r2.writers.length 2, .slice ac2 r2.customers.length 3] 25)) := ⟨_, rfl⟩
  rw [← hX]
  have hw3 : Below w.heap.size w w3 := hb2.trans (hb3.mono hb2.size)
  have h3X : Below w3.heap.size w3 X := by rw [hX]; exact (by (repeat' (first | assumption | exact Below.refl _ _ | refine below_drew' ?_ | refine Below.setCell ?_ (by first | omega | (simp <;> omega)) _ | refine Below.alloc ?_ (by first | omega | (simp <;> omega)) _)))
  have hwX := hw3.trans (h3X.mono hw3.size)
  have g1 : X.heap[w3.heap.size]? = some (.cells #[.int .i64 r1.wax, .slice aw1 r1.writers.length 2, .slice ac1 r1.customers.length 3] 25 (0, 0)) := by rw [hX]; (repeat' (first | exact alloc_at _ _ (by simp) | refine (heap_alloc_old _ _ (by first | omega | (simp <;> omega))).trans ?_))
  have g2 : X.heap[w3.heap.size + 1]? = some (.cells #[.int .i64 r2.wax, .slice aw2 r2.writers.length 2, .slice ac2 r2.customers.length 3] 25 (0, 0)) := by rw [hX]; (repeat' (first | exact alloc_at _ _ (by simp) | refine (heap_alloc_old _ _ (by first | omega | (simp <;> omega))).trans ?_))
  clear hX
  replace g1 := fun (V : World) (h : Below X.heap.size X V) => (h.block _ (lt_of_block g1)).trans g1
  replace g2 := fun (V : World) (h : Below X.heap.size X V) => (h.block _ (lt_of_block g2)).trans g2
  have HC : Hid (∀ V, Below X.heap.size X V → (V.cell? ⟨w3.heap.size, 0, none⟩ = some (.int .i64 r1.wax) ∧ V.cell? ⟨w3.heap.size, 1, none⟩ = some (.slice aw1 r1.writers.length 2) ∧ V.cell? ⟨w3.heap.size, 2, none⟩ = some (.slice ac1 r1.customers.length 3) ∧ V.cell? ⟨w3.heap.size + 1, 0, none⟩ = some (.int .i64 r2.wax) ∧ V.cell? ⟨w3.heap.size + 1, 1, none⟩ = some (.slice aw2 r2.writers.length 2) ∧ V.cell? ⟨w3.heap.size + 1, 2, none⟩ = some (.slice ac2 r2.customers.length 3) ∧ w3.heap.size < V.heap.size ∧ w3.heap.size + 1 < V.heap.size)) := Lib.hid (fun V h => ⟨blk_cell 0 (g1 V h) rfl, blk_cell 1 (g1 V h) rfl, blk_cell 2 (g1 V h) rfl, blk_cell 0 (g2 V h) rfl, blk_cell 1 (g2 V h) rfl, blk_cell 2 (g2 V h) rfl, lt_of_block (g1 V h), lt_of_block (g2 V h)⟩)
  have M1 := Lib.hid (fun (V : World) (h : Below X.heap.size X V) => ((hR1.mono hb3).mono h3X).mono h)
  have M2 := Lib.hid (fun (V : World) (h : Below X.heap.size X V) => (hR2.mono h3X).mono h)
  clear g1 g2 hR1 hR2 hb2 hb3 R1 R2
  have hQ := Below.refl X.heap.size X
  have hx := HC.out _ hQ
  go_wp2_with (first
    | (go_at_call 23; (with_reducible refine (DAwake_any _).mono ?_); rintro e w7 ⟨rfl, hb⟩; replace hQ := q_on hQ hb; replace hx := HC.out _ hQ; dsimp only)
    | (go_at_call 32; (with_reducible refine (DA_Away _ _ _ _ r1 [] 0 F3.out _ (M1.out _ hQ)).mono ?_); rintro e w6 ⟨b3, c3, rfl, -, -, hb⟩; replace hQ := q_on hQ hb; replace hx := HC.out _ hQ; dsimp only [List.length_nil])
    | (go_at_call 34; (with_reducible refine (DA_Later _ _ _ _ r2 0 3 0 F2.out _ (M2.out _ hQ)).mono ?_); rintro e w5 ⟨rfl, hb⟩; replace hQ := q_on hQ hb; replace hx := HC.out _ hQ; dsimp only)
    | (go_at_call 34; (with_reducible refine (DA_Later _ _ _ _ r1 0 0 0 F1.out _ (M1.out _ hQ)).mono ?_); rintro e w4 ⟨rfl, hb⟩; replace hQ := q_on hQ hb; replace hx := HC.out _ hQ; dsimp only))
  go_ret
  exact ⟨rfl, hwX.trans (hQ.mono hwX.size)⟩
end Go.Proofs.Ytchnpekgmkhacaa
