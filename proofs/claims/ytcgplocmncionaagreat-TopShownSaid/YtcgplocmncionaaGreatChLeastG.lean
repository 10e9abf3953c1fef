/- What is proved here: how views and copies of layer 10 compare. Condition: small numbers. -/
/- What is proved here: the contracts of Why and Least of layer 10, at a chest in which nothing is wrong and numbers that are in order. Conditions: they lie in memory. -/
/- What is proved here: the contract of Least of layer 10, at a chest in which nothing is wrong and a person who sees something. Conditions: they lie in memory. -/
import Derived.Test.YtcgplocmncionaaGreatChRoom
import Derived.DeepKeys
import Derived.Test.YtcgplocmncionaaGreatChLockG
import Derived.BigQuiet
set_option linter.unusedVariables false
set_option linter.unusedSimpArgs false
namespace Go.Proofs.YtcgplocmncionaaGreat
open Go Go.RowKit

theorem okI_ch {x : Int} (h : 0 ≤ x ∧ x < 64000) : (Lit.int .i64 x).wf = true := by
  unfold Lit.wf
  have e1 : IntKind.min .i64 = -9223372036854775808 := by decide
  have e2 : IntKind.max .i64 = 9223372036854775807 := by decide
  simp only [e1, e2, Bool.and_eq_true, decide_eq_true_eq]
  omega
theorem int_lits (m : Nat) {x : Int} (hx : 0 ≤ x ∧ x < 64000) : Tryz.prog.keyLits (m + 1) 3 [.int .i64 x] = some [.int .i64 x] := by
  have h4 : Tryz.prog.underlying 3 = some (.int .i64) := by kernel_rfl
  unfold Program.keyLits
  simp only [h4, okI_ch hx, and_self, if_true]
set_option maxHeartbeats 1000000 in
theorem views_lits {a b c : Int} (ha : 0 ≤ a ∧ a < 64000) (hb : 0 ≤ b ∧ b < 64000) (hc : 0 ≤ c ∧ c < 64000) : Tryz.prog.keyLits 2 97 (Value.agg #[.int .i64 a, .int .i64 b, .int .i64 c]).cells.toList = some [.int .i64 a, .int .i64 b, .int .i64 c] := by
  have h5 : Tryz.prog.cellsOf 3 = 1 := by kernel_rfl
  have h8 : Tryz.prog.cellsOf 97 = 3 := by kernel_rfl
  have h9 : Tryz.prog.underlying 97 = some (.array 3 3) := by kernel_rfl
  show Tryz.prog.keyLits (0 + 1 + 1) 97 [.int .i64 a, .int .i64 b, .int .i64 c] = _
  unfold Program.keyLits
  rw [h9]
  simp only [h8, h5, List.length_cons, List.length_nil, Nat.zero_add, Nat.reduceAdd, if_true]
  rw [show List.range 3 = [0, 1, 2] from rfl]
  simp only [List.mapM_cons, List.mapM_nil, Nat.zero_mul, Nat.one_mul, Nat.reduceMul, List.drop_zero, List.drop_succ_cons, List.take_succ_cons, List.take_zero, int_lits 0 ha, int_lits 0 hb, int_lits 0 hc]
  rfl
theorem views_eq {a b c a' b' c' : Int} (ha : 0 ≤ a ∧ a < 64000) (hb : 0 ≤ b ∧ b < 64000) (hc : 0 ≤ c ∧ c < 64000) (ha' : 0 ≤ a' ∧ a' < 64000) (hb' : 0 ≤ b' ∧ b' < 64000) (hc' : 0 ≤ c' ∧ c' < 64000) (w : World) :
    (Op.equalIn 10000 97 (.agg #[.int .i64 a, .int .i64 b, .int .i64 c]) (.agg #[.int .i64 a', .int .i64 b', .int .i64 c'])).run Tryz.prog w = .ok (decide (a = a' ∧ b = b' ∧ c = c')) w := by
  obtain ⟨r, hr, hi⟩ := run_equalIn_deep (P := Tryz.prog) 9998 2 97 (by kernel_rfl) w 2 2 (.agg #[.int .i64 a, .int .i64 b, .int .i64 c]) (.agg #[.int .i64 a', .int .i64 b', .int .i64 c']) _ _ (by kernel_rfl) (by kernel_rfl) (views_lits ha hb hc) (views_lits ha' hb' hc')
  have e : r = decide (a = a' ∧ b = b' ∧ c = c') := by
    rw [Bool.eq_iff_iff, hi]
    simp only [List.cons.injEq, Lit.int.injEq, true_and, and_true, decide_eq_true_eq]
  rw [e] at hr
  exact hr
set_option maxRecDepth 100000 in
set_option maxHeartbeats 1000000 in
theorem copy_lits {a b c d : Int} (ha : 0 ≤ a ∧ a < 64000) (hb : 0 ≤ b ∧ b < 64000) (hc : 0 ≤ c ∧ c < 64000) (hd : 0 ≤ d ∧ d < 64000) : Tryz.prog.keyLits 2 45 (Value.agg #[.int .i64 a, .int .i64 b, .int .i64 c, .int .i64 d]).cells.toList = some [.int .i64 a, .int .i64 b, .int .i64 c, .int .i64 d] := by
  have h1 : (match Tryz.prog.underlying 45 with | some (.struct fs) => (fs.toList.map fun f => (f.type, f.offset)) == [(3, 0), (3, 1), (3, 2), (3, 3)] && fs.all (fun f => f.name != "_") | _ => false) = true := by kernel_rfl
  have h5 : Tryz.prog.cellsOf 3 = 1 := by kernel_rfl
  have h6 : Tryz.prog.cellsOf 45 = 4 := by kernel_rfl
  cases hu : Tryz.prog.underlying 45 with
  | none => rw [hu] at h1; cases h1
  | some kd =>
    rw [hu] at h1
    cases kd with
    | struct fs =>
      simp only [Bool.and_eq_true, beq_iff_eq] at h1
      obtain ⟨g1, g2⟩ := h1
      show Tryz.prog.keyLits (1 + 1) 45 [.int .i64 a, .int .i64 b, .int .i64 c, .int .i64 d] = _
      unfold Program.keyLits
      rw [hu]
      obtain ⟨L⟩ := fs
      simp only at g1 g2 ⊢
      match L, g1 with
      | [f0, f1, f2, f3], g1 =>
        simp only [List.map_cons, List.map_nil, List.cons.injEq, Prod.mk.injEq, and_true] at g1
        obtain ⟨⟨t0, o0⟩, ⟨t1, o1⟩, ⟨t2, o2⟩, t3, o3⟩ := g1
        simp only [h6, List.length_cons, List.length_nil, Nat.zero_add, Nat.reduceAdd, g2, and_self, if_true, List.mapM_cons, List.mapM_nil, t0, o0, t1, o1, t2, o2, t3, o3, h5, List.drop_zero, List.drop_succ_cons, List.take_succ_cons, List.take_zero, int_lits 0 ha, int_lits 0 hb, int_lits 0 hc, int_lits 0 hd]
        rfl
    | _ => simp at h1
theorem copy_eq {a b c d a' b' c' d' : Int} (ha : 0 ≤ a ∧ a < 64000) (hb : 0 ≤ b ∧ b < 64000) (hc : 0 ≤ c ∧ c < 64000) (hd : 0 ≤ d ∧ d < 64000) (ha' : 0 ≤ a' ∧ a' < 64000) (hb' : 0 ≤ b' ∧ b' < 64000) (hc' : 0 ≤ c' ∧ c' < 64000) (hd' : 0 ≤ d' ∧ d' < 64000) (w : World) :
    (Op.equalIn 10000 45 (.agg #[.int .i64 a, .int .i64 b, .int .i64 c, .int .i64 d]) (.agg #[.int .i64 a', .int .i64 b', .int .i64 c', .int .i64 d'])).run Tryz.prog w = .ok (decide (a = a' ∧ b = b' ∧ c = c' ∧ d = d')) w := by
  obtain ⟨r, hr, hi⟩ := run_equalIn_deep (P := Tryz.prog) 9998 2 45 (by kernel_rfl) w 2 2 (.agg #[.int .i64 a, .int .i64 b, .int .i64 c, .int .i64 d]) (.agg #[.int .i64 a', .int .i64 b', .int .i64 c', .int .i64 d']) _ _ (by kernel_rfl) (by kernel_rfl) (copy_lits ha hb hc hd) (copy_lits ha' hb' hc' hd')
  have e : r = decide (a = a' ∧ b = b' ∧ c = c' ∧ d = d') := by
    rw [Bool.eq_iff_iff, hi]
    simp only [List.cons.injEq, Lit.int.injEq, true_and, and_true, decide_eq_true_eq]
  rw [e] at hr
  exact hr
end Go.Proofs.YtcgplocmncionaaGreat
namespace Go.Proofs.YtcgplocmncionaaGreat
open Go Go.RowKit Go.Shelf

set_option maxRecDepth 100000 in
set_option maxHeartbeats 2000000 in
theorem CWhy_any (ap ac ar : Option Addr) (kp kc kr : Nat) (c : ChH) (ad : Option Addr) (L : List Nat) (cp fact : Nat) (w : World) (hm : ChestC w ap ac ar kp kc kr c) (hv : ChValid c) (hs : SlOk ad L.length cp) (hi : IntsC w ad (L.map fun (x : Nat) => (x : Int))) (hr : Rises (L.map fun (x : Nat) => (x : Int)) c.copies.length) (hf : (fact : Int) < c.facts) :
    Calls Tryz.prog 30 #[(.agg #[.int .i64 c.words, .int .i64 c.facts, .slice ap c.people.length kp, .int .i64 c.last, .slice ac c.copies.length kc, .slice ar c.rules.length kr]), .slice ad L.length cp, .int .i64 (fact : Int)] w fun e w' => ∃ v, e = .returned (.tuple #[v, .int .i64 (if (whyN c L fact).isSome then 0 else 9)]) ∧ FirstV w w' v (whyN c L fact) ∧ Below w.heap.size w w' := by
  have l2 := hm.okc.len
  have nc6 := hv.nc
  have hf6 := hv.facts
  have HLK : Hid (whyN c L fact = firstN L fun set => (tellN c set).testBit fact) := Lib.hid rfl
  generalize whyN c L fact = res at HLK ⊢
  have hlen : (L.map fun (x : Nat) => (x : Int)).length = L.length := List.length_map _
  have h6 : ∀ x ∈ L, x < c.copies.length := fun x hx => by
    obtain ⟨j, hj, rfl⟩ := List.getElem_of_mem hx
    have := (hr.1 j (by rw [hlen]; exact hj)).2
    rw [List.getElem_map] at this
    omega
  have hnd : L.Nodup := by
    have hlt : ∀ i j (hi : i < L.length) (hj : j < L.length), i < j → L[i] < L[j] := fun i j hi hj h => by
      induction j with
      | zero => omega
      | succ j ih =>
        have h1 := hr.2 j (by rw [hlen]; exact hj)
        rw [List.getElem_map, List.getElem_map] at h1
        by_cases e : i = j
        · subst e; omega
        · have := ih (by omega) (by omega); omega
    rw [List.Nodup, List.pairwise_iff_getElem]
    intro i j hi hj h e
    have := hlt i j hi hj h
    omega
  have hL6 : L.length ≤ 6 := Nat.le_trans (nodup_lt _ L hnd h6) nc6
  have HB := Lib.hid (fun (W : World) (h : Below w.heap.size w W) => CBits_any ad (L.map fun (x : Nat) => (x : Int)) cp c.copies.length nc6 W (by rw [hlen]; exact hs) (hi.mono h) hr)
  have hQ := Below.refl (w.heap.size + 1) (w.alloc (.cells #[.int .i64 c.words, .int .i64 c.facts, .slice ap c.people.length kp, .int .i64 c.last, .slice ac c.copies.length kc, .slice ar c.rules.length kr] 41))
  have hQ1 := hQ.alloc (by simp) (.cells #[.int .i64 (fact : Int)] 3)
  have hQ3 := hQ1.alloc (by simp) (.cells #[.int .i64 (fact : Int), .int .i64 c.facts] 3)
  have hI3 : IntsC (((w.alloc (.cells #[.int .i64 c.words, .int .i64 c.facts, .slice ap c.people.length kp, .int .i64 c.last, .slice ac c.copies.length kc, .slice ar c.rules.length kr] 41)).alloc (.cells #[.int .i64 (fact : Int)] 3)).alloc (.cells #[.int .i64 (fact : Int), .int .i64 c.facts] 3)) (some ⟨w.heap.size + 1 + 1, 0, none⟩) [(fact : Int), c.facts] := by
    have := two_intsC ((w.alloc (.cells #[.int .i64 c.words, .int .i64 c.facts, .slice ap c.people.length kp, .int .i64 c.last, .slice ac c.copies.length kc, .slice ar c.rules.length kr] 41)).alloc (.cells #[.int .i64 (fact : Int)] 3)) fact c.facts 3
    rwa [show ((w.alloc (.cells #[.int .i64 c.words, .int .i64 c.facts, .slice ap c.people.length kp, .int .i64 c.last, .slice ac c.copies.length kc, .slice ar c.rules.length kr] 41)).alloc (.cells #[.int .i64 (fact : Int)] 3)).heap.size = w.heap.size + 1 + 1 by simp] at this
  have EN := Lib.hid (CEnter_any ap ac ar kp kc kr c (some ⟨w.heap.size + 1 + 1, 0, none⟩) [(fact : Int), c.facts] 2 _ (hm.mono (box_old hQ3)) hv ⟨by simp, by omega, by simp⟩ hI3 (by simp) (by simp) (fun j h hj => by
    have e : j = 0 := by simp at h; omega
    subst e
    simp only [List.getElem_cons_succ, List.getElem_cons_zero]; omega))
  have hF0 : ((w.alloc (.cells #[.int .i64 c.words, .int .i64 c.facts, .slice ap c.people.length kp, .int .i64 c.last, .slice ac c.copies.length kc, .slice ar c.rules.length kr] 41)).alloc (.cells #[.int .i64 (fact : Int)] 3)).heap[w.heap.size + 1]? = some (.cells #[.int .i64 (fact : Int)] 3 (0, 0)) := alloc_at _ _ (by simp)
  have hF3 := (heap_alloc_old ((w.alloc (.cells #[.int .i64 c.words, .int .i64 c.facts, .slice ap c.people.length kp, .int .i64 c.last, .slice ac c.copies.length kc, .slice ar c.rules.length kr] 41)).alloc (.cells #[.int .i64 (fact : Int)] 3)) (.cells #[.int .i64 (fact : Int), .int .i64 c.facts] 3) (by simp)).trans hF0
  clear hI3 hF0
  rw [hlen] at HB
  have HH6 := Lib.hid h6
  have HI := Lib.hid hi
  have HS := Lib.hid hs
  clear hlen h6 hnd hr hi
  obtain ⟨x0, x1, x2, x3, x4, x5, xz⟩ := box_chest hQ
  go_enter Tryz.func30, Tryz.ntmps30
  go_upto_region 2 with (go_at_call 40; go_must (refine EN.out.mono ?_; rintro e w2 ⟨bm, bo, rfl, hR, hb2, hbo⟩; dsimp only))
  obtain ⟨Y, hY⟩ : ∃ Y : World, Y = w2.alloc (.cells #[.pointer (some ⟨bm, 0, none⟩)] 89) := ⟨_, rfl⟩
  rw [← hY]
  have hb2' := hQ3.trans (hb2.mono (by simp))
  have hbY1 : Below (w.heap.size + 1) (w.alloc (.cells #[.int .i64 c.words, .int .i64 c.facts, .slice ap c.people.length kp, .int .i64 c.last, .slice ac c.copies.length kc, .slice ar c.rules.length kr] 41)) Y := by rw [hY]; exact hb2'.alloc (by have := (box_old hb2').size; have := box_size hb2'; omega) _
  have hbY := box_old hbY1
  have hRY : ChestW Y bm bo ap ac ar kp kc kr c := by rw [hY]; exact hR.below ((Below.refl _ _).alloc (Nat.le_refl _) _)
  have hPY : Y.heap[w2.heap.size]? = some (.cells #[.pointer (some ⟨bm, 0, none⟩)] 89 (0, 0)) := by rw [hY]; exact alloc_at _ _ rfl
  have hF2 : w2.heap[w.heap.size + 1]? = some (.cells #[.int .i64 (fact : Int)] 3 (0, 0)) := (hb2.block _ (by simp)).trans hF3
  have hFY : Y.heap[w.heap.size + 1]? = some (.cells #[.int .i64 (fact : Int)] 3 (0, 0)) := by rw [hY]; exact (heap_alloc_old _ _ (lt_of_block hF2)).trans hF2
  have hboz : w.heap.size ≤ bo := by simp only [World.size_alloc] at hbo; omega
  clear hY x0 x1 x2 x3 x4 x5 xz hQ hQ1 hQ3 hb2 hb2' hF2 hF3 hR hbo
  obtain ⟨x0, x1, x2, x3, x4, x5, xz⟩ := box_chest hbY1
  go_upto_region 4 with (go_at_call 41; go_must (refine (HB.out _ hbY).mono ?_; rintro e Z ⟨rfl, hbYZ⟩; dsimp only))
  have hbZ := hbY.trans (hbYZ.mono hbY.size)
  have hRZ := hRY.below hbYZ
  have hPZ := (hbYZ.block _ (lt_of_block hPY)).trans hPY
  have hFZ := (hbYZ.block _ (lt_of_block hFY)).trans hFY
  clear hbYZ hbY hRY hPY hFY x0 x1 x2 x3 x4 x5 xz hbY1
  have FI : Hid (Calls Tryz.prog 45 #[.slice ad L.length cp, .agg #[.func (.func 62) #[] #[.pointer (some ⟨w2.heap.size, 0, none⟩), .pointer (some ⟨w.heap.size + 1, 0, none⟩)]]] Z fun e w' => ∃ v, e = .returned (.tuple #[v, .bool res.isSome]) ∧ FirstV Z w' v res ∧ Z.grownBy w' (some bo) ∧ ChestW w' bm bo ap ac ar kp kc kr c) := Lib.hid (by
    rw [HLK.out]
    have c1 := blk_cell 0 hPZ rfl
    have c3 := blk_cell 0 hFZ rfl
    simp only [List.getElem_toArray, List.getElem_cons_zero] at c1 c3
    exact CFirst_any ap ac ar kp kc kr c bm bo 62 #[.pointer (some ⟨w2.heap.size, 0, none⟩), .pointer (some ⟨w.heap.size + 1, 0, none⟩)] _ ad cp L Z hRZ hL6 (fun x hx => Nat.lt_of_lt_of_le (HH6.out x hx) nc6) HS.out (HI.out.mono hbZ) (enters_of Tryz.func62 (by kernel_rfl) rfl)
      (fun s V hs6 hg hR => by
        have hk := hRZ.keeps hg
        exact CWhy1_any ap ac ar kp kc kr c bm bo s fact _ _ V hR hv hs6 (by omega) (hk.2 _ _ c1) (hk.2 _ _ c3)))
  have pz := lt_of_block hPZ
  have fz := lt_of_block hFZ
  clear HLK HB HH6 HI HS
  cases res
  · go_wp2_with (go_at_call 45; go_must (refine FI.out.mono ?_; rintro e w4 ⟨v4, rfl, hf4, hg4, hR4⟩; dsimp only [Option.isSome]))
    go_ret2
    exact ⟨_, rfl, rfl, hbZ.grown hg4 hbZ.size (fun k e => by have := Option.some.inj e; omega)⟩
  · go_wp2_with (go_at_call 45; go_must (refine FI.out.mono ?_; rintro e w4 ⟨v4, rfl, hf4, hg4, hR4⟩; dsimp only [Option.isSome]))
    go_ret2
    have hfw : FirstV w w4 v4 (some _) := hf4.weak hbZ.size
    exact ⟨v4, rfl, hfw, hbZ.grown hg4 hbZ.size (fun k e => by have := Option.some.inj e; omega)⟩
end Go.Proofs.YtcgplocmncionaaGreat
namespace Go.Proofs.YtcgplocmncionaaGreat
open Go Go.RowKit Go.Shelf

set_option maxRecDepth 100000 in
set_option maxHeartbeats 2000000 in
theorem CLeast_any (ap ac ar : Option Addr) (kp kc kr : Nat) (c : ChH) (p : Nat) (w : World) (hm : ChestC w ap ac ar kp kc kr c) (hv : ChValid c) (hp : p < c.people.length) (hn0 : viewN c p ≠ 0) :
    Calls Tryz.prog 31 #[(.agg #[.int .i64 c.words, .int .i64 c.facts, .slice ap c.people.length kp, .int .i64 c.last, .slice ac c.copies.length kc, .slice ar c.rules.length kr]), .int .i64 (p : Int)] w fun e w' => ∃ v, e = .returned (.tuple #[v, .int .i64 0]) ∧ FirstV w w' v (leastN c p) ∧ Below w.heap.size w w' := by
  have l1 := hm.okp.len
  have np3 := hv.np
  have HLK : Hid (leastN c p = firstN (numbersN (viewN c p)) fun set => tellN c set == tellN c (viewN c p)) := Lib.hid rfl
  generalize leastN c p = res at HLK ⊢
  have hQ := Below.refl (w.heap.size + 1) (w.alloc (.cells #[.int .i64 c.words, .int .i64 c.facts, .slice ap c.people.length kp, .int .i64 c.last, .slice ac c.copies.length kc, .slice ar c.rules.length kr] 41))
  have hQ3 := hQ.alloc (by simp) (.cells #[.int .i64 (p : Int), .int .i64 c.people.length] 3)
  have hI3 : IntsC ((w.alloc (.cells #[.int .i64 c.words, .int .i64 c.facts, .slice ap c.people.length kp, .int .i64 c.last, .slice ac c.copies.length kc, .slice ar c.rules.length kr] 41)).alloc (.cells #[.int .i64 (p : Int), .int .i64 c.people.length] 3)) (some ⟨w.heap.size + 1, 0, none⟩) [(p : Int), c.people.length] := by
    have := two_intsC (w.alloc (.cells #[.int .i64 c.words, .int .i64 c.facts, .slice ap c.people.length kp, .int .i64 c.last, .slice ac c.copies.length kc, .slice ar c.rules.length kr] 41)) p c.people.length 3
    rwa [show (w.alloc (.cells #[.int .i64 c.words, .int .i64 c.facts, .slice ap c.people.length kp, .int .i64 c.last, .slice ac c.copies.length kc, .slice ar c.rules.length kr] 41)).heap.size = w.heap.size + 1 by simp] at this
  have EN := Lib.hid (CEnter_any ap ac ar kp kc kr c (some ⟨w.heap.size + 1, 0, none⟩) [(p : Int), c.people.length] 2 _ (hm.mono (box_old hQ3)) hv ⟨by simp, by omega, by simp⟩ hI3 (by simp) (by simp) (fun j h hj => by
    have e : j = 0 := by simp at h; omega
    subst e
    simp only [List.getElem_cons_succ, List.getElem_cons_zero]; omega))
  clear hI3
  obtain ⟨x0, x1, x2, x3, x4, x5, xz⟩ := box_chest hQ
  go_enter Tryz.func31, Tryz.ntmps31
  go_upto_region 4 with (go_at_call 40; go_must (refine EN.out.mono ?_; rintro e w2 ⟨bm, bo, rfl, hR, hb2, hbo⟩; dsimp only))
  obtain ⟨Y, hY⟩ : ∃ Y : World, Y = w2.alloc (.cells #[.pointer (some ⟨bm, 0, none⟩)] 89) := ⟨_, rfl⟩
  rw [← hY]
  have hb2' := hQ3.trans (hb2.mono (by simp))
  have hbY : Below w.heap.size w Y := by rw [hY]; exact (box_old hb2').alloc (box_old hb2').size _
  have hRY : ChestW Y bm bo ap ac ar kp kc kr c := by rw [hY]; exact hR.below ((Below.refl _ _).alloc (Nat.le_refl _) _)
  have hPY : Y.heap[w2.heap.size]? = some (.cells #[.pointer (some ⟨bm, 0, none⟩)] 89 (0, 0)) := by rw [hY]; exact alloc_at _ _ rfl
  have hboz : w.heap.size ≤ bo := by simp only [World.size_alloc] at hbo; omega
  clear hY x0 x1 x2 x3 x4 x5 xz hQ hQ3 hb2 hb2' hR hbo
  have hvl := vw_lt hv p
  have yv := hRY.blk.view (p := p) (by omega)
  rw [vw_is hp] at yv hvl
  obtain ⟨all, hall⟩ : ∃ all, all = viewN c p := ⟨_, rfl⟩
  rw [← hall] at yv hvl HLK hn0
  clear hall
  have yz := hRY.bm_lt
  have q0 := blk_cell 0 hPY rfl
  have qz := lt_of_block hPY
  simp only [List.getElem_toArray, List.getElem_cons_zero] at q0
  have hp3 : (p : Int) < 3 := by omega
  go_upto_region 5 with (fail)
  obtain ⟨Z, hZ⟩ : ∃ Z : World, Z = Y.alloc (.cells #[.int .i64 (all : Int)] 3) := ⟨_, rfl⟩
  rw [← hZ]
  have hbYZ : Below Y.heap.size Y Z := by rw [hZ]; exact (Below.refl _ _).alloc (Nat.le_refl _) _
  have hAZ : Z.heap[Y.heap.size]? = some (.cells #[.int .i64 (all : Int)] 3 (0, 0)) := by rw [hZ]; exact alloc_at _ _ rfl
  have hbZ := hbY.trans (hbYZ.mono hbY.size)
  have hRZ := hRY.below hbYZ
  have hPZ := (hbYZ.block _ (lt_of_block hPY)).trans hPY
  clear hZ hbYZ hbY hRY hPY yv yz q0 qz
  have a0 := blk_cell 0 hAZ rfl
  have az := lt_of_block hAZ
  simp only [List.getElem_toArray, List.getElem_cons_zero] at a0
  go_upto_region 6 with (fail)
  obtain ⟨S, hS⟩ : ∃ S : World, S = Z.alloc (.cells #[.int .i64 (all : Int), .int .i64 (all : Int), .int .i64 (all : Int)] 97) := ⟨_, rfl⟩
  rw [← hS]
  have hbZS : Below Z.heap.size Z S := by rw [hS]; exact (Below.refl _ _).alloc (Nat.le_refl _) _
  have hSS : S.heap[Z.heap.size]? = some (.cells #[.int .i64 (all : Int), .int .i64 (all : Int), .int .i64 (all : Int)] 97 (0, 0)) := by rw [hS]; exact alloc_at _ _ rfl
  have hbS := hbZ.trans (hbZS.mono hbZ.size)
  have hRS := hRZ.below hbZS
  have hPS := (hbZS.block _ (lt_of_block hPZ)).trans hPZ
  have hAS := (hbZS.block _ (lt_of_block hAZ)).trans hAZ
  clear hS hbZS hbZ hRZ hPZ hAZ a0 az
  have a0 := blk_cell 0 hAS rfl
  have az := lt_of_block hAS
  have q0 := blk_cell 0 hPS rfl
  have qz := lt_of_block hPS
  have s0 := blk_cell 0 hSS rfl
  have s1 := blk_cell 1 hSS rfl
  have s2 := blk_cell 2 hSS rfl
  have sz := lt_of_block hSS
  simp only [List.getElem_toArray, List.getElem_cons_zero, List.getElem_cons_succ] at a0 q0 s0 s1 s2
  obtain ⟨y0, y1, y2, y3, y4, y5, y6, y7, y8, y9, yz⟩ := hRS.blk.cells
  have v0 := vw_lt hv 0
  have v1 := vw_lt hv 1
  have v2 := vw_lt hv 2
  have hal0 := eqi_f (show (all : Int) ≠ 0 by omega)
  have hve := views_eq (a := (all : Int)) (b := all) (c := all) (a' := (vw c 0 : Int)) (b' := (vw c 1 : Int)) (c' := (vw c 2 : Int)) (by omega) (by omega) (by omega) (by omega) (by omega) (by omega)
  generalize vw c 0 = u0 at y6 hve v0
  generalize vw c 1 = u1 at y7 hve v1
  generalize vw c 2 = u2 at y8 hve v2
  go_cut [44] from 35 to 43 (fun v U => v = .bool false ∧ Below S.heap.size S U)
  case first =>
    by_cases hq : (all : Int) = u0 ∧ (all : Int) = u1 ∧ (all : Int) = u2
    · have hve2 : ∀ W, _ := fun W => (hve W).trans (by rw [decide_eq_true hq])
      clear hve hq HLK EN
      go_quiet (fail)
      go_wp2
      go_meet
      case rel => exact ⟨rfl, below_draws _ _ _⟩
    · have hve2 : ∀ W, _ := fun W => (hve W).trans (by rw [decide_eq_false hq])
      clear hve hq HLK EN
      go_quiet (fail)
      go_wp2
      go_meet
      case rel => exact ⟨rfl, below_draws _ _ _⟩
  case rest =>
    obtain ⟨rfl, hbSV⟩ := hcut
    rename World => V
    have hbV := hbS.trans (hbSV.mono hbS.size)
    have hRV := hRS.below hbSV
    have hPV := (hbSV.block _ (lt_of_block hPS)).trans hPS
    have hAV := (hbSV.block _ (lt_of_block hAS)).trans hAS
    clear hbSV hbS hRS hPS hAS a0 az q0 qz s0 s1 s2 sz y0 y1 y2 y3 y4 y5 y6 y7 y8 y9 yz hve hSS
    have LI := Lib.hid (fun W : World => CList_any all hvl W)
    have hnum := numbersN_lt hvl
    have FI : Hid (∀ (W : World) (a : Option Addr) (cc : Nat), Below V.heap.size V W → SlOk a (numI all).length cc → IntsC W a (numI all) → Calls Tryz.prog 45 #[.slice a (numI all).length cc, .agg #[.func (.func 63) #[] #[.pointer (some ⟨w2.heap.size, 0, none⟩), .pointer (some ⟨Y.heap.size, 0, none⟩)]]] W fun e w' => ∃ v, e = .returned (.tuple #[v, .bool res.isSome]) ∧ FirstV W w' v res ∧ W.grownBy w' (some bo) ∧ ChestW w' bm bo ap ac ar kp kc kr c) := Lib.hid (fun W a cc hb hs hi => by
      have hRW := hRV.below hb
      have hlen : (numI all).length = (numbersN all).length := by rw [numI_is, List.length_map]
      rw [hlen] at hs ⊢
      rw [numI_is] at hi
      rw [HLK.out]
      have c1 := blk_cell 0 ((hb.block _ (lt_of_block hPV)).trans hPV) rfl
      have c2 := blk_cell 0 ((hb.block _ (lt_of_block hAV)).trans hAV) rfl
      simp only [List.getElem_toArray, List.getElem_cons_zero] at c1 c2
      exact CFirst_any ap ac ar kp kc kr c bm bo 63 #[.pointer (some ⟨w2.heap.size, 0, none⟩), .pointer (some ⟨Y.heap.size, 0, none⟩)] _ a cc (numbersN all) W hRW hnum.2 hnum.1 hs hi (enters_of Tryz.func63 (by kernel_rfl) rfl)
        (fun s V hs6 hg hR => by
          have hk := hRW.keeps hg
          exact CLeast1_any ap ac ar kp kc kr c bm bo s all _ _ V hR hv hs6 hvl (hk.2 _ _ c1) (hk.2 _ _ c2)))
    have a0 := blk_cell 0 hAV rfl
    have az := lt_of_block hAV
    have pz := lt_of_block hPV
    simp only [List.getElem_toArray, List.getElem_cons_zero] at a0
    clear HLK hnum hvl
    go_wp2_with (first
      | (go_at_call 45; go_must (refine (FI.out _ _ _ hb3 hs3 hi3).mono ?_; rintro e w4 ⟨v4, rfl, hf4, hg4, hR4⟩; dsimp only))
      | (go_at_call 42; go_must (refine (LI.out _).mono ?_; rintro e w3 ⟨v3, rfl, ⟨a3, c3, rfl, hs3, hi3, -⟩, hb3⟩; dsimp only)))
    go_ret2
    have hz3 := hb3.size
    have hzV := hbV.size
    have hfw : FirstV w w4 v4 res := hf4.weak (by omega)
    exact ⟨v4, rfl, hfw, (hbV.trans (hb3.mono hzV)).grown hg4 (by omega) (fun k e => by have := Option.some.inj e; omega)⟩
end Go.Proofs.YtcgplocmncionaaGreat
