/- What is proved here: contracts of the reference: Ends of layer 1; writer, customer of layer 9. No condition. -/
/- What is proved here: the contract of the reference's Check of layer 9. Condition: the hall lies in memory. -/
/- What is proved here: the contract of the reference's Can of layer 9. Condition: the hall lies in memory and is valid. -/
/- What is proved here: the contract of the reference's Plan of layer 9. Conditions: the hall and the plan lie in memory; the plan's numbers are not too many. -/
/- What is proved here: the contract of the reference's Sealed of layer 9. Conditions: the hall and the plan lie in memory; the hall is valid, the plan one of it. -/
/- What is proved here: contracts of the reference of layer 9: Ends, Does, Fate, Over. Conditions: the hall and the plan lie in memory; the plan is not long. -/
/- What is proved here: contracts of the reference of layer 9: Fate, Over. Conditions: the hall and the plan lie in memory; the plan is not long. -/
/- What is proved here: the contract of the reference's Late of layer 9. Conditions: the hall and the plan lie in memory; the plan is not long. -/
import Derived.Test.YtchnpekgmkhacaaDeCheck
import Derived.Test.YtchnpekgmkhacaaDeConcat
import Derived.Test.YtchnpekgmkhacaaDeEnds
import Derived.Test.YtchnpekgmkhacaaDeFate
set_option linter.unusedVariables false
set_option linter.unusedSimpArgs false
namespace Go.Proofs.Ytchnpekgmkhacaa
open Go Go.RowKit Go.Shelf
set_option maxHeartbeats 1000000 in
theorem REndsOf_any (lo hi a b : Int) (w : World) : Calls Try.prog 97 #[.agg #[.int .i64 lo, .int .i64 hi], .int .i64 a, .int .i64 b] w fun e w' => e = .returned (.int .i64 (endsE lo hi a b)) ∧ Below w.heap.size w w' := by
  have HE : Hid (endsE lo hi a b = if inB lo a b && inB hi a b then (if hi < lo then 2 else 0) else 7) := rfl
  generalize endsE lo hi a b = r at HE ⊢
  have C1 := fun W => In_any lo a b W
  have C2 := fun W => In_any hi a b W
  generalize inB lo a b = b1 at C1 HE
  generalize inB hi a b = b2 at C2 HE
  have C1 := Lib.hid C1
  have C2 := Lib.hid C2
  go_enter Try.func97, Try.ntmps97
  cases b1
  · go_wp2_with (go_at_call 41; go_must ((with_reducible refine (C1.out _).mono ?_); rintro e w' ⟨rfl, rfl⟩; dsimp only))
    go_ret
    exact ⟨ret_int (by rw [HE.out]; simp), by go_grown⟩
  · cases b2
    · go_wp2_with (go_at_call 41; (first | ((with_reducible refine (C1.out _).mono ?_); rintro e w' ⟨rfl, rfl⟩; dsimp only) | ((with_reducible refine (C2.out _).mono ?_); rintro e w' ⟨rfl, rfl⟩; dsimp only)))
      go_ret
      exact ⟨ret_int (by rw [HE.out]; simp), by go_grown⟩
    · by_cases hlt : hi < lo
      all_goals
        go_wp2_with (go_at_call 41; (first | ((with_reducible refine (C1.out _).mono ?_); rintro e w' ⟨rfl, rfl⟩; dsimp only) | ((with_reducible refine (C2.out _).mono ?_); rintro e w' ⟨rfl, rfl⟩; dsimp only)))
        go_ret
        exact ⟨ret_int (by rw [HE.out]; simp [hlt]), by go_grown⟩
set_option maxHeartbeats 1000000 in
theorem RWriterE_any (x : DeW) (w : World) : Calls Try.prog 67 #[.agg #[.string x.name, .int .i64 x.kinds, .int .i64 x.lo, .int .i64 x.hi]] w fun e w' => e = .returned (.int .i64 (deWErrOf x)) ∧ Below w.heap.size w w' := by
  have HE : Hid (deWErrOf x = if inB x.kinds 0 15 then endsE x.lo x.hi 0 240 else 7) := rfl
  generalize deWErrOf x = r at HE ⊢
  have C1 := fun W => In_any x.kinds 0 15 W
  have C2 := fun W => REndsOf_any x.lo x.hi 0 240 W
  generalize inB x.kinds 0 15 = b1 at C1 HE
  generalize endsE x.lo x.hi 0 240 = e2 at C2 HE
  have C1 := Lib.hid C1
  have C2 := Lib.hid C2
  have hQ0 := Below.refl (w.heap.size + 1) (w.alloc (.cells #[.string x.name, .int .i64 x.kinds, .int .i64 x.lo, .int .i64 x.hi] 72))
  go_enter Try.func67, Try.ntmps67
  cases b1
  · go_wp2_with (go_at_call 41; go_must ((with_reducible refine (C1.out _).mono ?_); rintro e w' ⟨rfl, rfl⟩; dsimp only))
    go_ret
    exact ⟨ret_int (by rw [HE.out]; simp), box_old hQ0⟩
  · go_wp2_with (first
      | (go_at_call 97; go_must ((with_reducible refine (C2.out _).mono ?_); rintro e w2 ⟨rfl, hb2⟩; have hQ2 := hQ0.trans (hb2.mono (by simp)); dsimp only))
      | (go_at_call 41; go_must ((with_reducible refine (C1.out _).mono ?_); rintro e w' ⟨rfl, rfl⟩; dsimp only)))
    go_ret
    exact ⟨ret_int (by rw [HE.out]; simp), box_old hQ2⟩
set_option maxHeartbeats 1000000 in
theorem RCustE_any (x : DeC) (w : World) : Calls Try.prog 68 #[.agg #[.string x.name, .int .i64 x.kind, .int .i64 x.lo, .int .i64 x.hi, .int .i64 x.ship]] w fun e w' => e = .returned (.int .i64 (deCErrOf x)) ∧ Below w.heap.size w w' := by
  have HE : Hid (deCErrOf x = if inB x.kind 0 3 && inB x.ship 0 240 then endsE x.lo x.hi 1 30 else 7) := rfl
  generalize deCErrOf x = r at HE ⊢
  have C0 := fun W => In_any x.kind 0 3 W
  have C1 := fun W => In_any x.ship 0 240 W
  have C2 := fun W => REndsOf_any x.lo x.hi 1 30 W
  generalize inB x.kind 0 3 = b0 at C0 HE
  generalize inB x.ship 0 240 = b1 at C1 HE
  generalize endsE x.lo x.hi 1 30 = e2 at C2 HE
  have C0 := Lib.hid C0
  have C1 := Lib.hid C1
  have C2 := Lib.hid C2
  have hQ0 := Below.refl (w.heap.size + 1) (w.alloc (.cells #[.string x.name, .int .i64 x.kind, .int .i64 x.lo, .int .i64 x.hi, .int .i64 x.ship] 55))
  go_enter Try.func68, Try.ntmps68
  cases b0
  · go_wp2_with (go_at_call 41; go_must ((with_reducible refine (C0.out _).mono ?_); rintro e w' ⟨rfl, rfl⟩; dsimp only))
    go_ret
    exact ⟨ret_int (by rw [HE.out]; simp), box_old hQ0⟩
  · cases b1
    · go_wp2_with (go_at_call 41; (first | ((with_reducible refine (C0.out _).mono ?_); rintro e w' ⟨rfl, rfl⟩; dsimp only) | ((with_reducible refine (C1.out _).mono ?_); rintro e w' ⟨rfl, rfl⟩; dsimp only)))
      go_ret
      exact ⟨ret_int (by rw [HE.out]; simp), box_old hQ0⟩
    · go_wp2_with (first
        | (go_at_call 97; go_must ((with_reducible refine (C2.out _).mono ?_); rintro e w2 ⟨rfl, hb2⟩; have hQ2 := hQ0.trans (hb2.mono (by simp)); dsimp only))
        | (go_at_call 41; (first | ((with_reducible refine (C0.out _).mono ?_); rintro e w' ⟨rfl, rfl⟩; dsimp only) | ((with_reducible refine (C1.out _).mono ?_); rintro e w' ⟨rfl, rfl⟩; dsimp only))))
      go_ret
      exact ⟨ret_int (by rw [HE.out]; simp), box_old hQ2⟩
end Go.Proofs.Ytchnpekgmkhacaa
namespace Go.Proofs.Ytchnpekgmkhacaa
open Go Go.RowKit Go.Shelf

theorem box_hall {w W : World} {aw ac : Option Addr} {kw kc : Nat} {h : DeH} (hq : Below (w.heap.size + 1) (w.alloc (.cells #[.int .i64 h.wax, .slice aw h.writers.length kw, .slice ac h.customers.length kc] 25)) W) : W.cell? ⟨w.heap.size, 0, none⟩ = some (.int .i64 h.wax) ∧ W.cell? ⟨w.heap.size, 1, none⟩ = some (.slice aw h.writers.length kw) ∧ W.cell? ⟨w.heap.size, 2, none⟩ = some (.slice ac h.customers.length kc) ∧ w.heap.size < W.heap.size :=
  ⟨box_cell hq 0 _ rfl, box_cell hq 1 _ rfl, box_cell hq 2 _ rfl, box_size hq⟩
set_option maxRecDepth 100000 in
set_option maxHeartbeats 4000000 in
theorem DRCheck_any (aw ac : Option Addr) (kw kc : Nat) (h : DeH) (w : World) (hm : HallC w aw ac kw kc h) :
    Calls Try.prog 17 #[(.agg #[.int .i64 h.wax, .slice aw h.writers.length kw, .slice ac h.customers.length kc])] w fun e w' => e = .returned (.tuple #[.int .i64 (deCheck h).1, .int .i64 (deCheck h).2.1, .int .i64 (deCheck h).2.2]) ∧ Below w.heap.size w w' := by
  have R0 : Hid (deCheck h = if inB h.wax 0 5 then checkPart 2 h.writers.length 3 (deWErr h) (checkPart 3 h.customers.length 5 (deCErr h) (0, 0, 0)) else (1, 0, 7)) := Lib.hid rfl
  have l1 := hm.okw.len
  have l2 := hm.okc.len
  generalize deCheck h = res at R0 ⊢
  have C0 := fun W => In_any h.wax 0 5 W
  generalize inB h.wax 0 5 = b0 at C0 R0
  replace C0 := Lib.hid C0
  have hB := Below.refl (w.heap.size + 1) (w.alloc (.cells #[.int .i64 h.wax, .slice aw h.writers.length kw, .slice ac h.customers.length kc] 25))
  obtain ⟨x0, x1, x2, z0⟩ := box_hall hB
  go_enter Try.func17, Try.ntmps17
  cases b0
  · have R := R0.out
    simp only [Bool.false_eq_true, if_false] at R
    subst R
    go_wp2_with (go_at_call 41; go_must ((with_reducible refine (C0.out _).mono ?_); rintro e w' ⟨rfl, rfl⟩; dsimp only))
    go_ret3
    exact ⟨rfl, box_old hB⟩
  have R1 := Lib.hid (R0.out.trans (if_pos rfl))
  clear R0
  by_cases g1 : 3 < h.writers.length
  · have R := R1.out.trans (checkPart_long g1)
    subst R
    go_wp2_with (go_at_call 41; go_must ((with_reducible refine (C0.out _).mono ?_); rintro e w' ⟨rfl, rfl⟩; dsimp only))
    go_ret3
    exact ⟨rfl, box_old hB⟩
  go_wp2_with (go_at_call 41; go_must ((with_reducible refine (C0.out _).mono ?_); rintro e w' ⟨rfl, rfl⟩; dsimp only))
  go_loopw [5, 6] (fun o i wr => ∃ k : Nat, k ≤ h.writers.length ∧ i = .int .i64 k ∧ wr.ownsRow (w.heap.size + 1) 9 1 o k (((h.writers.take k).map (·.name)).map Value.string) ∧ Hid (∀ i, i < k → deWErr h i = 0) ∧ Below (w.heap.size + 1) (w.alloc (.cells #[.int .i64 h.wax, .slice aw h.writers.length kw, .slice ac h.customers.length kc] 25)) wr) (fun _ i _ => h.writers.length - (intOf i).toNat)
  case atStart => exact ⟨0, Nat.zero_le _, rfl, World.ownsRow_nil _ _ _ _, Lib.hid (fun i h => absurd h (Nat.not_lt_zero i)), hB⟩
  case round =>
    clear hB x0 x1 x2 z0
    obtain ⟨k, hk, rfl, hown, HZ, hB⟩ := hrel
    obtain ⟨x0, x1, x2, z0⟩ := box_hall hB
    by_cases hlt : k < h.writers.length
    · obtain ⟨b, off, ha, hb, h1, h2, h3, h4⟩ := hm.writers k hlt
      have HCL := Lib.hid (fun (V : World) (hq : Below (w.heap.size + 1) (w.alloc (.cells #[.int .i64 h.wax, .slice aw h.writers.length kw, .slice ac h.customers.length kc] 25)) V) => box_hall hq)
      have HCW := Lib.hid (fun (V : World) (hq : Below (w.heap.size + 1) (w.alloc (.cells #[.int .i64 h.wax, .slice aw h.writers.length kw, .slice ac h.customers.length kc] 25)) V) => (⟨cell_below (box_old hq) h1, cell_below (box_old hq) h2, cell_below (box_old hq) h3, cell_below (box_old hq) h4, Nat.lt_of_lt_of_le hb (box_old hq).size⟩ : V.cell? ⟨b, off + k * 4, none⟩ = some (.string h.writers[k].name) ∧ V.cell? ⟨b, off + k * 4 + 1, none⟩ = some (.int .i64 h.writers[k].kinds) ∧ V.cell? ⟨b, off + k * 4 + 2, none⟩ = some (.int .i64 h.writers[k].lo) ∧ V.cell? ⟨b, off + k * 4 + 3, none⟩ = some (.int .i64 h.writers[k].hi) ∧ b < V.heap.size))
      have hcap := hm.okw.1
      have hsz := hm.wsize _ (List.getElem_mem hlt)
      have HE : Hid (deWErr h k = if fresh h.writers[k].name ((h.writers.take k).map (·.name)) = 0 then deWErrOf h.writers[k] else fresh h.writers[k].name ((h.writers.take k).map (·.name))) := by show deWErr h k = _; simp [deWErr, hlt]
      have HM2 := Lib.hid hm
      have HBN := Lib.hid (fun (V V' : World) (hq : Below (w.heap.size + 1) (w.alloc (.cells #[.int .i64 h.wax, .slice aw h.writers.length kw, .slice ac h.customers.length kc] 25)) V) (hq2 : Below V.heap.size V V') => hq.trans (hq2.mono (by have := hq.size; simp at this; omega)))
      have hnm : Hid (((h.writers.take (k + 1)).map (·.name)) = ((h.writers.take k).map (·.name)) ++ [h.writers[k].name]) := Lib.hid (by rw [List.take_succ_eq_append_getElem hlt, List.map_append]; rfl)
      have hbz := hB.size
      obtain ⟨-, a3, c3, rfl, hs3, hi3⟩ := strs_own hown
      have hll : ((h.writers.take k).map (·.name)).length = k := by simp; omega
      have F := fun W hi => Fresh_any h.writers[k].name a3 ((h.writers.take k).map (·.name)) c3 W hsz (by omega) hi
      rw [hll] at hown F ⊢
      have HOW := Lib.hid hown
      generalize ((h.writers.take k).map (·.name)) = nms at HE hnm HOW hi3 F
      have RW := fun W => RWriterE_any h.writers[k] W
      generalize deWErrOf h.writers[k] = eo at HE RW
      generalize h.writers[k] = x at HE hnm h1 h2 h3 h4 F RW hsz HCW
      generalize fresh x.name nms = fe at HE F
      have F := Lib.hid (F wr hi3)
      have RW := Lib.hid RW
      clear hown hi3 hs3 hm hll
      subst ha
      have HAP := Lib.hid (fun (V : World) (hg : (wr.alloc (.cells #[.string x.name] 9)).grownBy V (Value.ownBlock (.slice a3 k c3))) => app_next hB (by simp) (Nat.le_refl _) HOW.out hg)
      obtain ⟨y1, y2, y3, y4, yz⟩ := HCW.out wr hB
      by_cases hfe : fe = 0
      · have e1 := eqi_t hfe
        replace HE := Lib.hid (HE.out.trans (if_pos hfe))
        by_cases heo : eo = 0
        · have e2 := nei_f heo
          go_wp2_with (first | (go_at_call 67; go_must ((with_reducible refine (RW.out _).mono ?_); rintro e w4 ⟨rfl, hb4⟩; have hB4 := HBN.out _ _ hB3 hb4; (obtain ⟨x0, x1, x2, z0⟩ := HCL.out _ hB4); dsimp only)) | (at_builtin; go_must (refine wpList_app (.tmp 33) (.tmp 40) E_str rfl rfl rfl rfl (w.heap.size + 1) k 1 (nms.map Value.string) [.string x.name] (HOW.out.alloc _) (SrcAt.one _ _ _ rfl) (by omega) (by decide) (by simp at hbz ⊢; omega) ?_; intro v3 w3 ho3 hg3 _; have hB3 := HAP.out _ hg3; (obtain ⟨x0, x1, x2, z0⟩ := HCL.out _ hB3); (obtain ⟨y1, y2, y3, y4, yz⟩ := HCW.out _ hB3); clear hg3; simp only [Act.put, List.setIfInBounds_toArray, List.set_cons_succ, List.set_cons_zero])) | (go_at_call 66; go_must ((with_reducible refine F.out.mono ?_); rintro e w2 ⟨rfl, rfl⟩; dsimp only)))
          go_roundw
          case rel => exact ⟨k + 1, by omega, by go_num, by rw [hnm.out, List.map_append]; exact own_below ho3 hb4, Lib.hid (fun i hi => if h : i < k then HZ.out i h else by rw [show i = k from by omega, HE.out]; exact heo), hB4⟩
          case measure => simp [intOf]; omega
        · have e2 := nei_t heo
          go_wp2_with (first | (go_at_call 67; go_must ((with_reducible refine (RW.out _).mono ?_); rintro e w4 ⟨rfl, hb4⟩; have hB4 := HBN.out _ _ hB3 hb4; (obtain ⟨x0, x1, x2, z0⟩ := HCL.out _ hB4); dsimp only)) | (at_builtin; go_must (refine wpList_app (.tmp 33) (.tmp 40) E_str rfl rfl rfl rfl (w.heap.size + 1) k 1 (nms.map Value.string) [.string x.name] (HOW.out.alloc _) (SrcAt.one _ _ _ rfl) (by omega) (by decide) (by simp at hbz ⊢; omega) ?_; intro v3 w3 ho3 hg3 _; have hB3 := HAP.out _ hg3; (obtain ⟨x0, x1, x2, z0⟩ := HCL.out _ hB3); (obtain ⟨y1, y2, y3, y4, yz⟩ := HCW.out _ hB3); clear hg3; simp only [Act.put, List.setIfInBounds_toArray, List.set_cons_succ, List.set_cons_zero])) | (go_at_call 66; go_must ((with_reducible refine F.out.mono ?_); rintro e w2 ⟨rfl, rfl⟩; dsimp only)))
          go_ret3
          have R := R1.out.trans (checkPart_err (by omega) hlt HZ.out (by rw [HE.out]; exact heo))
          rw [HE.out] at R
          subst R
          exact ⟨rfl, box_old hB4⟩
      · have e1 := eqi_f hfe
        have e2 := nei_t hfe
        replace HE := Lib.hid (HE.out.trans (if_neg hfe))
        go_wp2_with (first | (at_builtin; go_must (refine wpList_app (.tmp 33) (.tmp 40) E_str rfl rfl rfl rfl (w.heap.size + 1) k 1 (nms.map Value.string) [.string x.name] (HOW.out.alloc _) (SrcAt.one _ _ _ rfl) (by omega) (by decide) (by simp at hbz ⊢; omega) ?_; intro v3 w3 ho3 hg3 _; have hB3 := HAP.out _ hg3; (obtain ⟨x0, x1, x2, z0⟩ := HCL.out _ hB3); (obtain ⟨y1, y2, y3, y4, yz⟩ := HCW.out _ hB3); clear hg3; simp only [Act.put, List.setIfInBounds_toArray, List.set_cons_succ, List.set_cons_zero])) | (go_at_call 66; go_must ((with_reducible refine F.out.mono ?_); rintro e w2 ⟨rfl, rfl⟩; dsimp only)))
        go_ret3
        have R := R1.out.trans (checkPart_err (by omega) hlt HZ.out (by rw [HE.out]; exact hfe))
        rw [HE.out] at R
        subst R
        exact ⟨rfl, box_old hB3⟩
    · have R2 := Lib.hid (R1.out.trans (checkPart_ok (by omega) (fun i hi => HZ.out i (by omega))))
      clear R1 hown
      by_cases g2 : 5 < h.customers.length
      · have R := R2.out.trans (checkPart_long g2)
        subst R
        go_wp2
        go_ret3
        exact ⟨rfl, box_old hB⟩
      go_wp2
      go_loopw [5, 8] (fun o i wr => ∃ k : Nat, k ≤ h.customers.length ∧ i = .int .i64 k ∧ wr.ownsRow (w.heap.size + 1) 9 1 o k (((h.customers.take k).map (·.name)).map Value.string) ∧ Hid (∀ i, i < k → deCErr h i = 0) ∧ Below (w.heap.size + 1) (w.alloc (.cells #[.int .i64 h.wax, .slice aw h.writers.length kw, .slice ac h.customers.length kc] 25)) wr) (fun _ i _ => h.customers.length - (intOf i).toNat)
      case atStart => exact ⟨0, Nat.zero_le _, rfl, World.ownsRow_nil _ _ _ _, Lib.hid (fun i h => absurd h (Nat.not_lt_zero i)), hB⟩
      case round =>
        clear hB x0 x1 x2 z0 HZ
        obtain ⟨k, hk, rfl, hown, HZ, hB⟩ := hrel
        obtain ⟨x0, x1, x2, z0⟩ := box_hall hB
        by_cases hlt : k < h.customers.length
        · obtain ⟨b, off, ha, hb, h1, h2, h3, h4, h5⟩ := hm.custs k hlt
          have HCL := Lib.hid (fun (V : World) (hq : Below (w.heap.size + 1) (w.alloc (.cells #[.int .i64 h.wax, .slice aw h.writers.length kw, .slice ac h.customers.length kc] 25)) V) => box_hall hq)
          have HCW := Lib.hid (fun (V : World) (hq : Below (w.heap.size + 1) (w.alloc (.cells #[.int .i64 h.wax, .slice aw h.writers.length kw, .slice ac h.customers.length kc] 25)) V) => (⟨cell_below (box_old hq) h1, cell_below (box_old hq) h2, cell_below (box_old hq) h3, cell_below (box_old hq) h4, cell_below (box_old hq) h5, Nat.lt_of_lt_of_le hb (box_old hq).size⟩ : V.cell? ⟨b, off + k * 5, none⟩ = some (.string h.customers[k].name) ∧ V.cell? ⟨b, off + k * 5 + 1, none⟩ = some (.int .i64 h.customers[k].kind) ∧ V.cell? ⟨b, off + k * 5 + 2, none⟩ = some (.int .i64 h.customers[k].lo) ∧ V.cell? ⟨b, off + k * 5 + 3, none⟩ = some (.int .i64 h.customers[k].hi) ∧ V.cell? ⟨b, off + k * 5 + 4, none⟩ = some (.int .i64 h.customers[k].ship) ∧ b < V.heap.size))
          have hcap := hm.okc.1
          have hsz := hm.csize _ (List.getElem_mem hlt)
          have HE : Hid (deCErr h k = if fresh h.customers[k].name ((h.customers.take k).map (·.name)) = 0 then deCErrOf h.customers[k] else fresh h.customers[k].name ((h.customers.take k).map (·.name))) := by show deCErr h k = _; simp [deCErr, hlt]
          have HM2 := Lib.hid hm
          have HBN := Lib.hid (fun (V V' : World) (hq : Below (w.heap.size + 1) (w.alloc (.cells #[.int .i64 h.wax, .slice aw h.writers.length kw, .slice ac h.customers.length kc] 25)) V) (hq2 : Below V.heap.size V V') => hq.trans (hq2.mono (by have := hq.size; simp at this; omega)))
          have hnm : Hid (((h.customers.take (k + 1)).map (·.name)) = ((h.customers.take k).map (·.name)) ++ [h.customers[k].name]) := Lib.hid (by rw [List.take_succ_eq_append_getElem hlt, List.map_append]; rfl)
          have hbz := hB.size
          obtain ⟨-, a3, c3, rfl, hs3, hi3⟩ := strs_own hown
          have hll : ((h.customers.take k).map (·.name)).length = k := by simp; omega
          have F := fun W hi => Fresh_any h.customers[k].name a3 ((h.customers.take k).map (·.name)) c3 W hsz (by omega) hi
          rw [hll] at hown F ⊢
          have HOW := Lib.hid hown
          generalize ((h.customers.take k).map (·.name)) = nms at HE hnm HOW hi3 F
          have RW := fun W => RCustE_any h.customers[k] W
          generalize deCErrOf h.customers[k] = eo at HE RW
          generalize h.customers[k] = x at HE hnm h1 h2 h3 h4 h5 F RW hsz HCW
          generalize fresh x.name nms = fe at HE F
          have F := Lib.hid (F wr hi3)
          have RW := Lib.hid RW
          clear hown hi3 hs3 hm hll
          subst ha
          have HAP := Lib.hid (fun (V : World) (hg : (wr.alloc (.cells #[.string x.name] 9)).grownBy V (Value.ownBlock (.slice a3 k c3))) => app_next hB (by simp) (Nat.le_refl _) HOW.out hg)
          obtain ⟨y1, y2, y3, y4, y5, yz⟩ := HCW.out wr hB
          by_cases hfe : fe = 0
          · have e1 := eqi_t hfe
            replace HE := Lib.hid (HE.out.trans (if_pos hfe))
            by_cases heo : eo = 0
            · have e2 := nei_f heo
              go_wp2_with (first | (go_at_call 68; go_must ((with_reducible refine (RW.out _).mono ?_); rintro e w4 ⟨rfl, hb4⟩; have hB4 := HBN.out _ _ hB3 hb4; (obtain ⟨x0, x1, x2, z0⟩ := HCL.out _ hB4); dsimp only)) | (at_builtin; go_must (refine wpList_app (.tmp 73) (.tmp 80) E_str rfl rfl rfl rfl (w.heap.size + 1) k 1 (nms.map Value.string) [.string x.name] (HOW.out.alloc _) (SrcAt.one _ _ _ rfl) (by omega) (by decide) (by simp at hbz ⊢; omega) ?_; intro v3 w3 ho3 hg3 _; have hB3 := HAP.out _ hg3; (obtain ⟨x0, x1, x2, z0⟩ := HCL.out _ hB3); (obtain ⟨y1, y2, y3, y4, y5, yz⟩ := HCW.out _ hB3); clear hg3; simp only [Act.put, List.setIfInBounds_toArray, List.set_cons_succ, List.set_cons_zero])) | (go_at_call 66; go_must ((with_reducible refine F.out.mono ?_); rintro e w2 ⟨rfl, rfl⟩; dsimp only)))
              go_roundw
              case rel => exact ⟨k + 1, by omega, by go_num, by rw [hnm.out, List.map_append]; exact own_below ho3 hb4, Lib.hid (fun i hi => if h : i < k then HZ.out i h else by rw [show i = k from by omega, HE.out]; exact heo), hB4⟩
              case measure => simp [intOf]; omega
            · have e2 := nei_t heo
              go_wp2_with (first | (go_at_call 68; go_must ((with_reducible refine (RW.out _).mono ?_); rintro e w4 ⟨rfl, hb4⟩; have hB4 := HBN.out _ _ hB3 hb4; (obtain ⟨x0, x1, x2, z0⟩ := HCL.out _ hB4); dsimp only)) | (at_builtin; go_must (refine wpList_app (.tmp 73) (.tmp 80) E_str rfl rfl rfl rfl (w.heap.size + 1) k 1 (nms.map Value.string) [.string x.name] (HOW.out.alloc _) (SrcAt.one _ _ _ rfl) (by omega) (by decide) (by simp at hbz ⊢; omega) ?_; intro v3 w3 ho3 hg3 _; have hB3 := HAP.out _ hg3; (obtain ⟨x0, x1, x2, z0⟩ := HCL.out _ hB3); (obtain ⟨y1, y2, y3, y4, y5, yz⟩ := HCW.out _ hB3); clear hg3; simp only [Act.put, List.setIfInBounds_toArray, List.set_cons_succ, List.set_cons_zero])) | (go_at_call 66; go_must ((with_reducible refine F.out.mono ?_); rintro e w2 ⟨rfl, rfl⟩; dsimp only)))
              go_ret3
              have R := R2.out.trans (checkPart_err (by omega) hlt HZ.out (by rw [HE.out]; exact heo))
              rw [HE.out] at R
              subst R
              exact ⟨rfl, box_old hB4⟩
          · have e1 := eqi_f hfe
            have e2 := nei_t hfe
            replace HE := Lib.hid (HE.out.trans (if_neg hfe))
            go_wp2_with (first | (at_builtin; go_must (refine wpList_app (.tmp 73) (.tmp 80) E_str rfl rfl rfl rfl (w.heap.size + 1) k 1 (nms.map Value.string) [.string x.name] (HOW.out.alloc _) (SrcAt.one _ _ _ rfl) (by omega) (by decide) (by simp at hbz ⊢; omega) ?_; intro v3 w3 ho3 hg3 _; have hB3 := HAP.out _ hg3; (obtain ⟨x0, x1, x2, z0⟩ := HCL.out _ hB3); (obtain ⟨y1, y2, y3, y4, y5, yz⟩ := HCW.out _ hB3); clear hg3; simp only [Act.put, List.setIfInBounds_toArray, List.set_cons_succ, List.set_cons_zero])) | (go_at_call 66; go_must ((with_reducible refine F.out.mono ?_); rintro e w2 ⟨rfl, rfl⟩; dsimp only)))
            go_ret3
            have R := R2.out.trans (checkPart_err (by omega) hlt HZ.out (by rw [HE.out]; exact hfe))
            rw [HE.out] at R
            subst R
            exact ⟨rfl, box_old hB3⟩
        · have R3 := Lib.hid (R2.out.trans (checkPart_ok (by omega) (fun i hi => HZ.out i (by omega))))
          clear R2 hown
          have R := R3.out
          subst R
          go_wp2
          go_ret3
          exact ⟨rfl, box_old hB⟩
end Go.Proofs.Ytchnpekgmkhacaa
namespace Go.Proofs.Ytchnpekgmkhacaa
open Go Go.RowKit Go.Shelf

set_option maxRecDepth 100000 in
set_option maxHeartbeats 1000000 in
theorem DRCan_any (aw ac : Option Addr) (kw kc : Nat) (h : DeH) (i c : Nat) (w : World) (hm : HallC w aw ac kw kc h) (hv : DeValid h) (hi : i < h.writers.length) (hc : c < h.customers.length) :
    Calls Try.prog 88 #[(.agg #[.int .i64 h.wax, .slice aw h.writers.length kw, .slice ac h.customers.length kc]), .int .i64 (i : Int), .int .i64 (c : Int)] w fun e w' => e = .returned (.bool (canD h i c)) ∧ Below w.heap.size w w' := by
  have hB := Below.refl (w.heap.size + 1) (w.alloc (.cells #[.int .i64 h.wax, .slice aw h.writers.length kw, .slice ac h.customers.length kc] 25))
  obtain ⟨x0, x1, x2, z0⟩ := box_hall hB
  obtain ⟨bw, ow, ew, hbw, h1, h2, h3, h4⟩ := hm.writers i hi
  obtain ⟨bc, oc, ec, hbc, g1, g2, g3, g4, g5⟩ := hm.custs c hc
  have hwv := hv.w i hi
  have hcv := hv.c c hc
  have hcw := hm.okw.1
  have hcc := hm.okc.1
  have hnw := hv.nw
  have hnc := hv.nc
  have HR : Hid (canD h i c = bitB h.writers[i].kinds h.customers[c].kind.toNat) := Lib.hid (by unfold canD writerAt customerAt; simp [hi, hc])
  generalize canD h i c = res at HR ⊢
  have y2 := cell_below (box_old hB) h2
  have u2 := cell_below (box_old hB) g2
  generalize h.writers[i] = x at HR y2 hwv
  generalize h.customers[c] = y at HR u2 hcv
  have F := fun W => Bit_any x.kinds y.kind W (by omega) (by omega) (by omega) (by omega)
  rw [← HR.out] at F
  clear h1 h2 h3 h4 g1 g2 g3 g4 g5 HR
  have F := Lib.hid F
  clear hm
  subst ew
  subst ec
  have hi2 : (i : Int) < kw := by omega
  have hc2 : (c : Int) < kc := by omega
  go_enter Try.func88, Try.ntmps88
  go_upto_region 1 with (fail)
  go_quiet ((go_at_call 46; exact Calls.quiet_of_same (F.out _)))
  go_wp2
  go_ret
  exact ⟨rfl, box_old (below_drewN' hB _)⟩
end Go.Proofs.Ytchnpekgmkhacaa
namespace Go.Proofs.Ytchnpekgmkhacaa
open Go Go.RowKit Go.Shelf

theorem hasB_app (l : List Int) (c n : Int) : hasB (l ++ [c]) n = (hasB l n || (c == n)) := by
  unfold hasB
  rw [List.any_append]
  simp
theorem twice_snoc : ∀ (l : List Int) (c : Int), twiceB (l ++ [c]) = (twiceB l || hasB l c)
  | [], c => by simp [twiceB, hasB]
  | x :: l, c => by
    show (hasB (l ++ [c]) x || twiceB (l ++ [c])) = ((hasB l x || twiceB l) || hasB (x :: l) c)
    rw [twice_snoc l c, hasB_app]
    have : hasB (x :: l) c = ((x == c) || hasB l c) := by unfold hasB; simp
    rw [this]
    have e : (c == x) = (x == c) := by
      by_cases h : c = x
      · simp [h]
      · rw [eqi_f h, eqi_f (Ne.symm h)]
    rw [e]
    cases hasB l x <;> cases twiceB l <;> cases (x == c) <;> cases hasB l c <;> rfl
theorem wrong_snoc {h : DeH} : ∀ (p : List (List Int)) (w : Nat) (l : List Int), wrongB h w (p ++ [l]) = (wrongB h w p || l.any fun c => !canD h (w + p.length) c.toNat)
  | [], w, l => by simp [wrongB]
  | a :: p, w, l => by
    rw [List.cons_append, wrongB, wrongB, wrong_snoc p (w + 1) l, Bool.or_assoc]
    congr 3
    simp only [List.length_cons]
    funext c
    congr 2
    omega
/-- What is put up of a plan before the i-th letter of its u-th list. -/
def preP (p : List (List Int)) (u i : Nat) : List Int := (p.take u).flatten ++ ((p[u]?.getD []).take i)
def wrongP (h : DeH) (p : List (List Int)) (u i : Nat) : Bool := wrongB h 0 (p.take u) || ((p[u]?.getD []).take i).any fun c => !canD h u c.toNat
theorem preP_zero (p : List (List Int)) (u : Nat) : preP p u 0 = (p.take u).flatten := by simp [preP]
theorem wrongP_zero (h : DeH) (p : List (List Int)) (u : Nat) : wrongP h p u 0 = wrongB h 0 (p.take u) := by simp [wrongP]
theorem preP_snoc {p : List (List Int)} {u i : Nat} (hu : u < p.length) (hi : i < p[u].length) : preP p u (i + 1) = preP p u i ++ [p[u][i]] := by
  unfold preP
  simp only [List.getElem?_eq_getElem hu, Option.getD_some]
  rw [List.take_succ_eq_append_getElem hi, List.append_assoc]
theorem wrongP_snoc (h : DeH) {p : List (List Int)} {u i : Nat} (hu : u < p.length) (hi : i < p[u].length) : wrongP h p u (i + 1) = (wrongP h p u i || !canD h u p[u][i].toNat) := by
  unfold wrongP
  simp only [List.getElem?_eq_getElem hu, Option.getD_some]
  rw [List.take_succ_eq_append_getElem hi, List.any_append, ← Bool.or_assoc]
  simp
theorem preP_next {p : List (List Int)} {u : Nat} (hu : u < p.length) : preP p (u + 1) 0 = preP p u p[u].length := by
  rw [preP_zero, flat_succ hu]
  unfold preP
  simp only [List.getElem?_eq_getElem hu, Option.getD_some, List.take_length]
theorem wrongP_next (h : DeH) {p : List (List Int)} {u : Nat} (hu : u < p.length) : wrongP h p (u + 1) 0 = wrongP h p u p[u].length := by
  rw [wrongP_zero, List.take_succ_eq_append_getElem hu, wrong_snoc]
  unfold wrongP
  simp only [List.getElem?_eq_getElem hu, Option.getD_some, List.take_length, Nat.zero_add, List.length_take_of_le (Nat.le_of_lt hu)]
theorem preP_le {p : List (List Int)} {u i : Nat} : (preP p u i).length ≤ p.flatten.length := by
  unfold preP
  by_cases hu : u < p.length
  · have h1 := flat_take_le p (u + 1)
    rw [flat_succ hu, List.length_append] at h1
    simp only [List.getElem?_eq_getElem hu, Option.getD_some, List.length_append, List.length_take]
    omega
  · have := flat_take_le p u
    simp only [List.getElem?_eq_none (by omega : p.length ≤ u), Option.getD_none, List.take_nil, List.append_nil]
    exact this
theorem preP_all (p : List (List Int)) : preP p p.length 0 = p.flatten := by rw [preP_zero, List.take_length]
theorem wrongP_all (h : DeH) (p : List (List Int)) : wrongP h p p.length 0 = wrongB h 0 p := by rw [wrongP_zero, List.take_length]
theorem err_out {h : DeH} {p : List (List Int)} (he : deErr h = 0) (hl : p.length = h.writers.length) {u i : Nat} (hu : u < p.length) (hi : i < p[u].length) (hb : inB p[u][i] 0 ((h.customers.length : Int) - 1) = false) : dePlanErr h p = 4 := by
  unfold dePlanErr
  rw [if_pos he, if_pos hl, if_neg]
  intro hall
  rw [List.all_eq_true] at hall
  have := hall p[u][i] (List.mem_flatten.2 ⟨p[u], List.getElem_mem hu, List.getElem_mem hi⟩)
  rw [hb] at this
  cases this
theorem err_end {h : DeH} {p : List (List Int)} (he : deErr h = 0) (hl : p.length = h.writers.length) (ha : ∀ c ∈ p.flatten, inB c 0 ((h.customers.length : Int) - 1) = true) : dePlanErr h p = if twiceB p.flatten then 5 else if wrongB h 0 p then 2 else if p.flatten.length < h.customers.length then 8 else 0 := by
  unfold dePlanErr
  rw [if_pos he, if_pos hl, if_pos (List.all_eq_true.2 ha)]
set_option maxRecDepth 100000 in
set_option maxHeartbeats 4000000 in
theorem DRPlan_any (aw ac : Option Addr) (kw kc : Nat) (h : DeH) (ad : Option Addr) (p : List (List Int)) (cp : Nat) (w : World) (hm : HallC w aw ac kw kc h) (hc : SlOk ad p.length cp) (hsz : p.flatten.length ≤ 1048576) (hi : RowsC w ad p) :
    Calls Try.prog 38 #[(.agg #[.int .i64 h.wax, .slice aw h.writers.length kw, .slice ac h.customers.length kc]), .slice ad p.length cp] w fun e w' => e = .returned (.int .i64 (dePlanErr h p)) ∧ Below w.heap.size w w' := by
  have hB := Below.refl (w.heap.size + 1) (w.alloc (.cells #[.int .i64 h.wax, .slice aw h.writers.length kw, .slice ac h.customers.length kc] 25))
  have CK := DRCheck_any aw ac kw kc h (w.alloc (.cells #[.int .i64 h.wax, .slice aw h.writers.length kw, .slice ac h.customers.length kc] 25)) (hm.mono (box_old hB))
  have HV := Lib.hid (fun h : deErr h = 0 => deValid_of h)
  have HNO := Lib.hid (fun (e : deErr h ≠ 0) => show dePlanErr h p = deErr h by unfold dePlanErr; rw [if_neg e])
  have HLN := Lib.hid (fun (e : deErr h = 0) (hn : p.length ≠ h.writers.length) => show dePlanErr h p = 3 by unfold dePlanErr; rw [if_pos e, if_neg hn])
  have HOUT := Lib.hid (fun (e : deErr h = 0) hl u i hu hi hb => err_out (h := h) (p := p) e hl (u := u) (i := i) hu hi hb)
  have HEND := Lib.hid (fun (e : deErr h = 0) hl ha => err_end (h := h) (p := p) e hl ha)
  have e0 : (deCheck h).2.2 = deErr h := rfl
  rw [e0] at CK
  generalize (deCheck h).1 = q1 at CK
  generalize (deCheck h).2.1 = q2 at CK
  generalize deErr h = er at CK HV HNO HLN HOUT HEND
  clear e0
  generalize dePlanErr h p = res at HNO HLN HOUT HEND ⊢
  replace CK := Lib.hid CK
  obtain ⟨x0, x1, x2, z0⟩ := box_hall hB
  have hcp := hc.1
  have hcl := hc.len
  have hlw := hm.okw.len
  have hlc := hm.okc.len
  by_cases her : er = 0
  · have hv := HV.out her
    have g1 := nei_f her
    replace HLN := Lib.hid (HLN.out her)
    replace HOUT := Lib.hid (HOUT.out her)
    replace HEND := Lib.hid (HEND.out her)
    clear her HV HNO
    have hnw := hv.nw
    have hnc := hv.nc
    have HCL := Lib.hid (fun (V : World) (hq : Below (w.heap.size + 1) (w.alloc (.cells #[.int .i64 h.wax, .slice aw h.writers.length kw, .slice ac h.customers.length kc] 25)) V) => box_hall hq)
    have HBN := Lib.hid (fun (V V' : World) (hq : Below (w.heap.size + 1) (w.alloc (.cells #[.int .i64 h.wax, .slice aw h.writers.length kw, .slice ac h.customers.length kc] 25)) V) (hq2 : Below V.heap.size V V') => hq.trans (hq2.mono (by have := hq.size; simp at this; omega)))
    go_enter Try.func38, Try.ntmps38
    by_cases hln : p.length = h.writers.length
    · have HO := Lib.hid (HOUT.out hln)
      have HE := Lib.hid (HEND.out hln)
      clear HLN HOUT HEND
      go_wp2_with (go_at_call 17; go_must ((with_reducible refine CK.out.mono ?_); rintro e w2 ⟨rfl, hb2⟩; have hB2 := HBN.out _ _ hB hb2; (obtain ⟨x0, x1, x2, z0⟩ := HCL.out _ hB2); dsimp only))
      go_loopw [8, 9, 10, 11] (fun al tw ot i wr => ∃ u : Nat, u ≤ p.length ∧ i = .int .i64 u ∧ wr.ownsRow (w.heap.size + 1) 3 1 al (preP p u 0).length ((preP p u 0).map (Value.int .i64)) ∧ tw = .bool (twiceB (preP p u 0)) ∧ ot = .bool (wrongP h p u 0) ∧ Hid (∀ c ∈ preP p u 0, inB c 0 ((h.customers.length : Int) - 1) = true) ∧ Below (w.heap.size + 1) (w.alloc (.cells #[.int .i64 h.wax, .slice aw h.writers.length kw, .slice ac h.customers.length kc] 25)) wr) (fun _ _ _ i _ => p.length - (intOf i).toNat)
      case atStart => exact ⟨0, Nat.zero_le _, rfl, by rw [preP_zero]; exact World.ownsRow_nil _ _ _ _, by rw [preP_zero]; rfl, by rw [wrongP_zero]; rfl, Lib.hid (by rw [preP_zero]; intro c hc; cases hc), hB2⟩
      case round =>
        clear hB2 x0 x1 x2 z0 hB
        obtain ⟨u, hu, rfl, hown, rfl, rfl, HIN, hB⟩ := hrel
        obtain ⟨x0, x1, x2, z0⟩ := HCL.out _ hB
        by_cases hlu : u < p.length
        · obtain ⟨b, off, a2, c2, ea, hb, hcell, hs2, hi2⟩ := hi u hlu
          have HNXP := Lib.hid (preP_next hlu)
          have HNXW := Lib.hid (wrongP_next h hlu)
          have HSN := Lib.hid (fun (k : Nat) (hk : k < p[u].length) => preP_snoc hlu hk)
          have HWS := Lib.hid (fun (k : Nat) (hk : k < p[u].length) => wrongP_snoc h hlu hk)
          have HO2 := Lib.hid (fun (k : Nat) (hk : k < p[u].length) hb => HO.out u k hlu hk hb)
          have hle := Lib.hid (fun k => preP_le (p := p) (u := u) (i := k))
          have HRC := Lib.hid (fun (V : World) (hq : Below (w.heap.size + 1) (w.alloc (.cells #[.int .i64 h.wax, .slice aw h.writers.length kw, .slice ac h.customers.length kc] 25)) V) => (⟨cell_below (box_old hq) hcell, Nat.lt_of_lt_of_le hb (box_old hq).size⟩ : V.cell? ⟨b, off + u, none⟩ = some (.slice a2 p[u].length c2) ∧ b < V.heap.size))
          have hs2l := hs2.len
          have hs21 := hs2.1
          generalize p[u] = row at *
          obtain ⟨r0, rz⟩ := HRC.out _ hB
          have hup : (u : Int) < cp := by omega
          subst ea
          go_wp2
          go_loopw [8, 9, 10, 12] (fun al tw ot i wr => ∃ k : Nat, k ≤ row.length ∧ i = .int .i64 k ∧ wr.ownsRow (w.heap.size + 1) 3 1 al (preP p u k).length ((preP p u k).map (Value.int .i64)) ∧ tw = .bool (twiceB (preP p u k)) ∧ ot = .bool (wrongP h p u k) ∧ Hid (∀ c ∈ preP p u k, inB c 0 ((h.customers.length : Int) - 1) = true) ∧ Below (w.heap.size + 1) (w.alloc (.cells #[.int .i64 h.wax, .slice aw h.writers.length kw, .slice ac h.customers.length kc] 25)) wr) (fun _ _ _ i _ => row.length - (intOf i).toNat)
          case atStart => exact ⟨0, Nat.zero_le _, rfl, hown, rfl, rfl, HIN, hB⟩
          case round =>
            clear hown HIN hB x0 x1 x2 z0 r0 rz
            obtain ⟨k, hk, rfl, hown, rfl, rfl, HIN, hB⟩ := hrel
            obtain ⟨x0, x1, x2, z0⟩ := HCL.out _ hB
            obtain ⟨r0, rz⟩ := HRC.out _ hB
            by_cases hlk : k < row.length
            · have hci := hi2 k hlk
              obtain ⟨b3, off3, ea3, hb3, hc3⟩ := hci
              have hsn := HSN.out k hlk
              have hws := HWS.out k hlk
              have ho2 := HO2.out k hlk
              have hl1 := hle.out k
              have hce := cell_below (box_old hB) hc3
              have hze := Nat.lt_of_lt_of_le hb3 (box_old hB).size
              generalize row[k] = c at hsn hws ho2 hce
              have C1 := fun W => In_any c 0 ((h.customers.length : Int) - 1) W
              cases hin : inB c 0 ((h.customers.length : Int) - 1) with
              | false =>
                rw [hin] at C1
                replace C1 := Lib.hid C1
                have hr := ho2 hin
                subst hr
                have hks : (k : Int) < c2 := by omega
                clear hc3 hb3
                subst ea3
                go_wp2_with (go_at_call 41; go_must ((with_reducible refine (C1.out _).mono ?_); rintro e w' ⟨rfl, rfl⟩; dsimp only))
                go_ret
                exact ⟨rfl, box_old hB⟩
              | true =>
                rw [hin] at C1
                obtain ⟨hc0, hc1⟩ := inB_iff.1 hin
                obtain ⟨c, rfl⟩ := Int.eq_ofNat_of_zero_le hc0
                have hcn : c < h.customers.length := by omega
                simp only [Int.toNat_natCast] at hws
                obtain ⟨a3, c3, rfl, hs3, hi3⟩ := IntsV.of_own hown
                have HS := Has_any a3 (preP p u k) c3 (c : Int) wr hs3.len hi3
                have CN := DRCan_any aw ac kw kc h u c wr (hm.mono (box_old hB)) hv (by omega) hcn
                have HOW := Lib.hid hown
                replace HIN : Hid (∀ d ∈ preP p u (k + 1), inB d 0 ((h.customers.length : Int) - 1) = true) := Lib.hid (by
                  rw [hsn]
                  intro d hd
                  rcases List.mem_append.1 hd with h1 | h1
                  · exact HIN.out d h1
                  · rw [List.mem_singleton.1 h1]; exact hin)
                have htw : Hid (twiceB (preP p u (k + 1)) = (twiceB (preP p u k) || hasB (preP p u k) (c : Int))) := Lib.hid (by rw [hsn, twice_snoc])
                have hln2 := Lib.hid (congrArg List.length hsn)
                have hmp := Lib.hid (congrArg (List.map (Value.int .i64)) hsn)
                have HWSN := Lib.hid hws
                clear hsn hws ho2 hi3 hown hc0 hc1 hin hc3 hb3
                generalize hasB (preP p u k) (c : Int) = b5 at HS htw
                generalize canD h u c = b6 at CN HWSN
                generalize twiceB (preP p u k) = b7 at htw ⊢
                generalize wrongP h p u k = b8 at HWSN ⊢
                replace C1 := Lib.hid C1
                replace HS := Lib.hid HS
                replace CN := Lib.hid CN
                have hks : (k : Int) < c2 := by omega
                simp only [List.length_append, List.length_cons, List.length_nil, Nat.zero_add] at hln2
                simp only [List.map_append, List.map_cons, List.map_nil] at hmp
                subst ea3
                cases b7
                · cases b8
                  · go_wp2_with (first | (at_builtin; go_must (refine wpList_app_big (.tmp 72) (.tmp 74) E_int rfl rfl rfl rfl (w.heap.size + 1) (preP p u k).length 1 ((preP p u k).map (Value.int .i64)) [.int .i64 (c : Int)] ((own_below HOW.out hb3).alloc _) (SrcAt.one _ _ _ rfl) (by omega) (by omega) (by have := hB3.size; simp at this ⊢; omega) ?_; intro v4 w4 ho4 hg4 _; have hB4 := app_next hB3 (by simp) (Nat.le_refl _) (own_below HOW.out hb3) hg4; (obtain ⟨x0, x1, x2, z0⟩ := HCL.out _ hB4); clear hg4; simp only [Act.put, List.setIfInBounds_toArray, List.set_cons_succ, List.set_cons_zero])) | (go_at_call 88; go_must ((with_reducible refine CN.out.mono ?_); rintro e w3 ⟨rfl, hb3⟩; have hB3 := HBN.out _ _ hB hb3; (obtain ⟨x0, x1, x2, z0⟩ := HCL.out _ hB3); dsimp only)) | (go_at_call 87; go_must ((with_reducible refine HS.out.mono ?_); rintro e w' ⟨rfl, rfl⟩; dsimp only)) | (go_at_call 41; go_must ((with_reducible refine (C1.out _).mono ?_); rintro e w' ⟨rfl, rfl⟩; dsimp only)))
                    go_roundw
                    case rel => exact ⟨k + 1, by omega, by go_num, by rw [hmp.out, hln2.out]; exact ho4, val_bool (by rw [htw.out]; simp), val_bool (by rw [HWSN.out]; simp), HIN, hB4⟩
                    case measure => simp [intOf]; omega
                  · go_wp2_with (first | (at_builtin; go_must (refine wpList_app_big (.tmp 72) (.tmp 74) E_int rfl rfl rfl rfl (w.heap.size + 1) (preP p u k).length 1 ((preP p u k).map (Value.int .i64)) [.int .i64 (c : Int)] (HOW.out.alloc _) (SrcAt.one _ _ _ rfl) (by omega) (by omega) (by have := hB.size; simp at this ⊢; omega) ?_; intro v4 w4 ho4 hg4 _; have hB4 := app_next hB (by simp) (Nat.le_refl _) HOW.out hg4; (obtain ⟨x0, x1, x2, z0⟩ := HCL.out _ hB4); clear hg4; simp only [Act.put, List.setIfInBounds_toArray, List.set_cons_succ, List.set_cons_zero])) | (go_at_call 87; go_must ((with_reducible refine HS.out.mono ?_); rintro e w' ⟨rfl, rfl⟩; dsimp only)) | (go_at_call 41; go_must ((with_reducible refine (C1.out _).mono ?_); rintro e w' ⟨rfl, rfl⟩; dsimp only)))
                    go_roundw
                    case rel => exact ⟨k + 1, by omega, by go_num, by rw [hmp.out, hln2.out]; exact ho4, val_bool (by rw [htw.out]; simp), val_bool (by rw [HWSN.out]; simp), HIN, hB4⟩
                    case measure => simp [intOf]; omega
                · cases b8
                  · go_wp2_with (first | (at_builtin; go_must (refine wpList_app_big (.tmp 72) (.tmp 74) E_int rfl rfl rfl rfl (w.heap.size + 1) (preP p u k).length 1 ((preP p u k).map (Value.int .i64)) [.int .i64 (c : Int)] ((own_below HOW.out hb3).alloc _) (SrcAt.one _ _ _ rfl) (by omega) (by omega) (by have := hB3.size; simp at this ⊢; omega) ?_; intro v4 w4 ho4 hg4 _; have hB4 := app_next hB3 (by simp) (Nat.le_refl _) (own_below HOW.out hb3) hg4; (obtain ⟨x0, x1, x2, z0⟩ := HCL.out _ hB4); clear hg4; simp only [Act.put, List.setIfInBounds_toArray, List.set_cons_succ, List.set_cons_zero])) | (go_at_call 88; go_must ((with_reducible refine CN.out.mono ?_); rintro e w3 ⟨rfl, hb3⟩; have hB3 := HBN.out _ _ hB hb3; (obtain ⟨x0, x1, x2, z0⟩ := HCL.out _ hB3); dsimp only)) | (go_at_call 41; go_must ((with_reducible refine (C1.out _).mono ?_); rintro e w' ⟨rfl, rfl⟩; dsimp only)))
                    go_roundw
                    case rel => exact ⟨k + 1, by omega, by go_num, by rw [hmp.out, hln2.out]; exact ho4, val_bool (by rw [htw.out]; simp), val_bool (by rw [HWSN.out]; simp), HIN, hB4⟩
                    case measure => simp [intOf]; omega
                  · go_wp2_with (first | (at_builtin; go_must (refine wpList_app_big (.tmp 72) (.tmp 74) E_int rfl rfl rfl rfl (w.heap.size + 1) (preP p u k).length 1 ((preP p u k).map (Value.int .i64)) [.int .i64 (c : Int)] (HOW.out.alloc _) (SrcAt.one _ _ _ rfl) (by omega) (by omega) (by have := hB.size; simp at this ⊢; omega) ?_; intro v4 w4 ho4 hg4 _; have hB4 := app_next hB (by simp) (Nat.le_refl _) HOW.out hg4; (obtain ⟨x0, x1, x2, z0⟩ := HCL.out _ hB4); clear hg4; simp only [Act.put, List.setIfInBounds_toArray, List.set_cons_succ, List.set_cons_zero])) | (go_at_call 41; go_must ((with_reducible refine (C1.out _).mono ?_); rintro e w' ⟨rfl, rfl⟩; dsimp only)))
                    go_roundw
                    case rel => exact ⟨k + 1, by omega, by go_num, by rw [hmp.out, hln2.out]; exact ho4, val_bool (by rw [htw.out]; simp), val_bool (by rw [HWSN.out]; simp), HIN, hB4⟩
                    case measure => simp [intOf]; omega
            · obtain rfl : k = row.length := by omega
              rw [← HNXP.out] at hown HIN
              have e1 : twiceB (preP p u row.length) = twiceB (preP p (u + 1) 0) := by rw [HNXP.out]
              have e2 := HNXW.out
              go_wp2
              go_roundw
              case rel => exact ⟨u + 1, by omega, by go_num, hown, by rw [e1], by rw [e2], HIN, hB⟩
              case measure => simp [intOf]; omega
        · obtain rfl : u = p.length := by omega
          have hr := Lib.hid (HE.out (by rw [← preP_all p]; exact HIN.out))
          rw [preP_all] at hown
          rw [preP_all, wrongP_all]
          obtain ⟨a3, c3, rfl, hs3, hi3⟩ := IntsV.of_own hown
          have hfl := hs3.len
          clear hown HIN
          generalize p.flatten.length = fl at *
          generalize twiceB p.flatten = b1 at *
          generalize wrongB h 0 p = b2 at *
          cases b1
          · cases b2
            · by_cases hlt : fl < h.customers.length
              all_goals
                go_wp2
                go_ret
                exact ⟨ret_int (by rw [hr.out]; simp [hlt]), box_old hB⟩
            · go_wp2
              go_ret
              exact ⟨ret_int (by rw [hr.out]; simp), box_old hB⟩
          · go_wp2
            go_ret
            exact ⟨ret_int (by rw [hr.out]; simp), box_old hB⟩
    · have hn2 : ((p.length : Int) != (h.writers.length : Int)) = true := by simp; omega
      have hr := HLN.out hln
      go_wp2_with (go_at_call 17; go_must ((with_reducible refine CK.out.mono ?_); rintro e w2 ⟨rfl, hb2⟩; have hB2 := HBN.out _ _ hB hb2; (obtain ⟨x0, x1, x2, z0⟩ := HCL.out _ hB2); dsimp only))
      go_ret
      subst hr
      exact ⟨rfl, box_old hB2⟩
  · replace HNO := HNO.out her
    have g1 := nei_t her
    clear her HV HLN HOUT HEND
    have HBN := Lib.hid (fun (V V' : World) (hq : Below (w.heap.size + 1) (w.alloc (.cells #[.int .i64 h.wax, .slice aw h.writers.length kw, .slice ac h.customers.length kc] 25)) V) (hq2 : Below V.heap.size V V') => hq.trans (hq2.mono (by have := hq.size; simp at this; omega)))
    go_enter Try.func38, Try.ntmps38
    go_wp2_with (go_at_call 17; go_must ((with_reducible refine CK.out.mono ?_); rintro e w2 ⟨rfl, hb2⟩; have hB2 := HBN.out _ _ hB hb2; dsimp only))
    go_ret
    subst HNO
    exact ⟨rfl, box_old hB2⟩
end Go.Proofs.Ytchnpekgmkhacaa
namespace Go.Proofs.Ytchnpekgmkhacaa
open Go Go.RowKit Go.Shelf

set_option maxRecDepth 100000 in
set_option maxHeartbeats 4000000 in
theorem DRSealed_any (aw ac : Option Addr) (kw kc : Nat) (h : DeH) (ad : Option Addr) (p : List (List Int)) (cp : Nat) (w : World) (hm : HallC w aw ac kw kc h) (hv : DeValid h) (hp : PlanOk h h.customers.length p) (hc : SlOk ad p.length cp) (hi : RowsC w ad p) :
    Calls Try.prog 71 #[(.agg #[.int .i64 h.wax, .slice aw h.writers.length kw, .slice ac h.customers.length kc]), .slice ad p.length cp] w fun e w' => ∃ v, e = .returned v ∧ SpansV w' v (deSealed h p) ∧ Below w.heap.size w w' := by
  have l1 := hm.okw.len
  have l1c := hm.okw.1
  have l2 := hm.okc.len
  have l2c := hm.okc.1
  have hcc := hc.1
  have hnc := hv.nc
  have hnw := hv.nw
  have HPL := Lib.hid hp.len
  obtain ⟨i, hi', hz, hsz, hby⟩ := info_parts (show (Try.prog.info? 53).map (fun i => (i.zero, i.size, i.bytes)) = some (some (.agg #[.int .i64 0, .int .i64 0]), 2, 16) by kernel_rfl)
  have hmk : ∀ W : World, (Instr.makeSlice 30 (.int .i64 (h.customers.length : Int)) (.int .i64 (h.customers.length : Int))).run Try.prog W = .ok (.slice (some ⟨W.heap.size, 0, none⟩) h.customers.length h.customers.length) (W.alloc (.cells (madeCells #[.int .i64 0, .int .i64 0] (h.customers.length * 2)) 53)) := fun W => by
    have := run_make (P := Try.prog) W 30 53 i (.agg #[.int .i64 0, .int .i64 0]) (by kernel_rfl) hi' hz .i64 .i64 h.customers.length h.customers.length (by omega) (Int.le_refl _) (by rw [hby]; omega) (by omega)
    simp only [Int.toNat_natCast, hsz] at this
    exact this
  clear hi' hz hsz hby
  rw [spanFlat_zero] at hmk
  have hB := Below.refl (w.heap.size + 1) (w.alloc (.cells #[.int .i64 h.wax, .slice aw h.writers.length kw, .slice ac h.customers.length kc] 25))
  have HCL := Lib.hid (fun (V : World) (hq : Below (w.heap.size + 1) (w.alloc (.cells #[.int .i64 h.wax, .slice aw h.writers.length kw, .slice ac h.customers.length kc] 25)) V) => box_hall hq)
  obtain ⟨x0, x1, x2, z0⟩ := box_hall hB
  have hS0 : BlkI ((w.alloc (.cells #[.int .i64 h.wax, .slice aw h.writers.length kw, .slice ac h.customers.length kc] 25)).alloc (.cells ((spanFlat (List.replicate h.customers.length (0, 0))).map (Value.int .i64)).toArray 53)) (w.heap.size + 1) 53 (spanFlat (sealTo h p 0)) := alloc_at _ _ (by simp)
  go_enter Try.func71, Try.ntmps71
  go_wp2
  go_loopw [6] (fun i wr => ∃ u : Nat, u ≤ p.length ∧ i = .int .i64 u ∧ BlkI wr (w.heap.size + 1) 53 (spanFlat (sealTo h p u)) ∧ Below (w.heap.size + 1) (w.alloc (.cells #[.int .i64 h.wax, .slice aw h.writers.length kw, .slice ac h.customers.length kc] 25)) wr) (fun i _ => p.length - (intOf i).toNat)
  case atStart => exact ⟨0, Nat.zero_le _, rfl, hS0, hB.alloc (by simp) _⟩
  case round =>
    clear hS0 x0 x1 x2 z0 hB
    obtain ⟨u, hu, rfl, hS, hb⟩ := hrel
    have hbo := box_old hb
    have hbz := hbo.size
    obtain ⟨x0, x1, x2, z0⟩ := HCL.out _ hb
    by_cases hlt : u < p.length
    · obtain ⟨b1, o1, ar, cr, rfl, -, h1, h2, h3⟩ := hi u hlt
      have g1 := cell_below hbo h1
      have z1 := lt_of_cell g1
      have h2c := h2.1
      have h2l := h2.len
      obtain ⟨b2, o2, e2, -, k0, k1, k2, k3⟩ := hm.writers u (by have := HPL.out; omega)
      have q2 := cell_below hbo k2
      have q3 := cell_below hbo k3
      have z2 := lt_of_cell q2
      have huc : (u : Int) < p.length := by omega
      have huwn : u < h.writers.length := by have := HPL.out; omega
      have huw : (u : Int) < h.writers.length := by omega
      have ew : writerAt h u = h.writers[u] := by unfold writerAt; rw [List.getElem?_eq_getElem huwn]; rfl
      have HS0 := Lib.hid (spanIn_zero h p u)
      rw [ew] at HS0
      clear k0 k1 k2 k3 ew
      generalize h.writers[u].lo = slo at q2 HS0
      generalize h.writers[u].hi = shi at q3 HS0
      have SB := Lib.hid (fun k => spanIn_bd hv hp hlt k)
      have SN := Lib.hid (fun k hk => spanIn_next (h := h) hlt (k := k) hk)
      have LN := Lib.hid (fun k hk => sealIn_next (h := h) hlt (k := k) hk)
      have LL := Lib.hid (fun k => sealIn_len h p u k)
      have HPI := Lib.hid (fun (k : Nat) (hk : k < p[u].length) => plan_idx hp p[u] (List.getElem_mem hlt) p[u][k] (List.getElem_mem hk))
      have LR := Lib.hid (sealIn_row (h := h) hlt)
      obtain ⟨Y, hY⟩ : ∃ Y : World, Y = wr.alloc (.cells #[.int .i64 slo, .int .i64 shi] 53) := ⟨_, rfl⟩
      have hwz : w.heap.size + 1 ≤ wr.heap.size := by have := hb.size; simpa using this
      have hYb : Below (w.heap.size + 1) (w.alloc (.cells #[.int .i64 h.wax, .slice aw h.writers.length kw, .slice ac h.customers.length kc] 25)) Y := by rw [hY]; exact hb.alloc hwz _
      have hYs : BlkI Y wr.heap.size 53 [(spanIn h p u 0).1, (spanIn h p u 0).2] := by rw [hY, HS0.out]; exact alloc_at _ _ rfl
      have hYl : BlkI Y (w.heap.size + 1) 53 (spanFlat (sealIn h p u 0)) := by rw [hY, sealIn_zero]; exact hS.same (heap_alloc_old _ _ hS.lt)
      have hne : w.heap.size + 1 ≠ wr.heap.size := by have := hS.lt; omega
      have HKE := Lib.hid hm
      have HRC := Lib.hid (fun (V : World) (hq : Below (w.heap.size + 1) (w.alloc (.cells #[.int .i64 h.wax, .slice aw h.writers.length kw, .slice ac h.customers.length kc] 25)) V) => cell_below (box_old hq) h1)
      subst e2
      go_upto_region 6 with (fail)
      rw [← hY]
      clear hY hS q2 q3 z2 x0 x1 x2 z0 g1 z1 hb hbo
      go_wp2
      go_loopw [8] (fun i V => ∃ k : Nat, k ≤ p[u].length ∧ i = .int .i64 k ∧ BlkI V (w.heap.size + 1) 53 (spanFlat (sealIn h p u k)) ∧ BlkI V wr.heap.size 53 [(spanIn h p u k).1, (spanIn h p u k).2] ∧ Below (w.heap.size + 1) (w.alloc (.cells #[.int .i64 h.wax, .slice (some ⟨b2, o2, none⟩) h.writers.length kw, .slice ac h.customers.length kc] 25)) V) (fun i _ => p[u].length - (intOf i).toNat)
      case atStart => exact ⟨0, Nat.zero_le _, rfl, hYl, hYs, hYb⟩
      case round =>
        rename World => V
        clear hYl hYs hYb
        obtain ⟨k, hk, rfl, hL, hS, hB⟩ := hrel
        have hBo := box_old hB
        have hBz : w.heap.size + 1 ≤ V.heap.size := by have := hB.size; simpa using this
        obtain ⟨x0, x1, x2, z0⟩ := HCL.out _ hB
        have g1 := HRC.out _ hB
        have z1 := lt_of_cell g1
        by_cases hlk : k < p[u].length
        · have hkc : (k : Int) < cr := by omega
          have hkl : (k : Int) < p[u].length := by omega
          have hx := h3 k hlk
          have hpi := HPI.out k hlk
          have HLN := Lib.hid (LN.out k hlk)
          have HSN := SN.out k hlk
          have hsb := SB.out k
          have hll := LL.out k
          generalize p[u][k] = x at hx hpi HLN HSN
          obtain ⟨c, rfl⟩ : ∃ c : Nat, x = c := ⟨x.toNat, by omega⟩
          rw [Int.toNat_natCast] at HLN HSN
          have hcn : c < h.customers.length := by omega
          have hci : (c : Int) < h.customers.length := by omega
          obtain ⟨bx, ox, ex, hbx, hx1⟩ := hx
          have hcs := customer_ship hv hcn
          have hcl := hv.cust hcn
          have hwx := hv.wax
          have ec : customerAt h c = h.customers[c] := by unfold customerAt; rw [List.getElem?_eq_getElem hcn]; rfl
          obtain ⟨b3, o3, e3, -, -, -, k2, k3, -⟩ := HKE.out.custs c hcn
          rw [ec] at hcs hcl HSN
          have q2 := cell_below hBo k2
          have q3 := cell_below hBo k3
          have z2 := lt_of_cell q2
          have qx := cell_below hBo hx1
          have zx := lt_of_cell qx
          clear ec
          generalize h.customers[c].lo = tlo at k2 q2 hcs hcl HSN
          generalize h.customers[c].hi = thi at k3 q3 hcs hcl HSN
          rw [HSN] at HLN
          generalize spanIn h p u k = s at hS hsb HSN HLN
          obtain ⟨sa, sb⟩ := s
          simp only at hS hsb HSN HLN
          generalize sealIn h p u k = L at hL hll HLN
          have hlf : (spanFlat L).length = 2 * h.customers.length := by rw [spanFlat_len, hll]
          have HFS := Lib.hid (spanFlat_set L c (sa + tlo + h.wax) (sb + thi + h.wax) (by omega))
          have HRN : Hid ((sa + tlo + h.wax, sb + thi + h.wax) = spanIn h p u (k + 1)) := Lib.hid HSN.symm
          have HRC2 := Lib.hid (fun (A : World) (hq : Below V.heap.size V A) => (⟨(hq.block _ z1), hB.trans (hq.mono hBz), hS.same (hq.block _ hS.lt), hL.same (hq.block _ hL.lt)⟩ : A.heap[b1]? = V.heap[b1]? ∧ _ ∧ _ ∧ _))
          clear HSN
          subst e3
          subst ex
          go_upto_region 9 with (fail)
          apply wp_mid _ (fun W => Below V.heap.size V W ∧ BlkI W V.heap.size 53 [tlo, thi])
          · (focus go_region)
            all_goals exact ⟨rfl, (by (repeat' (first | assumption | exact Below.refl _ _ | refine below_drew' ?_ | refine Below.setCell ?_ (by first | omega | (simp <;> omega)) _ | refine Below.alloc ?_ (by first | omega | (simp <;> omega)) _))), alloc_at V _ rfl⟩
          rintro W ⟨hbW, hT⟩
          obtain ⟨hr0, hBW, hSW, hLW⟩ := HRC2.out W hbW
          have hbz3 := hbW.size
          have hzr := hS.lt
          clear hS x0 x1 x2 z0 g1 z1 q2 q3 z2 qx zx hL hBo
          have hzV : V.heap.size < W.heap.size := hT.lt
          obtain ⟨x0, x1, x2, z0⟩ := HCL.out _ hBW
          have s0 := hSW.cell 0 (by simp)
          have s1 := hSW.cell 1 (by simp)
          have t0 := hT.cell 0 (by simp)
          have t1 := hT.cell 1 (by simp)
          simp only [List.getElem_cons_zero, List.getElem_cons_succ] at s0 s1 t0 t1
          have f0 := hSW.free 0
          have f1 := hSW.free 1
          have zs := hSW.lt
          go_upto_region 11 with (fail)
          obtain ⟨Z, hZ⟩ : ∃ Z : World, Z = (W.setCell ⟨wr.heap.size, 0, none⟩ (.int .i64 (sa + tlo + h.wax))).setCell ⟨wr.heap.size, 1, none⟩ (.int .i64 (sb + thi + h.wax)) := ⟨_, rfl⟩
          rw [← hZ]
          have hBZ : Below (w.heap.size + 1) (w.alloc (.cells #[.int .i64 h.wax, .slice (some ⟨b2, o2, none⟩) h.writers.length kw, .slice (some ⟨b3, o3, none⟩) h.customers.length kc] 25)) Z := by rw [hZ]; exact (hBW.setCell hwz _).setCell hwz _
          have hSZ : BlkI Z wr.heap.size 53 [sa + tlo + h.wax, sb + thi + h.wax] := by rw [hZ]; exact (hSW.set 0 _).set 1 _
          have hLZ : BlkI Z (w.heap.size + 1) 53 (spanFlat L) := by rw [hZ]; exact (hLW.same (Below.heap_setCell _ _ _ _ hne)).same (Below.heap_setCell _ _ _ _ hne)
          clear hZ hSW hLW s0 s1 t0 t1 f0 f1 zs hT hbW hr0 x0 x1 x2 z0
          have g1 := HRC.out _ hBZ
          have z1 := lt_of_cell g1
          have qx := cell_below (box_old hBZ) hx1
          have zx := lt_of_cell qx
          have s0 := hSZ.cell 0 (by simp)
          have s1 := hSZ.cell 1 (by simp)
          simp only [List.getElem_cons_zero, List.getElem_cons_succ] at s0 s1
          have zs := hSZ.lt
          have zl := hLZ.lt
          have e0 := hLZ.free (c * 2)
          have e1 := hLZ.free (c * 2 + 1)
          have d0 := hLZ.cell (c * 2) (by omega)
          have d1 := hLZ.cell (c * 2 + 1) (by omega)
          apply wp_mid _ (fun X => BlkI X (w.heap.size + 1) 53 (spanFlat (sealIn h p u (k + 1))) ∧ BlkI X wr.heap.size 53 [sa + tlo + h.wax, sb + thi + h.wax] ∧ Below (w.heap.size + 1) (w.alloc (.cells #[.int .i64 h.wax, .slice (some ⟨b2, o2, none⟩) h.writers.length kw, .slice (some ⟨b3, o3, none⟩) h.customers.length kc] 25)) X)
          · (focus go_region)
            all_goals
              refine ⟨rfl, ?_, ?_, ?_⟩
              · have h9 := (hLZ.set (c * 2) (sa + tlo + h.wax)).set (c * 2 + 1) (sb + thi + h.wax)
                rw [HLN.out, ← HFS.out]
                exact h9
              · exact (hSZ.same (Below.heap_setCell _ _ _ _ (Ne.symm hne))).same (Below.heap_setCell _ _ _ _ (Ne.symm hne))
              · exact below_drew' ((hBZ.setCell (Nat.le_refl _) _).setCell (Nat.le_refl _) _)
          rintro X ⟨hLX, hSX, hBX⟩
          go_wp2
          go_roundw
          case rel => exact ⟨k + 1, by omega, by go_num, hLX, by rw [← HRN.out]; exact hSX, hBX⟩
          case measure => simp [intOf]; omega
        · obtain rfl : k = p[u].length := by omega
          rw [LR.out] at hL
          go_wp2
          go_roundw
          case rel => exact ⟨u + 1, by omega, by go_num, hL, hB⟩
          case measure => simp [intOf]; omega
    · obtain rfl : u = p.length := by omega
      have e : sealTo h p p.length = deSealed h p := by unfold sealTo deSealed; rw [List.take_length]
      rw [e] at hS
      have HL := Lib.hid (sealed_len h p)
      go_wp2
      go_ret
      exact ⟨.slice (some ⟨w.heap.size + 1, 0, none⟩) h.customers.length h.customers.length, rfl, ⟨some ⟨w.heap.size + 1, 0, none⟩, h.customers.length, by rw [HL.out], ⟨by rw [HL.out]; exact Nat.le_refl _, by omega, by simp⟩, spans_blk hS⟩, hbo⟩
end Go.Proofs.Ytchnpekgmkhacaa
namespace Go.Proofs.Ytchnpekgmkhacaa
open Go Go.RowKit Go.Shelf

set_option maxRecDepth 100000 in
set_option maxHeartbeats 2000000 in
theorem DREnds_any (aw ac : Option Addr) (kw kc : Nat) (h : DeH) (ad : Option Addr) (p : List (List Int)) (cp : Nat) (w : World) (hm : HallC w aw ac kw kc h) (hc : SlOk ad p.length cp) (hsz : p.flatten.length ≤ 1048576) (hi : RowsC w ad p) :
    Calls Try.prog 19 #[(.agg #[.int .i64 h.wax, .slice aw h.writers.length kw, .slice ac h.customers.length kc]), .slice ad p.length cp] w fun e w' => ∃ v, e = .returned (.tuple #[v, .int .i64 (deEnds h p).2]) ∧ SpansV w' v (deEnds h p).1 ∧ Below w.heap.size w w' := by
  have hQ := Below.refl (w.heap.size + 1) (w.alloc (.cells #[.int .i64 h.wax, .slice aw h.writers.length kw, .slice ac h.customers.length kc] 25))
  have hbX := box_old hQ
  have PN := DRPlan_any aw ac kw kc h ad p cp (w.alloc (.cells #[.int .i64 h.wax, .slice aw h.writers.length kw, .slice ac h.customers.length kc] 25)) (hm.mono hbX) hc hsz (hi.mono hbX)
  have HP := Lib.hid (fun e => plan_of_err (h := h) (p := p) e)
  have HY := Lib.hid (fun (e : dePlanErr h p = 0) => show deEnds h p = (deSealed h p, 0) by unfold deEnds; rw [if_pos e])
  have HN := Lib.hid (fun (e : dePlanErr h p ≠ 0) => show deEnds h p = ([], dePlanErr h p) by unfold deEnds; rw [if_neg e])
  generalize dePlanErr h p = er at PN HP HY HN
  generalize deEnds h p = res at HY HN ⊢
  replace PN := Lib.hid PN
  have HBN := Lib.hid (fun (V V' : World) (hq : Below (w.heap.size + 1) (w.alloc (.cells #[.int .i64 h.wax, .slice aw h.writers.length kw, .slice ac h.customers.length kc] 25)) V) (hq2 : Below V.heap.size V V') => hq.trans (hq2.mono (by have := hq.size; simp at this; omega)))
  have HCL := Lib.hid (fun (V : World) (hq : Below (w.heap.size + 1) (w.alloc (.cells #[.int .i64 h.wax, .slice aw h.writers.length kw, .slice ac h.customers.length kc] 25)) V) => box_hall hq)
  obtain ⟨x0, x1, x2, z0⟩ := box_hall hQ
  by_cases her : er = 0
  · obtain ⟨hv, hp⟩ := HP.out her
    replace HY := HY.out her
    have g1 := nei_f her
    clear her HN HP
    have SL := Lib.hid (fun (W : World) (hb : Below w.heap.size w W) => DRSealed_any aw ac kw kc h ad p cp W (hm.mono hb) hv hp hc (hi.mono hb))
    go_enter Try.func19, Try.ntmps19
    go_wp2_with (first
      | (go_at_call 71; have hh := hQ2; go_must ((with_reducible refine (SL.out _ (box_old hQ2)).mono ?_); rintro e w3 ⟨v3, rfl, hS, hb3⟩; have hQ3 := HBN.out _ _ hQ2 hb3; dsimp only))
      | (go_at_call 38; go_must ((with_reducible refine PN.out.mono ?_); rintro e w2 ⟨rfl, hb2⟩; have hQ2 := HBN.out _ _ hQ hb2; (obtain ⟨x0, x1, x2, z0⟩ := HCL.out _ hQ2); dsimp only)))
    go_ret2
    subst HY
    exact ⟨v3, rfl, hS, box_old hQ3⟩
  · replace HN := HN.out her
    have g1 := nei_t her
    clear her HY HP
    go_enter Try.func19, Try.ntmps19
    go_wp2_with (go_at_call 38; go_must ((with_reducible refine PN.out.mono ?_); rintro e w2 ⟨rfl, hb2⟩; have hQ2 := HBN.out _ _ hQ hb2; dsimp only))
    go_ret2
    subst HN
    exact ⟨.slice none 0 0, rfl, ⟨none, 0, rfl, ⟨by simp, by omega, fun _ => rfl⟩, fun i hi => absurd hi (Nat.not_lt_zero i)⟩, box_old hQ2⟩

set_option maxRecDepth 100000 in
set_option maxHeartbeats 2000000 in
theorem DRDoes_any (aw ac : Option Addr) (kw kc : Nat) (h : DeH) (ad : Option Addr) (p : List (List Int)) (cp : Nat) (w : World) (hm : HallC w aw ac kw kc h) (hv : DeValid h) (hp : PlanOk h h.customers.length p) (hc : SlOk ad p.length cp) (hi : RowsC w ad p) :
    Calls Try.prog 43 #[(.agg #[.int .i64 h.wax, .slice aw h.writers.length kw, .slice ac h.customers.length kc]), .slice ad p.length cp] w fun e w' => e = .returned (.int .i64 (deDoes h p)) ∧ Below w.heap.size w w' := by
  have hQ := Below.refl (w.heap.size + 1) (w.alloc (.cells #[.int .i64 h.wax, .slice aw h.writers.length kw, .slice ac h.customers.length kc] 25))
  have hbX := box_old hQ
  have SL := DRSealed_any aw ac kw kc h ad p cp (w.alloc (.cells #[.int .i64 h.wax, .slice aw h.writers.length kw, .slice ac h.customers.length kc] 25)) (hm.mono hbX) hv hp hc (hi.mono hbX)
  have HBN := Lib.hid (fun (V V' : World) (hq : Below (w.heap.size + 1) (w.alloc (.cells #[.int .i64 h.wax, .slice aw h.writers.length kw, .slice ac h.customers.length kc] 25)) V) (hq2 : Below V.heap.size V V') => hq.trans (hq2.mono (by have := hq.size; simp at this; omega)))
  have HCL := Lib.hid (fun (V : World) (hq : Below (w.heap.size + 1) (w.alloc (.cells #[.int .i64 h.wax, .slice aw h.writers.length kw, .slice ac h.customers.length kc] 25)) V) => box_hall hq)
  obtain ⟨x0, x1, x2, z0⟩ := box_hall hQ
  have l2c := hm.okc.1
  have hnc := hv.nc
  have hln := sealed_len h p
  have HD : Hid (deDoes h p = doesFrom h 0 ((deSealed h p).drop 0) 1) := Lib.hid rfl
  generalize deDoes h p = dr at HD ⊢
  generalize deSealed h p = S at SL HD hln
  replace SL := Lib.hid SL
  have HLN := Lib.hid hln
  have HST := Lib.hid (fun k out hk => does_step h S k out hk)
  have HDN := Lib.hid (fun out => does_done h S out)
  clear hln
  go_enter Try.func43, Try.ntmps43
  go_wp2_with (go_at_call 71; go_must ((with_reducible refine SL.out.mono ?_); rintro e w3 ⟨v3, rfl, ⟨a3, c3, rfl, o3, hS⟩, hb3⟩; have hQ3 := HBN.out _ _ hQ hb3; dsimp only))
  have o3l := o3.len
  have o3c := o3.1
  go_loopw [6, 7] (fun f i wr => ∃ (k : Nat) (out : Int), k ≤ S.length ∧ i = .int .i64 k ∧ f = .int .i64 out ∧ Below w3.heap.size w3 wr ∧ Hid (dr = doesFrom h k (S.drop k) out)) (fun _ i _ => S.length - (intOf i).toNat)
  case atStart => exact ⟨0, 1, Nat.zero_le _, rfl, rfl, Below.refl _ _, HD⟩
  case round =>
    clear x0 x1 x2 z0
    obtain ⟨k, out, hk, rfl, rfl, hb, HR⟩ := hrel
    have hQr := HBN.out _ _ hQ3 hb
    obtain ⟨x0, x1, x2, z0⟩ := HCL.out _ hQr
    by_cases hlt : k < S.length
    · have hkn : k < h.customers.length := by have := HLN.out; omega
      have HS := Lib.hid ((HR.out).trans (HST.out k out hlt))
      obtain ⟨b1, o1, e1, hb1, h1, h2⟩ := (hS.mono hb) k hlt
      obtain ⟨b2, o2, e2, hb2, -, -, -, -, k4⟩ := hm.custs k hkn
      have q4 := cell_below (box_old hQr) k4
      have z4 := lt_of_cell q4
      have hkc : (k : Int) < kc := by omega
      have hks : (k : Int) < S.length := by omega
      have hkc3 : (k : Int) < c3 := by omega
      have ec : (customerAt h k).ship = h.customers[k].ship := by unfold customerAt; rw [List.getElem?_eq_getElem hkn]; rfl
      rw [ec] at HS
      clear ec k4
      generalize h.customers[k].ship = sh at q4 HS
      generalize S[k] = s at h1 h2 HS
      obtain ⟨sa, sb⟩ := s
      simp only at h1 h2 HS
      have HBO := Lib.hid (fun nq => box_old (below_drewN' hQr nq))
      have HB3 := Lib.hid (fun nq => below_drewN' hb nq)
      clear hm hi
      subst e1
      subst e2
      by_cases ha : sh < sa
      · replace HS := Lib.hid (HS.out.trans (if_pos ha))
        go_upto_region 6 with (fail)
        go_quiet (fail)
        go_wp2
        go_ret
        exact ⟨ret_int HS.out.symm, HBO.out _⟩
      · replace HS := Lib.hid (HS.out.trans (if_neg ha))
        by_cases hbb : sh < sb
        · rw [if_pos hbb] at HS
          go_upto_region 6 with (fail)
          go_quiet (fail)
          go_wp2
          go_quiet (fail)
          go_wp2
          go_roundw
          case rel => exact ⟨k + 1, 0, by omega, by go_num, rfl, (by first | exact HB3.out _ | (rw [World.drewN_drewN]; exact HB3.out _)), HS⟩
          case measure => simp [intOf]; omega
        · rw [if_neg hbb] at HS
          go_upto_region 6 with (fail)
          go_quiet (fail)
          go_wp2
          go_quiet (fail)
          go_wp2
          go_roundw
          case rel => exact ⟨k + 1, out, by omega, by go_num, rfl, (by first | exact HB3.out _ | (rw [World.drewN_drewN]; exact HB3.out _)), HS⟩
          case measure => simp [intOf]; omega
    · obtain rfl : k = S.length := by omega
      have hd := HR.out.trans (HDN.out out)
      subst hd
      go_wp2
      go_ret
      exact ⟨rfl, box_old hQr⟩
end Go.Proofs.Ytchnpekgmkhacaa
namespace Go.Proofs.Ytchnpekgmkhacaa
open Go Go.RowKit Go.Shelf

set_option maxRecDepth 100000 in
set_option maxHeartbeats 2000000 in
theorem DRFate_any (aw ac : Option Addr) (kw kc : Nat) (h : DeH) (ad : Option Addr) (p : List (List Int)) (cp : Nat) (w : World) (hm : HallC w aw ac kw kc h) (hc : SlOk ad p.length cp) (hsz : p.flatten.length ≤ 1048576) (hi : RowsC w ad p) :
    Calls Try.prog 22 #[(.agg #[.int .i64 h.wax, .slice aw h.writers.length kw, .slice ac h.customers.length kc]), .slice ad p.length cp] w fun e w' => e = .returned (.tuple #[.int .i64 (deFate h p).1, .int .i64 (deFate h p).2]) ∧ Below w.heap.size w w' := by
  have hQ := Below.refl (w.heap.size + 1) (w.alloc (.cells #[.int .i64 h.wax, .slice aw h.writers.length kw, .slice ac h.customers.length kc] 25))
  have hbX := box_old hQ
  have PN := DRPlan_any aw ac kw kc h ad p cp (w.alloc (.cells #[.int .i64 h.wax, .slice aw h.writers.length kw, .slice ac h.customers.length kc] 25)) (hm.mono hbX) hc hsz (hi.mono hbX)
  have HP := Lib.hid (fun e => plan_of_err (h := h) (p := p) e)
  have HY := Lib.hid (fun (e : dePlanErr h p = 0) => show deFate h p = (deDoes h p, 0) by unfold deFate; rw [if_pos e])
  have HN := Lib.hid (fun (e : dePlanErr h p ≠ 0) => show deFate h p = (0, dePlanErr h p) by unfold deFate; rw [if_neg e])
  generalize dePlanErr h p = er at PN HP HY HN
  generalize deFate h p = res at HY HN ⊢
  replace PN := Lib.hid PN
  have HBN := Lib.hid (fun (V V' : World) (hq : Below (w.heap.size + 1) (w.alloc (.cells #[.int .i64 h.wax, .slice aw h.writers.length kw, .slice ac h.customers.length kc] 25)) V) (hq2 : Below V.heap.size V V') => hq.trans (hq2.mono (by have := hq.size; simp at this; omega)))
  have HCL := Lib.hid (fun (V : World) (hq : Below (w.heap.size + 1) (w.alloc (.cells #[.int .i64 h.wax, .slice aw h.writers.length kw, .slice ac h.customers.length kc] 25)) V) => box_hall hq)
  obtain ⟨x0, x1, x2, z0⟩ := box_hall hQ
  by_cases her : er = 0
  · obtain ⟨hv, hp⟩ := HP.out her
    replace HY := HY.out her
    have g1 := nei_f her
    clear her HN HP
    have SL := Lib.hid (fun (W : World) (hb : Below w.heap.size w W) => DRDoes_any aw ac kw kc h ad p cp W (hm.mono hb) hv hp hc (hi.mono hb))
    go_enter Try.func22, Try.ntmps22
    go_wp2_with (first
      | (go_at_call 43; have hh := hQ2; go_must ((with_reducible refine (SL.out _ (box_old hQ2)).mono ?_); rintro e w3 ⟨rfl, hb3⟩; have hQ3 := HBN.out _ _ hQ2 hb3; dsimp only))
      | (go_at_call 38; go_must ((with_reducible refine PN.out.mono ?_); rintro e w2 ⟨rfl, hb2⟩; have hQ2 := HBN.out _ _ hQ hb2; (obtain ⟨x0, x1, x2, z0⟩ := HCL.out _ hQ2); dsimp only)))
    go_ret2
    subst HY
    exact ⟨rfl, box_old hQ3⟩
  · replace HN := HN.out her
    have g1 := nei_t her
    clear her HY HP
    go_enter Try.func22, Try.ntmps22
    go_wp2_with (go_at_call 38; go_must ((with_reducible refine PN.out.mono ?_); rintro e w2 ⟨rfl, hb2⟩; have hQ2 := HBN.out _ _ hQ hb2; dsimp only))
    go_ret2
    subst HN
    exact ⟨rfl, box_old hQ2⟩

def overTo (S : List (Int × Int)) (k : Nat) : Int := (S.take k).foldl (fun n s => max n s.2) 0
theorem overTo_succ {S : List (Int × Int)} {k : Nat} (hk : k < S.length) : overTo S (k + 1) = max (overTo S k) S[k].2 := by
  unfold overTo
  rw [List.take_succ_eq_append_getElem hk, List.foldl_append]
  rfl
set_option maxRecDepth 100000 in
set_option maxHeartbeats 2000000 in
theorem DROver_any (aw ac : Option Addr) (kw kc : Nat) (h : DeH) (ad : Option Addr) (p : List (List Int)) (cp : Nat) (w : World) (hm : HallC w aw ac kw kc h) (hv : DeValid h) (hp : PlanOk h h.customers.length p) (hc : SlOk ad p.length cp) (hi : RowsC w ad p) :
    Calls Try.prog 44 #[(.agg #[.int .i64 h.wax, .slice aw h.writers.length kw, .slice ac h.customers.length kc]), .slice ad p.length cp] w fun e w' => e = .returned (.int .i64 (deOver h p)) ∧ Below w.heap.size w w' := by
  have hQ := Below.refl (w.heap.size + 1) (w.alloc (.cells #[.int .i64 h.wax, .slice aw h.writers.length kw, .slice ac h.customers.length kc] 25))
  have hbX := box_old hQ
  have SL := DRSealed_any aw ac kw kc h ad p cp (w.alloc (.cells #[.int .i64 h.wax, .slice aw h.writers.length kw, .slice ac h.customers.length kc] 25)) (hm.mono hbX) hv hp hc (hi.mono hbX)
  have HBN := Lib.hid (fun (V V' : World) (hq : Below (w.heap.size + 1) (w.alloc (.cells #[.int .i64 h.wax, .slice aw h.writers.length kw, .slice ac h.customers.length kc] 25)) V) (hq2 : Below V.heap.size V V') => hq.trans (hq2.mono (by have := hq.size; simp at this; omega)))
  obtain ⟨x0, x1, x2, z0⟩ := box_hall hQ
  have hnc := hv.nc
  have hln := sealed_len h p
  have HD : Hid (deOver h p = overTo (deSealed h p) (deSealed h p).length) := Lib.hid (by unfold overTo; rw [List.take_length]; rfl)
  generalize deOver h p = dr at HD ⊢
  generalize deSealed h p = S at SL HD hln
  replace SL := Lib.hid SL
  have HST := Lib.hid (fun k hk => overTo_succ (S := S) (k := k) hk)
  clear hln hm hi
  go_enter Try.func44, Try.ntmps44
  go_wp2_with (go_at_call 71; go_must ((with_reducible refine SL.out.mono ?_); rintro e w3 ⟨v3, rfl, ⟨a3, c3, rfl, o3, hS⟩, hb3⟩; have hQ3 := HBN.out _ _ hQ hb3; dsimp only))
  have o3l := o3.len
  have o3c := o3.1
  go_loopw [6, 7] (fun f i wr => ∃ (k : Nat), k ≤ S.length ∧ i = .int .i64 k ∧ f = .int .i64 (overTo S k) ∧ wr = w3) (fun _ i _ => S.length - (intOf i).toNat)
  case atStart => exact ⟨0, Nat.zero_le _, rfl, rfl, rfl⟩
  case round =>
    clear x0 x1 x2 z0
    obtain ⟨k, hk, rfl, rfl, rfl⟩ := hrel
    by_cases hlt : k < S.length
    · have hst := HST.out k hlt
      obtain ⟨b1, o1, e1, hb1, h1, h2⟩ := hS k hlt
      have HSS := Lib.hid hS
      clear hS
      have hkc3 : (k : Int) < c3 := by omega
      generalize S[k] = s at h1 h2 hst
      obtain ⟨sa, sb⟩ := s
      simp only at h1 h2 hst
      generalize overTo S k = n at hst ⊢
      subst e1
      by_cases hmx : n < sb
      · have hst2 := Lib.hid (hst.trans (show max n sb = sb by omega))
        clear hst
        go_wp2
        all_goals
          go_roundw
          case rel => exact ⟨k + 1, by omega, by go_num, by rw [hst2.out], by trivial⟩
          case measure => simp [intOf]; omega
      · have hst2 := Lib.hid (hst.trans (show max n sb = n by omega))
        clear hst
        go_wp2
        all_goals
          go_roundw
          case rel => exact ⟨k + 1, by omega, by go_num, by rw [hst2.out], by trivial⟩
          case measure => simp [intOf]; omega
    · obtain rfl : k = S.length := by omega
      have hd := HD.out
      subst hd
      go_wp2
      go_ret
      exact ⟨rfl, box_old hQ3⟩
end Go.Proofs.Ytchnpekgmkhacaa
namespace Go.Proofs.Ytchnpekgmkhacaa
open Go Go.RowKit Go.Shelf

set_option maxRecDepth 100000 in
set_option maxHeartbeats 4000000 in
theorem DRLate_any (aw ac : Option Addr) (kw kc : Nat) (h : DeH) (ad : Option Addr) (p : List (List Int)) (cp : Nat) (w : World) (hm : HallC w aw ac kw kc h) (hc : SlOk ad p.length cp) (hsz : p.flatten.length ≤ 1048576) (hi : RowsC w ad p) :
    Calls Try.prog 25 #[(.agg #[.int .i64 h.wax, .slice aw h.writers.length kw, .slice ac h.customers.length kc]), .slice ad p.length cp] w fun e w' => e = .returned (.tuple #[.int .i64 (deLate h p).1, .int .i64 (deLate h p).2]) ∧ Below w.heap.size w w' := by
  have hQ := Below.refl (w.heap.size + 1) (w.alloc (.cells #[.int .i64 h.wax, .slice aw h.writers.length kw, .slice ac h.customers.length kc] 25))
  have hbX := box_old hQ
  have PN := DRPlan_any aw ac kw kc h ad p cp (w.alloc (.cells #[.int .i64 h.wax, .slice aw h.writers.length kw, .slice ac h.customers.length kc] 25)) (hm.mono hbX) hc hsz (hi.mono hbX)
  have HP := Lib.hid (fun e => plan_of_err (h := h) (p := p) e)
  have HY0 := Lib.hid (fun (e : dePlanErr h p = 0) hn => deLate_none e hn)
  have HY1 := Lib.hid (fun (e : dePlanErr h p = 0) (c : Nat) hn => deLate_some e (c := c) hn)
  have HN := Lib.hid (fun (e : dePlanErr h p ≠ 0) => show deLate h p = (0, dePlanErr h p) by unfold deLate; rw [if_neg e])
  generalize dePlanErr h p = er at PN HP HY0 HY1 HN
  generalize deLate h p = res at HY0 HY1 HN ⊢
  replace PN := Lib.hid PN
  have HBN := Lib.hid (fun (V V' : World) (hq : Below (w.heap.size + 1) (w.alloc (.cells #[.int .i64 h.wax, .slice aw h.writers.length kw, .slice ac h.customers.length kc] 25)) V) (hq2 : Below V.heap.size V V') => hq.trans (hq2.mono (by have := hq.size; simp at this; omega)))
  have HCL := Lib.hid (fun (V : World) (hq : Below (w.heap.size + 1) (w.alloc (.cells #[.int .i64 h.wax, .slice aw h.writers.length kw, .slice ac h.customers.length kc] 25)) V) => box_hall hq)
  obtain ⟨x0, x1, x2, z0⟩ := box_hall hQ
  by_cases her : er = 0
  · obtain ⟨hv, hp⟩ := HP.out her
    replace HY0 := Lib.hid (HY0.out her)
    replace HY1 := Lib.hid (HY1.out her)
    have g1 := nei_f her
    clear her HN HP
    have SL := Lib.hid (fun (W : World) (hb : Below w.heap.size w W) => DRSealed_any aw ac kw kc h ad p cp W (hm.mono hb) hv hp hc (hi.mono hb))
    have l2c := hm.okc.1
    have hnc := hv.nc
    have hln := sealed_len h p
    generalize deSealed h p = S at SL HY0 HY1 hln
    have HLN := Lib.hid hln
    have HST := Lib.hid (fun k out hk => late_next h S k out hk)
    have HDN := Lib.hid (fun out => late_end h S out)
    clear hln
    obtain ⟨r1, r2⟩ := res
    obtain ⟨dr, hdr⟩ : ∃ dr, dr = lateFrom h 0 (S.drop 0) none := ⟨_, rfl⟩
    simp only [← hdr] at HY0 HY1
    have HD := Lib.hid hdr
    clear hdr
    go_enter Try.func25, Try.ntmps25
    go_wp2_with (first
      | (go_at_call 71; have hh := hQ2; go_must ((with_reducible refine (SL.out _ (box_old hQ2)).mono ?_); rintro e w3 ⟨v3, rfl, ⟨a3, c3, rfl, o3, hS⟩, hb3⟩; have hQ3 := HBN.out _ _ hQ2 hb3; dsimp only))
      | (go_at_call 38; go_must ((with_reducible refine PN.out.mono ?_); rintro e w2 ⟨rfl, hb2⟩; have hQ2 := HBN.out _ _ hQ hb2; (obtain ⟨x0, x1, x2, z0⟩ := HCL.out _ hQ2); dsimp only)))
    have o3l := o3.len
    have o3c := o3.1
    go_loopw [8, 9] (fun f i wr => ∃ (k : Nat) (out : Option Nat), k ≤ S.length ∧ i = .int .i64 k ∧ f = .int .i64 (lateI out) ∧ (∀ c, out = some c → c < S.length) ∧ Below w3.heap.size w3 wr ∧ Hid (dr = lateFrom h k (S.drop k) out)) (fun _ i _ => S.length - (intOf i).toNat)
    case atStart => exact ⟨0, none, Nat.zero_le _, rfl, rfl, (fun c e => by cases e), Below.refl _ _, HD⟩
    case round =>
      clear x0 x1 x2 z0
      obtain ⟨k, out, hk, rfl, rfl, hof, hb, HR⟩ := hrel
      have hQr := HBN.out _ _ hQ3 hb
      obtain ⟨x0, x1, x2, z0⟩ := HCL.out _ hQr
      by_cases hlt : k < S.length
      · have hkn : k < h.customers.length := by have := HLN.out; omega
        have HS := Lib.hid ((HR.out).trans (HST.out k out hlt))
        obtain ⟨b1, o1, e1, hb1, h1, h2⟩ := (hS.mono hb) k hlt
        obtain ⟨b2, o2, e2, -, -, -, -, -, k4⟩ := hm.custs k hkn
        have q4 := cell_below (box_old hQr) k4
        have z4 := lt_of_cell q4
        have hkc : (k : Int) < kc := by omega
        have hks : (k : Int) < S.length := by omega
        have hkc3 : (k : Int) < c3 := by omega
        have ec : (customerAt h k).ship = h.customers[k].ship := by unfold customerAt; rw [List.getElem?_eq_getElem hkn]; rfl
        clear k4
        generalize h.customers[k].ship = sh at q4 ec
        generalize S[k] = s at h1 h2 HS
        obtain ⟨sa, sb⟩ := s
        simp only at h1 h2
        have HB3 := Lib.hid (fun nq => below_drewN' hb nq)
        by_cases ha : sh < sb
        · cases out with
          | none =>
            have HL : Hid (lateStep h k (sa, sb) none = some k) := Lib.hid (by unfold lateStep lateB; rw [ec, decide_eq_true (show sh < (sa, sb).2 from ha)]; rfl)
            rw [HL.out] at HS
            have hm1 : (-1 : Int) < 0 := by omega
            simp only [lateI]
            clear ec hm hi
            subst e1
            subst e2
            go_upto_region 9 with (fail)
            go_quiet (fail)
            go_wp2
            go_roundw
            case rel => exact ⟨k + 1, some k, by omega, by go_num, rfl, fun c e => by cases e; exact hlt, HB3.out _, HS⟩
            case measure => simp [intOf]; omega
          | some f =>
            have hfl := hof f rfl
            have hfn : f < h.customers.length := by have := HLN.out; omega
            obtain ⟨b2', o2', e3, -, -, -, -, -, k5⟩ := hm.custs f hfn
            rw [e2] at e3
            cases e3
            have q5 := cell_below (box_old hQr) k5
            have z5 := lt_of_cell q5
            have ef : (customerAt h f).ship = h.customers[f].ship := by unfold customerAt; rw [List.getElem?_eq_getElem hfn]; rfl
            clear k5
            generalize h.customers[f].ship = sf at q5 ef
            have hfi : (f : Int) < kc := by omega
            have hfi2 : (f : Int) < h.customers.length := by omega
            have hf0 : ¬ ((f : Int) < 0) := by omega
            simp only [lateI]
            by_cases hsf : sh < sf
            · have HL : Hid (lateStep h k (sa, sb) (some f) = some k) := Lib.hid (by rw [lateStep_some, ec, ef, decide_eq_true (show sh < (sa, sb).2 from ha), decide_eq_true hsf]; rfl)
              rw [HL.out] at HS
              clear ec ef hm hi
              subst e1
              subst e2
              go_upto_region 9 with (fail)
              go_quiet (fail)
              go_wp2
              go_roundw
              case rel => exact ⟨k + 1, some k, by omega, by go_num, rfl, fun c e => by cases e; exact hlt, HB3.out _, HS⟩
              case measure => simp [intOf]; omega
            · have HL : Hid (lateStep h k (sa, sb) (some f) = some f) := Lib.hid (by rw [lateStep_some, ec, ef, decide_eq_false hsf, Bool.and_false, if_neg (by simp)])
              rw [HL.out] at HS
              clear ec ef hm hi
              subst e1
              subst e2
              go_upto_region 9 with (fail)
              go_quiet (fail)
              go_wp2
              go_roundw
              case rel => exact ⟨k + 1, some f, by omega, by go_num, rfl, hof, HB3.out _, HS⟩
              case measure => simp [intOf]; omega
        · have HL : Hid (lateStep h k (sa, sb) out = out) := Lib.hid (by unfold lateStep; rw [ec, decide_eq_false (show ¬ sh < (sa, sb).2 from ha), Bool.false_and, if_neg (by simp)])
          rw [HL.out] at HS
          clear ec hm hi
          subst e1
          subst e2
          go_upto_region 9 with (fail)
          go_quiet (fail)
          go_wp2
          go_roundw
          case rel => exact ⟨k + 1, out, by omega, by go_num, rfl, hof, HB3.out _, HS⟩
          case measure => simp [intOf]; omega
      · obtain rfl : k = S.length := by omega
        have hd := HR.out.trans (HDN.out out)
        cases out with
        | none =>
          have hm1 : (-1 : Int) < 0 := by omega
          have hr := HY0.out hd
          simp only [lateI]
          go_wp2
          go_ret2
          obtain ⟨rfl, rfl⟩ := Prod.mk.inj hr
          exact ⟨rfl, box_old hQr⟩
        | some f =>
          have hf0 : ¬ ((f : Int) < 0) := by omega
          have hr := HY1.out f hd
          simp only [lateI]
          go_wp2
          go_ret2
          obtain ⟨rfl, rfl⟩ := Prod.mk.inj hr
          exact ⟨rfl, box_old hQr⟩
  · replace HN := HN.out her
    have g1 := nei_t her
    clear her HY0 HY1 HP
    go_enter Try.func25, Try.ntmps25
    go_wp2_with (go_at_call 38; go_must ((with_reducible refine PN.out.mono ?_); rintro e w2 ⟨rfl, hb2⟩; have hQ2 := HBN.out _ _ hQ hb2; dsimp only))
    go_ret2
    subst HN
    exact ⟨rfl, box_old hQ2⟩
end Go.Proofs.Ytchnpekgmkhacaa
