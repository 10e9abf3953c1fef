/- What is proved here: the contract of the reference's Check of layer 9. Condition: the hall lies in memory. -/
/- What is proved here: the contract of the reference's Can of layer 9. Condition: the hall lies in memory and is valid. -/
/- What is proved here: a map that the call has made, as the list of its entries; a store of a new key; a range over it, in whatever order. Over any program. -/
/- What is proved here: a look-up, with ok, in a map that is known as the list of its entries. Over any program. -/
/- What is proved here: how far a plan is, as a value; what the search remembers. No condition. -/
import Derived.Test.YtelmponkmmfffaaGreatDrAG
import Derived.Test.YtelmponkmmfffaaGreatBlkG
import Derived.Maps.OwnIn
import Derived.Maps.RangeWalk
import Derived.DeepKeys5
import Derived.Carry
import Derived.Maps.OwnOps
import Derived.Test.YtelmponkmmfffaaGreatCmpG
import Derived.WideKeyArr
set_option linter.unusedVariables false
set_option linter.unusedSimpArgs false
namespace Go.Proofs.YtelmponkmmfffaaGreat
open Go Go.RowKit Go.Shelf

theorem box_hall {w W : World} {aw ac : Option Addr} {kw kc : Nat} {h : DeH} (hq : Below (w.heap.size + 1) (w.alloc (.cells #[.int .i64 h.wax, .slice aw h.writers.length kw, .slice ac h.customers.length kc] 28)) W) : W.cell? ⟨w.heap.size, 0, none⟩ = some (.int .i64 h.wax) ∧ W.cell? ⟨w.heap.size, 1, none⟩ = some (.slice aw h.writers.length kw) ∧ W.cell? ⟨w.heap.size, 2, none⟩ = some (.slice ac h.customers.length kc) ∧ w.heap.size < W.heap.size :=
  ⟨box_cell hq 0 _ rfl, box_cell hq 1 _ rfl, box_cell hq 2 _ rfl, box_size hq⟩
set_option maxRecDepth 100000 in
set_option maxHeartbeats 4000000 in
theorem DRCheck_any (aw ac : Option Addr) (kw kc : Nat) (h : DeH) (w : World) (hm : HallC w aw ac kw kc h) :
    Calls Tryz.prog 5 #[(.agg #[.int .i64 h.wax, .slice aw h.writers.length kw, .slice ac h.customers.length kc])] w fun e w' => e = .returned (.tuple #[.int .i64 (deCheck h).1, .int .i64 (deCheck h).2.1, .int .i64 (deCheck h).2.2]) ∧ Below w.heap.size w w' := by
  have R0 : Hid (deCheck h = if inB h.wax 0 5 then checkPart 2 h.writers.length 3 (deWErr h) (checkPart 3 h.customers.length 5 (deCErr h) (0, 0, 0)) else (1, 0, 7)) := Lib.hid rfl
  have l1 := hm.okw.len
  have l2 := hm.okc.len
  generalize deCheck h = res at R0 ⊢
  have C0 := fun W => In_any h.wax 0 5 W
  generalize inB h.wax 0 5 = b0 at C0 R0
  replace C0 := Lib.hid C0
  have hB := Below.refl (w.heap.size + 1) (w.alloc (.cells #[.int .i64 h.wax, .slice aw h.writers.length kw, .slice ac h.customers.length kc] 28))
  obtain ⟨x0, x1, x2, z0⟩ := box_hall hB
  go_enter Tryz.func5, Tryz.ntmps5
  cases b0
  · have R := R0.out
    simp only [Bool.false_eq_true, if_false] at R
    subst R
    go_wp2_with (go_at_call 14; go_must ((with_reducible refine (C0.out _).mono ?_); rintro e w' ⟨rfl, rfl⟩; dsimp only))
    go_ret3
    exact ⟨rfl, box_old hB⟩
  have R1 := Lib.hid (R0.out.trans (if_pos rfl))
  clear R0
  by_cases g1 : 3 < h.writers.length
  · have R := R1.out.trans (checkPart_long g1)
    subst R
    go_wp2_with (go_at_call 14; go_must ((with_reducible refine (C0.out _).mono ?_); rintro e w' ⟨rfl, rfl⟩; dsimp only))
    go_ret3
    exact ⟨rfl, box_old hB⟩
  go_wp2_with (go_at_call 14; go_must ((with_reducible refine (C0.out _).mono ?_); rintro e w' ⟨rfl, rfl⟩; dsimp only))
  go_loopw [5, 6] (fun o i wr => ∃ k : Nat, k ≤ h.writers.length ∧ i = .int .i64 k ∧ wr.ownsRow (w.heap.size + 1) 9 1 o k (((h.writers.take k).map (·.name)).map Value.string) ∧ Hid (∀ i, i < k → deWErr h i = 0) ∧ Below (w.heap.size + 1) (w.alloc (.cells #[.int .i64 h.wax, .slice aw h.writers.length kw, .slice ac h.customers.length kc] 28)) wr) (fun _ i _ => h.writers.length - (intOf i).toNat)
  case atStart => exact ⟨0, Nat.zero_le _, rfl, World.ownsRow_nil _ _ _ _, Lib.hid (fun i h => absurd h (Nat.not_lt_zero i)), hB⟩
  case round =>
    clear hB x0 x1 x2 z0
    obtain ⟨k, hk, rfl, hown, HZ, hB⟩ := hrel
    obtain ⟨x0, x1, x2, z0⟩ := box_hall hB
    by_cases hlt : k < h.writers.length
    · obtain ⟨b, off, ha, hb, h1, h2, h3, h4⟩ := hm.writers k hlt
      have HCL := Lib.hid (fun (V : World) (hq : Below (w.heap.size + 1) (w.alloc (.cells #[.int .i64 h.wax, .slice aw h.writers.length kw, .slice ac h.customers.length kc] 28)) V) => box_hall hq)
      have HCW := Lib.hid (fun (V : World) (hq : Below (w.heap.size + 1) (w.alloc (.cells #[.int .i64 h.wax, .slice aw h.writers.length kw, .slice ac h.customers.length kc] 28)) V) => (⟨cell_below (box_old hq) h1, cell_below (box_old hq) h2, cell_below (box_old hq) h3, cell_below (box_old hq) h4, Nat.lt_of_lt_of_le hb (box_old hq).size⟩ : V.cell? ⟨b, off + k * 4, none⟩ = some (.string h.writers[k].name) ∧ V.cell? ⟨b, off + k * 4 + 1, none⟩ = some (.int .i64 h.writers[k].kinds) ∧ V.cell? ⟨b, off + k * 4 + 2, none⟩ = some (.int .i64 h.writers[k].lo) ∧ V.cell? ⟨b, off + k * 4 + 3, none⟩ = some (.int .i64 h.writers[k].hi) ∧ b < V.heap.size))
      have hcap := hm.okw.1
      have hsz := hm.wsize _ (List.getElem_mem hlt)
      have HE : Hid (deWErr h k = if fresh h.writers[k].name ((h.writers.take k).map (·.name)) = 0 then deWErrOf h.writers[k] else fresh h.writers[k].name ((h.writers.take k).map (·.name))) := by show deWErr h k = _; simp [deWErr, hlt]
      have HM2 := Lib.hid hm
      have HBN := Lib.hid (fun (V V' : World) (hq : Below (w.heap.size + 1) (w.alloc (.cells #[.int .i64 h.wax, .slice aw h.writers.length kw, .slice ac h.customers.length kc] 28)) V) (hq2 : Below V.heap.size V V') => hq.trans (hq2.mono (by have := hq.size; simp at this; omega)))
      have hnm : Hid (((h.writers.take (k + 1)).map (·.name)) = ((h.writers.take k).map (·.name)) ++ [h.writers[k].name]) := Lib.hid (by rw [List.take_succ_eq_append_getElem hlt, List.map_append]; rfl)
      have hbz := hB.size
      obtain ⟨-, a3, c3, rfl, hs3, hi3⟩ := strs_own hown
      have hll : ((h.writers.take k).map (·.name)).length = k := by simp; omega
      have F := fun W hi => Fresh_any h.writers[k].name a3 ((h.writers.take k).map (·.name)) c3 W hsz (by omega) hi
      rw [hll] at hown F ⊢
      have HOW := Lib.hid hown
      generalize ((h.writers.take k).map (·.name)) = nms at HE hnm HOW hi3 F
      have RW := fun W => RWriterE_any h.writers[k] W
      generalize deWErrOf h.writers[k] = eo at HE RW
      generalize h.writers[k] = x at HE hnm h1 h2 h3 h4 F RW hsz HCW
      generalize fresh x.name nms = fe at HE F
      have F := Lib.hid (F wr hi3)
      have RW := Lib.hid RW
      clear hown hi3 hs3 hm hll
      subst ha
      have HAP := Lib.hid (fun (V : World) (hg : (wr.alloc (.cells #[.string x.name] 9)).grownBy V (Value.ownBlock (.slice a3 k c3))) => app_next hB (by simp) (Nat.le_refl _) HOW.out hg)
      obtain ⟨y1, y2, y3, y4, yz⟩ := HCW.out wr hB
      by_cases hfe : fe = 0
      · have e1 := eqi_t hfe
        replace HE := Lib.hid (HE.out.trans (if_pos hfe))
        by_cases heo : eo = 0
        · have e2 := nei_f heo
          go_wp2_with (first | (go_at_call 17; go_must ((with_reducible refine (RW.out _).mono ?_); rintro e w4 ⟨rfl, hb4⟩; have hB4 := HBN.out _ _ hB3 hb4; (obtain ⟨x0, x1, x2, z0⟩ := HCL.out _ hB4); dsimp only)) | (at_builtin; go_must (refine wpList_app (.tmp 33) (.tmp 40) E_str rfl rfl rfl rfl (w.heap.size + 1) k 1 (nms.map Value.string) [.string x.name] (HOW.out.alloc _) (SrcAt.one _ _ _ rfl) (by omega) (by decide) (by simp at hbz ⊢; omega) ?_; intro v3 w3 ho3 hg3 _; have hB3 := HAP.out _ hg3; (obtain ⟨x0, x1, x2, z0⟩ := HCL.out _ hB3); (obtain ⟨y1, y2, y3, y4, yz⟩ := HCW.out _ hB3); clear hg3; simp only [Act.put, List.setIfInBounds_toArray, List.set_cons_succ, List.set_cons_zero])) | (go_at_call 15; go_must ((with_reducible refine F.out.mono ?_); rintro e w2 ⟨rfl, rfl⟩; dsimp only)))
          go_roundw
          case rel => exact ⟨k + 1, by omega, by go_num, by rw [hnm.out, List.map_append]; exact own_below ho3 hb4, Lib.hid (fun i hi => if h : i < k then HZ.out i h else by rw [show i = k from by omega, HE.out]; exact heo), hB4⟩
          case measure => simp [intOf]; omega
        · have e2 := nei_t heo
          go_wp2_with (first | (go_at_call 17; go_must ((with_reducible refine (RW.out _).mono ?_); rintro e w4 ⟨rfl, hb4⟩; have hB4 := HBN.out _ _ hB3 hb4; (obtain ⟨x0, x1, x2, z0⟩ := HCL.out _ hB4); dsimp only)) | (at_builtin; go_must (refine wpList_app (.tmp 33) (.tmp 40) E_str rfl rfl rfl rfl (w.heap.size + 1) k 1 (nms.map Value.string) [.string x.name] (HOW.out.alloc _) (SrcAt.one _ _ _ rfl) (by omega) (by decide) (by simp at hbz ⊢; omega) ?_; intro v3 w3 ho3 hg3 _; have hB3 := HAP.out _ hg3; (obtain ⟨x0, x1, x2, z0⟩ := HCL.out _ hB3); (obtain ⟨y1, y2, y3, y4, yz⟩ := HCW.out _ hB3); clear hg3; simp only [Act.put, List.setIfInBounds_toArray, List.set_cons_succ, List.set_cons_zero])) | (go_at_call 15; go_must ((with_reducible refine F.out.mono ?_); rintro e w2 ⟨rfl, rfl⟩; dsimp only)))
          go_ret3
          have R := R1.out.trans (checkPart_err (by omega) hlt HZ.out (by rw [HE.out]; exact heo))
          rw [HE.out] at R
          subst R
          exact ⟨rfl, box_old hB4⟩
      · have e1 := eqi_f hfe
        have e2 := nei_t hfe
        replace HE := Lib.hid (HE.out.trans (if_neg hfe))
        go_wp2_with (first | (at_builtin; go_must (refine wpList_app (.tmp 33) (.tmp 40) E_str rfl rfl rfl rfl (w.heap.size + 1) k 1 (nms.map Value.string) [.string x.name] (HOW.out.alloc _) (SrcAt.one _ _ _ rfl) (by omega) (by decide) (by simp at hbz ⊢; omega) ?_; intro v3 w3 ho3 hg3 _; have hB3 := HAP.out _ hg3; (obtain ⟨x0, x1, x2, z0⟩ := HCL.out _ hB3); (obtain ⟨y1, y2, y3, y4, yz⟩ := HCW.out _ hB3); clear hg3; simp only [Act.put, List.setIfInBounds_toArray, List.set_cons_succ, List.set_cons_zero])) | (go_at_call 15; go_must ((with_reducible refine F.out.mono ?_); rintro e w2 ⟨rfl, rfl⟩; dsimp only)))
        go_ret3
        have R := R1.out.trans (checkPart_err (by omega) hlt HZ.out (by rw [HE.out]; exact hfe))
        rw [HE.out] at R
        subst R
        exact ⟨rfl, box_old hB3⟩
    · have R2 := Lib.hid (R1.out.trans (checkPart_ok (by omega) (fun i hi => HZ.out i (by omega))))
      clear R1 hown
      by_cases g2 : 5 < h.customers.length
      · have R := R2.out.trans (checkPart_long g2)
        subst R
        go_wp2
        go_ret3
        exact ⟨rfl, box_old hB⟩
      go_wp2
      go_loopw [5, 8] (fun o i wr => ∃ k : Nat, k ≤ h.customers.length ∧ i = .int .i64 k ∧ wr.ownsRow (w.heap.size + 1) 9 1 o k (((h.customers.take k).map (·.name)).map Value.string) ∧ Hid (∀ i, i < k → deCErr h i = 0) ∧ Below (w.heap.size + 1) (w.alloc (.cells #[.int .i64 h.wax, .slice aw h.writers.length kw, .slice ac h.customers.length kc] 28)) wr) (fun _ i _ => h.customers.length - (intOf i).toNat)
      case atStart => exact ⟨0, Nat.zero_le _, rfl, World.ownsRow_nil _ _ _ _, Lib.hid (fun i h => absurd h (Nat.not_lt_zero i)), hB⟩
      case round =>
        clear hB x0 x1 x2 z0 HZ
        obtain ⟨k, hk, rfl, hown, HZ, hB⟩ := hrel
        obtain ⟨x0, x1, x2, z0⟩ := box_hall hB
        by_cases hlt : k < h.customers.length
        · obtain ⟨b, off, ha, hb, h1, h2, h3, h4, h5⟩ := hm.custs k hlt
          have HCL := Lib.hid (fun (V : World) (hq : Below (w.heap.size + 1) (w.alloc (.cells #[.int .i64 h.wax, .slice aw h.writers.length kw, .slice ac h.customers.length kc] 28)) V) => box_hall hq)
          have HCW := Lib.hid (fun (V : World) (hq : Below (w.heap.size + 1) (w.alloc (.cells #[.int .i64 h.wax, .slice aw h.writers.length kw, .slice ac h.customers.length kc] 28)) V) => (⟨cell_below (box_old hq) h1, cell_below (box_old hq) h2, cell_below (box_old hq) h3, cell_below (box_old hq) h4, cell_below (box_old hq) h5, Nat.lt_of_lt_of_le hb (box_old hq).size⟩ : V.cell? ⟨b, off + k * 5, none⟩ = some (.string h.customers[k].name) ∧ V.cell? ⟨b, off + k * 5 + 1, none⟩ = some (.int .i64 h.customers[k].kind) ∧ V.cell? ⟨b, off + k * 5 + 2, none⟩ = some (.int .i64 h.customers[k].lo) ∧ V.cell? ⟨b, off + k * 5 + 3, none⟩ = some (.int .i64 h.customers[k].hi) ∧ V.cell? ⟨b, off + k * 5 + 4, none⟩ = some (.int .i64 h.customers[k].ship) ∧ b < V.heap.size))
          have hcap := hm.okc.1
          have hsz := hm.csize _ (List.getElem_mem hlt)
          have HE : Hid (deCErr h k = if fresh h.customers[k].name ((h.customers.take k).map (·.name)) = 0 then deCErrOf h.customers[k] else fresh h.customers[k].name ((h.customers.take k).map (·.name))) := by show deCErr h k = _; simp [deCErr, hlt]
          have HM2 := Lib.hid hm
          have HBN := Lib.hid (fun (V V' : World) (hq : Below (w.heap.size + 1) (w.alloc (.cells #[.int .i64 h.wax, .slice aw h.writers.length kw, .slice ac h.customers.length kc] 28)) V) (hq2 : Below V.heap.size V V') => hq.trans (hq2.mono (by have := hq.size; simp at this; omega)))
          have hnm : Hid (((h.customers.take (k + 1)).map (·.name)) = ((h.customers.take k).map (·.name)) ++ [h.customers[k].name]) := Lib.hid (by rw [List.take_succ_eq_append_getElem hlt, List.map_append]; rfl)
          have hbz := hB.size
          obtain ⟨-, a3, c3, rfl, hs3, hi3⟩ := strs_own hown
          have hll : ((h.customers.take k).map (·.name)).length = k := by simp; omega
          have F := fun W hi => Fresh_any h.customers[k].name a3 ((h.customers.take k).map (·.name)) c3 W hsz (by omega) hi
          rw [hll] at hown F ⊢
          have HOW := Lib.hid hown
          generalize ((h.customers.take k).map (·.name)) = nms at HE hnm HOW hi3 F
          have RW := fun W => RCustE_any h.customers[k] W
          generalize deCErrOf h.customers[k] = eo at HE RW
          generalize h.customers[k] = x at HE hnm h1 h2 h3 h4 h5 F RW hsz HCW
          generalize fresh x.name nms = fe at HE F
          have F := Lib.hid (F wr hi3)
          have RW := Lib.hid RW
          clear hown hi3 hs3 hm hll
          subst ha
          have HAP := Lib.hid (fun (V : World) (hg : (wr.alloc (.cells #[.string x.name] 9)).grownBy V (Value.ownBlock (.slice a3 k c3))) => app_next hB (by simp) (Nat.le_refl _) HOW.out hg)
          obtain ⟨y1, y2, y3, y4, y5, yz⟩ := HCW.out wr hB
          by_cases hfe : fe = 0
          · have e1 := eqi_t hfe
            replace HE := Lib.hid (HE.out.trans (if_pos hfe))
            by_cases heo : eo = 0
            · have e2 := nei_f heo
              go_wp2_with (first | (go_at_call 18; go_must ((with_reducible refine (RW.out _).mono ?_); rintro e w4 ⟨rfl, hb4⟩; have hB4 := HBN.out _ _ hB3 hb4; (obtain ⟨x0, x1, x2, z0⟩ := HCL.out _ hB4); dsimp only)) | (at_builtin; go_must (refine wpList_app (.tmp 73) (.tmp 80) E_str rfl rfl rfl rfl (w.heap.size + 1) k 1 (nms.map Value.string) [.string x.name] (HOW.out.alloc _) (SrcAt.one _ _ _ rfl) (by omega) (by decide) (by simp at hbz ⊢; omega) ?_; intro v3 w3 ho3 hg3 _; have hB3 := HAP.out _ hg3; (obtain ⟨x0, x1, x2, z0⟩ := HCL.out _ hB3); (obtain ⟨y1, y2, y3, y4, y5, yz⟩ := HCW.out _ hB3); clear hg3; simp only [Act.put, List.setIfInBounds_toArray, List.set_cons_succ, List.set_cons_zero])) | (go_at_call 15; go_must ((with_reducible refine F.out.mono ?_); rintro e w2 ⟨rfl, rfl⟩; dsimp only)))
              go_roundw
              case rel => exact ⟨k + 1, by omega, by go_num, by rw [hnm.out, List.map_append]; exact own_below ho3 hb4, Lib.hid (fun i hi => if h : i < k then HZ.out i h else by rw [show i = k from by omega, HE.out]; exact heo), hB4⟩
              case measure => simp [intOf]; omega
            · have e2 := nei_t heo
              go_wp2_with (first | (go_at_call 18; go_must ((with_reducible refine (RW.out _).mono ?_); rintro e w4 ⟨rfl, hb4⟩; have hB4 := HBN.out _ _ hB3 hb4; (obtain ⟨x0, x1, x2, z0⟩ := HCL.out _ hB4); dsimp only)) | (at_builtin; go_must (refine wpList_app (.tmp 73) (.tmp 80) E_str rfl rfl rfl rfl (w.heap.size + 1) k 1 (nms.map Value.string) [.string x.name] (HOW.out.alloc _) (SrcAt.one _ _ _ rfl) (by omega) (by decide) (by simp at hbz ⊢; omega) ?_; intro v3 w3 ho3 hg3 _; have hB3 := HAP.out _ hg3; (obtain ⟨x0, x1, x2, z0⟩ := HCL.out _ hB3); (obtain ⟨y1, y2, y3, y4, y5, yz⟩ := HCW.out _ hB3); clear hg3; simp only [Act.put, List.setIfInBounds_toArray, List.set_cons_succ, List.set_cons_zero])) | (go_at_call 15; go_must ((with_reducible refine F.out.mono ?_); rintro e w2 ⟨rfl, rfl⟩; dsimp only)))
              go_ret3
              have R := R2.out.trans (checkPart_err (by omega) hlt HZ.out (by rw [HE.out]; exact heo))
              rw [HE.out] at R
              subst R
              exact ⟨rfl, box_old hB4⟩
          · have e1 := eqi_f hfe
            have e2 := nei_t hfe
            replace HE := Lib.hid (HE.out.trans (if_neg hfe))
            go_wp2_with (first | (at_builtin; go_must (refine wpList_app (.tmp 73) (.tmp 80) E_str rfl rfl rfl rfl (w.heap.size + 1) k 1 (nms.map Value.string) [.string x.name] (HOW.out.alloc _) (SrcAt.one _ _ _ rfl) (by omega) (by decide) (by simp at hbz ⊢; omega) ?_; intro v3 w3 ho3 hg3 _; have hB3 := HAP.out _ hg3; (obtain ⟨x0, x1, x2, z0⟩ := HCL.out _ hB3); (obtain ⟨y1, y2, y3, y4, y5, yz⟩ := HCW.out _ hB3); clear hg3; simp only [Act.put, List.setIfInBounds_toArray, List.set_cons_succ, List.set_cons_zero])) | (go_at_call 15; go_must ((with_reducible refine F.out.mono ?_); rintro e w2 ⟨rfl, rfl⟩; dsimp only)))
            go_ret3
            have R := R2.out.trans (checkPart_err (by omega) hlt HZ.out (by rw [HE.out]; exact hfe))
            rw [HE.out] at R
            subst R
            exact ⟨rfl, box_old hB3⟩
        · have R3 := Lib.hid (R2.out.trans (checkPart_ok (by omega) (fun i hi => HZ.out i (by omega))))
          clear R2 hown
          have R := R3.out
          subst R
          go_wp2
          go_ret3
          exact ⟨rfl, box_old hB⟩
end Go.Proofs.YtelmponkmmfffaaGreat
namespace Go.Proofs.YtelmponkmmfffaaGreat
open Go Go.RowKit Go.Shelf

set_option maxRecDepth 100000 in
set_option maxHeartbeats 1000000 in
theorem DRCan_any (aw ac : Option Addr) (kw kc : Nat) (h : DeH) (i c : Nat) (w : World) (hm : HallC w aw ac kw kc h) (hv : DeValid h) (hi : i < h.writers.length) (hc : c < h.customers.length) :
    Calls Tryz.prog 59 #[(.agg #[.int .i64 h.wax, .slice aw h.writers.length kw, .slice ac h.customers.length kc]), .int .i64 (i : Int), .int .i64 (c : Int)] w fun e w' => e = .returned (.bool (canD h i c)) ∧ Below w.heap.size w w' := by
  have hB := Below.refl (w.heap.size + 1) (w.alloc (.cells #[.int .i64 h.wax, .slice aw h.writers.length kw, .slice ac h.customers.length kc] 28))
  obtain ⟨x0, x1, x2, z0⟩ := box_hall hB
  obtain ⟨bw, ow, ew, hbw, h1, h2, h3, h4⟩ := hm.writers i hi
  obtain ⟨bc, oc, ec, hbc, g1, g2, g3, g4, g5⟩ := hm.custs c hc
  have hwv := hv.w i hi
  have hcv := hv.c c hc
  have hcw := hm.okw.1
  have hcc := hm.okc.1
  have hnw := hv.nw
  have hnc := hv.nc
  have HR : Hid (canD h i c = bitB h.writers[i].kinds h.customers[c].kind.toNat) := Lib.hid (by unfold canD writerAt customerAt; simp [hi, hc])
  generalize canD h i c = res at HR ⊢
  have y2 := cell_below (box_old hB) h2
  have u2 := cell_below (box_old hB) g2
  generalize h.writers[i] = x at HR y2 hwv
  generalize h.customers[c] = y at HR u2 hcv
  have F := fun W => Bit_any x.kinds y.kind W (by omega) (by omega) (by omega) (by omega)
  rw [← HR.out] at F
  clear h1 h2 h3 h4 g1 g2 g3 g4 g5 HR
  have F := Lib.hid F
  clear hm
  subst ew
  subst ec
  have hi2 : (i : Int) < kw := by omega
  have hc2 : (c : Int) < kc := by omega
  go_enter Tryz.func59, Tryz.ntmps59
  go_upto_region 1 with (fail)
  go_quiet ((go_at_call 111; exact Calls.quiet_of_same (F.out _)))
  go_wp2
  go_ret
  exact ⟨rfl, box_old (below_drewN' hB _)⟩
end Go.Proofs.YtelmponkmmfffaaGreat
namespace Go.Proofs.YtelmponkmmfffaaGreat
open Go Go.RowKit Go.ChangeMaps Go.MapKept
open Go.Maps (Keyed)

/-- Block b is a map whose entries are, in the order in which they were made, T. -/
def MapV (w : World) (P : Program) (k : TypeId) (b : Nat) (T : List (Value × Value)) : Prop :=
  ∃ es clock, w.heap[b]? = some (.map es clock) ∧ Stamped es clock ∧ (∀ e ∈ es.toList, ∃ l, keyOf P k e.key = some l) ∧ es.toList.map (fun e => (e.key, e.val)) = T

/-- A range over it is under way (block r); what is still to come is rem. -/
def RngV (w : World) (P : Program) (k : TypeId) (b r : Nat) (T rem : List (Value × Value)) : Prop :=
  ∃ es clock since seen c0, w.heap[b]? = some (.map es clock) ∧ Stamped es clock ∧ (∀ e ∈ es.toList, ∃ l, keyOf P k e.key = some l) ∧ es.toList.map (fun e => (e.key, e.val)) = T ∧
    w.heap[r]? = some (.mapIter (some b) since seen c0) ∧ (∀ x ∈ es.toList, x.born < since) ∧ since ≤ c0 ∧ since ≤ clock ∧ ((leftOf es seen).toList.map (fun e => (e.key, e.val))).Perm rem

variable {P : Program} {k : TypeId} {w : World} {b r : Nat} {T rem : List (Value × Value)}

theorem MapV.lt (h : MapV w P k b T) : b < w.heap.size := by
  obtain ⟨es, clock, hb, _⟩ := h
  exact (Array.getElem?_eq_some_iff.1 hb).1
theorem MapV.same {w' : World} (h : MapV w P k b T) (he : w'.heap[b]? = w.heap[b]?) : MapV w' P k b T := by
  obtain ⟨es, clock, hb, h2⟩ := h
  exact ⟨es, clock, he.trans hb, h2⟩
theorem MapV.kept {w' : World} {row : Option Nat} (h : MapV w P k b T) (hg : w.grownBy w' row) (hne : some b ≠ row) : MapV w' P k b T := h.same (hg.block b h.lt hne)
theorem MapV.below {w' : World} {B : Nat} (h : MapV w P k b T) (hb : Below B w w') (hlt : b < B) : MapV w' P k b T := h.same (hb.block b hlt)
theorem MapV.made (w : World) (P : Program) (k : TypeId) : MapV (w.alloc (.map #[] 0)) P k w.heap.size [] :=
  ⟨#[], 0, (MapKept.heap_alloc w _).1, stamped_empty 0, by simp, rfl⟩
theorem RngV.lt (h : RngV w P k b r T rem) : r < w.heap.size := by
  obtain ⟨es, clock, since, seen, c0, _, _, _, _, hr, _⟩ := h
  exact (Array.getElem?_eq_some_iff.1 hr).1
theorem RngV.map (h : RngV w P k b r T rem) : MapV w P k b T := by
  obtain ⟨es, clock, since, seen, c0, hb, h1, h2, h3, _⟩ := h
  exact ⟨es, clock, hb, h1, h2, h3⟩
theorem RngV.same {w' : World} (h : RngV w P k b r T rem) (he : w'.heap[b]? = w.heap[b]?) (he2 : w'.heap[r]? = w.heap[r]?) : RngV w' P k b r T rem := by
  obtain ⟨es, clock, since, seen, c0, hb, h1, h2, h3, hr, h4⟩ := h
  exact ⟨es, clock, since, seen, c0, he.trans hb, h1, h2, h3, he2.trans hr, h4⟩
theorem RngV.below {w' : World} {B : Nat} (h : RngV w P k b r T rem) (hb : Below B w w') (hlt : b < B) (hlt2 : r < B) : RngV w' P k b r T rem := h.same (hb.block b hlt) (hb.block r hlt2)

/-- 'm[k] = v' at a key that is not there. -/
theorem MapV.update {t e : TypeId} (h : MapV w P k b T) (K : Keyed P k) (ht : P.underlying t = some (.map k e)) (hroom : T.length < maxLen) {key val : Value} {kl : Lit} (hkey : keyOf P k key = some kl) (hnew : ∀ p ∈ T, p.1 ≠ key) :
    ∃ w', (Instr.mapUpdate t (.map (some b)) key val).run P w = .ok () w' ∧ MapV w' P k b (T ++ [(key, val)]) ∧ w.grownBy w' (some b) ∧ w'.heap.size = w.heap.size := by
  obtain ⟨es, clock, hb, hst, hk, rfl⟩ := h
  have hroom' : es.size < maxLen := by simpa using hroom
  rcases K.find w hkey es.toList hk with ⟨h1, h2⟩ | ⟨j, e0, h1, h2, h3⟩
  · refine ⟨setBlock w b (.map (es.push ⟨key, val, clock⟩) (clock + 1)), ?_, ⟨es.push ⟨key, val, clock⟩, clock + 1, heap_setBlock_same hb _, stamped_push hst h2, ?_, by simp⟩, ⟨rfl, rfl, rfl, by simp [setBlock], fun i _ hi => heap_setBlock_other hb _ (fun e => hi (by rw [e]))⟩, by simp [setBlock]⟩
    · simp [Instr.mapUpdate, run_underlying ht, MapKept.run_getObj_map hb, K.check w false hkey, h1, MapKept.run_setObj_map _ hb, Result.andThen, setBlock]
    · intro x hx
      simp only [Array.toList_push, List.mem_append, List.mem_singleton] at hx
      rcases hx with hx | rfl
      · exact hk x hx
      · exact ⟨kl, hkey⟩
  · exact absurd h3 (hnew (e0.key, e0.val) (List.mem_map.2 ⟨e0, List.mem_of_getElem? h2, rfl⟩))

/-- 'range m'. -/
theorem MapV.range {t e : TypeId} (h : MapV w P k b T) (ht : P.underlying t = some (.map k e)) :
    (Instr.range t (.map (some b))).run P w = .ok (.pointer (some ⟨w.heap.size, 0, none⟩)) (w.alloc (.mapIter (some b) ((match w.heap[b]? with | some (.map _ c) => c | _ => 0)) #[] ((match w.heap[b]? with | some (.map _ c) => c | _ => 0)))) ∧
    RngV (w.alloc (.mapIter (some b) ((match w.heap[b]? with | some (.map _ c) => c | _ => 0)) #[] ((match w.heap[b]? with | some (.map _ c) => c | _ => 0)))) P k b w.heap.size T T := by
  have hlt := h.lt
  obtain ⟨es, clock, hb, hst, hk, rfl⟩ := h
  simp only [hb]
  refine ⟨run_range_map w t k e b es clock ht hb, es, clock, clock, #[], clock, ((MapKept.heap_alloc w _).2 b hlt).trans hb, hst, hk, rfl, (MapKept.heap_alloc w _).1, hst.1, Nat.le_refl _, Nat.le_refl _, ?_⟩
  have : leftOf es #[] = es := Array.filter_eq_self.2 (fun x _ => by simp)
  rw [this]
theorem left_step (es : Array MapEntry) (seen : Array Nat) (e : MapEntry) (hn : (es.toList.map (·.born)).Nodup) (he : e ∈ (leftOf es seen).toList) :
    ((leftOf es seen).toList.map (fun e => (e.key, e.val))).Perm ((e.key, e.val) :: (leftOf es (seen.push e.born)).toList.map (fun e => (e.key, e.val))) := by
  have h1 : (leftOf es (seen.push e.born)).toList = (leftOf es seen).toList.filter fun x => x.born != e.born := by
    simp only [leftOf, Array.toList_filter, List.filter_filter]
    apply List.filter_congr
    intro x _
    rw [contains_push]
    cases hx : (x.born == e.born) <;> simp [bne, hx]
  have hn2 : (((leftOf es seen).toList).map (·.born)).Nodup := by
    simp only [leftOf, Array.toList_filter]
    exact (List.Sublist.map _ List.filter_sublist).nodup hn
  rw [h1]
  generalize (leftOf es seen).toList = L at he hn2
  clear h1 hn
  induction L with
  | nil => simp at he
  | cons a L ih =>
    simp only [List.map_cons, List.nodup_cons] at hn2
    rcases List.mem_cons.1 he with rfl | he
    · have : L.filter (fun x => x.born != e.born) = L := List.filter_eq_self.2 fun x hx => by
        have : x.born ≠ e.born := fun h => hn2.1 (List.mem_map.2 ⟨x, hx, h⟩)
        simpa using this
      simp [this]
    · have hne : (a.born != e.born) = true := by
        have : a.born ≠ e.born := fun h => hn2.1 (List.mem_map.2 ⟨e, he, h.symm⟩)
        simpa using this
      have : (a :: L).filter (fun x => x.born != e.born) = a :: L.filter (fun x => x.born != e.born) := List.filter_cons_of_pos hne
      rw [this]
      simp only [List.map_cons]
      exact ((ih he hn2.2).cons _).trans (List.Perm.swap _ _ _)

/-- The step. -/
theorem RngV.next (h : RngV w P k b r T rem) (hne : r ≠ b) (ty : TypeId) :
    (rem = [] ∧ (Instr.next (.pointer (some ⟨r, 0, none⟩)) false ty).run P w = .ok (.tuple #[.bool false]) w) ∨
    ∃ key v rem' w', rem.Perm ((key, v) :: rem') ∧ (Instr.next (.pointer (some ⟨r, 0, none⟩)) false ty).run P w = .ok (.tuple #[.bool true, key, v]) w' ∧
      RngV w' P k b r T rem' ∧ w.grownBy w' (some r) ∧ w'.heap.size = w.heap.size ∧ (Instr.entry (.pointer (some ⟨r, 0, none⟩))).run P w' = .ok (.tuple #[key, v]) w' := by
  obtain ⟨es, clock, since, seen, c0, hb, hst, hk, hT, hr, hold, hsc, hsk, hrem⟩ := h
  have hst2 := (stamped_iff es clock).1 hst
  rcases run_next_at (P := P) w ty r b since c0 seen es clock hr hb hold hsc with ⟨h0, hrun⟩ | ⟨e, he, w1, hal, hrun⟩
  · refine .inl ⟨?_, hrun⟩
    have : leftOf es seen = #[] := Array.eq_empty_of_size_eq_zero h0
    rw [this] at hrem
    exact List.nil_perm.1 hrem
  · obtain ⟨hem, hes⟩ := mem_left he
    have hr1 : w1.heap[r]? = some (.mapIter (some b) since seen c0) := by rcases hal with rfl | rfl <;> exact hr
    have hb1 : w1.heap[b]? = some (.map es clock) := by rcases hal with rfl | rfl <;> exact hb
    have hset := heap_set (o' := .mapIter (some b) since (seen.push e.born) clock) hr1
    have hb' : (setBlock w1 r (.mapIter (some b) since (seen.push e.born) clock)).heap[b]? = some (.map es clock) := (hset.2 b (fun e1 => hne e1.symm)).trans hb1
    refine .inr ⟨e.key, e.val, _, _, ?_, hrun, ⟨es, clock, since, seen.push e.born, clock, hb', hst, hk, hT, hset.1, hold, hsk, hsk, .refl _⟩, ?_, ?_, run_entry_at _ r b since seen es clock e hset.1 hb' hem hst2.2.1⟩
    · refine hrem.symm.trans ?_
      exact left_step es seen e hst2.2.1 he
    · rcases hal with rfl | rfl <;> exact ⟨rfl, rfl, rfl, by simp [setBlock], fun i _ hi => hset.2 i (fun e1 => hi (by rw [e1]))⟩
    · rcases hal with rfl | rfl <;> simp [setBlock]
theorem RngV.ne (h : RngV w P k b r T rem) : r ≠ b := by
  obtain ⟨es, clock, since, seen, c0, hb, _, _, _, hr, _⟩ := h
  intro e
  rw [e, hb] at hr
  cases hr

end Go.Proofs.YtelmponkmmfffaaGreat
namespace Go.Proofs.YtelmponkmmfffaaGreat
open Go Go.RowKit Go.ChangeMaps Go.MapKept
open Go.Maps (Keyed)
variable {P : Program} {k : TypeId} {w : World} {b r : Nat} {T rem : List (Value × Value)}

theorem MapV.lookup {t e : TypeId} (h : MapV w P k b T) (K : Keyed P k) (ht : P.underlying t = some (.map k e)) {key zero : Value} {kl : Lit} (hkey : keyOf P k key = some kl) (hz : (zeroValue e).run P w = .ok zero w) :
    ((∀ p ∈ T, p.1 ≠ key) ∧ (Instr.lookup t (.map (some b)) key true).run P w = .ok (.tuple #[zero, .bool false]) w) ∨ ∃ v, (key, v) ∈ T ∧ (Instr.lookup t (.map (some b)) key true).run P w = .ok (.tuple #[v, .bool true]) w := by
  obtain ⟨es, clock, hb, hst, hk, rfl⟩ := h
  rcases K.find w hkey es.toList hk with ⟨h1, h2⟩ | ⟨j, e0, h1, h2, h3⟩
  · left
    refine ⟨fun p hp => ?_, ?_⟩
    · obtain ⟨e1, he1, rfl⟩ := List.mem_map.1 hp
      exact h2 e1 he1
    · simp [Instr.lookup, run_underlying ht, MapKept.run_getObj_map hb, K.check w _ hkey, h1, hz, Result.andThen]
  · right
    refine ⟨e0.val, List.mem_map.2 ⟨e0, List.mem_of_getElem? h2, by rw [h3]⟩, ?_⟩
    simp [Instr.lookup, run_underlying ht, MapKept.run_getObj_map hb, K.check w _ hkey, h1, Result.andThen]
theorem MapV.lookup_no {t e : TypeId} (h : MapV w P k b T) (K : Keyed P k) (ht : P.underlying t = some (.map k e)) {key zero : Value} {kl : Lit} (hkey : keyOf P k key = some kl) (hz : (zeroValue e).run P w = .ok zero w) (hn : ∀ p ∈ T, p.1 ≠ key) :
    (Instr.lookup t (.map (some b)) key true).run P w = .ok (.tuple #[zero, .bool false]) w := by
  rcases h.lookup K ht hkey hz with ⟨_, h1⟩ | ⟨v, h1, _⟩
  · exact h1
  · exact absurd rfl (hn _ h1)
theorem MapV.lookup_yes {t e : TypeId} (h : MapV w P k b T) (K : Keyed P k) (ht : P.underlying t = some (.map k e)) {key zero v : Value} {kl : Lit} (hkey : keyOf P k key = some kl) (hz : (zeroValue e).run P w = .ok zero w) (hn : ∃ p ∈ T, p.1 = key) (hv : ∀ v', (key, v') ∈ T → v' = v) :
    (Instr.lookup t (.map (some b)) key true).run P w = .ok (.tuple #[v, .bool true]) w := by
  rcases h.lookup K ht hkey hz with ⟨h1, _⟩ | ⟨v', h1, h2⟩
  · obtain ⟨p, hp, he⟩ := hn
    exact absurd he (h1 p hp)
  · rw [hv v' h1] at h2; exact h2
end Go.Proofs.YtelmponkmmfffaaGreat
namespace Go.Proofs.YtelmponkmmfffaaGreat
open Go Go.RowKit

structure StOk (h : DeH) (x : DeSt) : Prop where
  w : x.writer ≤ h.writers.length
  d : x.done < 2 ^ h.customers.length
  len : x.ms.length = 3
  m : ∀ i, 0 ≤ minuteAt x i ∧ minuteAt x i ≤ 240
theorem pow32 {h : DeH} (hv : DeValid h) : 2 ^ h.customers.length ≤ 32 := by
  have := Nat.pow_le_pow_right (n := 2) (by omega) hv.nc
  omega
theorem begin_ok {h : DeH} (hv : DeValid h) : StOk h (beginD h) := by
  refine ⟨Nat.zero_le _, Nat.two_pow_pos _, begin_len h, fun i => ?_⟩
  rw [begin_minute hv.nw]
  split
  · rename_i hi
    have := hv.w i hi
    rw [show writerAt h i = h.writers[i] from by unfold writerAt; rw [List.getElem?_eq_getElem hi]; rfl]
    omega
  · omega
theorem customer_ship {h : DeH} (hv : DeValid h) {c : Nat} (hc : c < h.customers.length) : 0 ≤ (customerAt h c).ship ∧ (customerAt h c).ship ≤ 240 ∧ 1 ≤ (customerAt h c).hi ∧ (customerAt h c).hi ≤ 30 ∧ 0 ≤ (customerAt h c).kind ∧ (customerAt h c).kind ≤ 3 := by
  have := hv.c c hc
  rw [show customerAt h c = h.customers[c] from by unfold customerAt; rw [List.getElem?_eq_getElem hc]; rfl]
  omega
theorem next_ok {h : DeH} (hv : DeValid h) {wm cm : Nat} {x : DeSt} (hx : StOk h x) {y : Int × DeSt} (hy : y ∈ nextD h wm cm x) : StOk h y.2 := by
  by_cases e : x.writer = h.writers.length
  · unfold nextD at hy; rw [if_pos e] at hy; cases hy
  have hxw := hx.w
  rcases (mem_next e).1 hy with rfl | ⟨c, hc, hp, rfl⟩
  · exact ⟨by show x.writer + 1 ≤ _; omega, hx.d, hx.len, hx.m⟩
  · have hnw := hv.nw
    have hlt : x.writer < x.ms.length := by rw [hx.len]; omega
    refine ⟨hxw, ?_, by show (x.ms.set _ _).length = 3; rw [List.length_set]; exact hx.len, fun i => ?_⟩
    · show x.done ||| 2 ^ c < _
      exact Nat.or_lt_two_pow hx.d (Nat.pow_lt_pow_right (by omega) hc)
    · show 0 ≤ minuteAt (nextC h x c) i ∧ minuteAt (nextC h x c) i ≤ 240
      rw [nextC_minute h x c i hlt]
      split
      · have h1 := customer_ship hv hc
        have h2 := hv.wax
        have h3 := hx.m x.writer
        unfold putB at hp
        simp only [Bool.and_eq_true, decide_eq_true_eq] at hp
        have h4 := hp.2
        have h5 : goD h x c = minuteAt x x.writer + (customerAt h c).hi + h.wax := rfl
        omega
      · exact hx.m i
/-- The value. -/
@[reducible] def standV (x : DeSt) : Value := .agg #[.int .i64 (x.writer : Int), .int .i64 (x.done : Int), .int .i64 (minuteAt x 0), .int .i64 (minuteAt x 1), .int .i64 (minuteAt x 2)]
theorem ms_of {x : DeSt} (h : x.ms.length = 3) : x.ms = [minuteAt x 0, minuteAt x 1, minuteAt x 2] := by
  obtain ⟨w, d, ms⟩ := x
  match ms, h with
  | [a, b, c], _ => rfl
theorem stand_inj {h : DeH} {x y : DeSt} (hx : StOk h x) (hy : StOk h y) (e : standV x = standV y) : x = y := by
  simp only [standV, Value.agg.injEq, Array.mk.injEq, List.cons.injEq, Value.int.injEq, true_and, and_true] at e
  obtain ⟨e1, e2, e3, e4, e5⟩ := e
  have h1 := ms_of hx.len
  have h2 := ms_of hy.len
  rw [e3, e4, e5, ← h2] at h1
  obtain ⟨w, d, ms⟩ := x
  obtain ⟨w', d', ms'⟩ := y
  simp only at h1 e1 e2
  rw [h1, show w = w' by omega, show d = d' by omega]
/-- 'over' of a stand. -/
def ovD (h : DeH) (wm cm : Nat) (x : DeSt) : Int := overF h wm cm (leftD h x) x
theorem foldl_congr_mem {α β : Type} {f g : β → α → β} : ∀ (l : List α) (b : β), (∀ x ∈ l, ∀ b, f b x = g b x) → l.foldl f b = l.foldl g b
  | [], _, _ => rfl
  | x :: l, b, h => by
    rw [List.foldl_cons, List.foldl_cons, h x (by simp)]
    exact foldl_congr_mem l _ fun y hy => h y (List.mem_cons_of_mem _ hy)
theorem ovD_eq {h : DeH} {wm cm : Nat} {x : DeSt} (hx : x.writer ≤ h.writers.length) : ovD h wm cm x = (nextD h wm cm x).foldl (fun b y => betterD b (ovD h wm cm y.2)) (baseD h cm x) := by
  unfold ovD
  cases e : leftD h x with
  | zero =>
    have hw : x.writer = h.writers.length := by unfold leftD at e; omega
    have hn : nextD h wm cm x = [] := by unfold nextD; rw [if_pos hw]
    rw [hn]; rfl
  | succ f =>
    show (nextD h wm cm x).foldl (fun b y => betterD b (overF h wm cm f y.2)) (baseD h cm x) = _
    refine foldl_congr_mem _ _ fun y hy b => ?_
    have := next_left hx hy
    rw [over_fuel (f := f) (g := leftD h y.2) this.2 (by omega) (Nat.le_refl _)]
theorem over_ge {h : DeH} {wm cm : Nat} {x : DeSt} (hx : x.writer ≤ h.writers.length) : -1 ≤ ovD h wm cm x := by
  rcases over_spec (wm := wm) (cm := cm) (leftD h x) x hx (Nat.le_refl _) with ⟨e, _⟩ | ⟨h0, _, _⟩
  · unfold ovD; omega
  · unfold ovD; omega
theorem fv_le {h : DeH} {x : DeSt} (hx : StOk h x) : 0 ≤ fvD h x ∧ fvD h x ≤ 240 := by
  obtain ⟨h1, h2, h3⟩ := fv_is h x
  rcases h3 with e | ⟨w, _, _, e⟩
  · omega
  · have := hx.m w; omega
theorem run_ok {h : DeH} (hv : DeValid h) {wm cm : Nat} {x z : DeSt} {s : List Int} (hr : RunD h wm cm x s z) : StOk h x → StOk h z := by
  induction hr with
  | stop => exact fun hx => hx
  | move hy _ ih => exact fun hx => ih (next_ok hv hx hy)
theorem over_le {h : DeH} (hv : DeValid h) {wm cm : Nat} : ∀ (n : Nat) (x : DeSt), StOk h x → leftD h x ≤ n → ovD h wm cm x ≤ 240
  | n, x, hx, hl => by
    rcases over_spec (wm := wm) (cm := cm) (leftD h x) x hx.w (Nat.le_refl _) with ⟨e, _⟩ | ⟨h0, ⟨s, z, hr, _, e⟩, _⟩
    · unfold ovD; omega
    · have := fv_le (run_ok hv hr hx)
      unfold ovD; omega

/-- What a hall remembers: when some stands are over, each once. -/
def MemoD (h : DeH) (wm cm : Nat) (T : List (Value × Value)) : Prop := ∃ E : List DeSt, T = E.map (fun x => (standV x, Value.int .i64 (ovD h wm cm x))) ∧ E.Nodup ∧ ∀ x ∈ E, StOk h x
theorem nodup_below : ∀ (n : Nat) (l : List Nat), l.Nodup → (∀ x ∈ l, x < n) → l.length ≤ n
  | 0, l, _, h => by
    cases l with
    | nil => simp
    | cons a l => exact absurd (h a (by simp)) (by omega)
  | n + 1, l, hn, h => by
    have h1 := nodup_below n (l.filter fun x => decide (x < n)) (List.filter_sublist.nodup hn) (fun x hx => by have := (List.mem_filter.1 hx).2; simpa using this)
    have h2 : (l.filter fun x => !decide (x < n)).length ≤ 1 := by
      have hs : ∀ x ∈ l.filter (fun x => !decide (x < n)), x = n := fun x hx => by
        have h3 := (List.mem_filter.1 hx).2
        have h4 := h x (List.mem_filter.1 hx).1
        simp at h3; omega
      have hd : (l.filter fun x => !decide (x < n)).Nodup := List.filter_sublist.nodup hn
      generalize l.filter (fun x => !decide (x < n)) = m at hs hd
      match m with
      | [] => simp
      | [a] => simp
      | a :: b :: m =>
        have ea := hs a (by simp)
        have eb := hs b (by simp)
        subst ea
        rw [List.nodup_cons] at hd
        exact absurd (by rw [eb]; simp) hd.1
    have h3 := List.length_eq_countP_add_countP (fun x => decide (x < n)) (l := l)
    rw [List.countP_eq_length_filter, List.countP_eq_length_filter] at h3
    have h4 : (l.filter fun x => !decide (x < n)) = l.filter (fun a => decide (¬(decide (a < n)) = true)) := List.filter_congr (fun x _ => by by_cases hx : x < n <;> simp [hx])
    rw [← h4] at h3
    omega
def codeD (x : DeSt) : Nat := (((x.writer * 32 + x.done) * 256 + (minuteAt x 0).toNat) * 256 + (minuteAt x 1).toNat) * 256 + (minuteAt x 2).toNat
theorem code_lt {h : DeH} (hv : DeValid h) {x : DeSt} (hx : StOk h x) : codeD x < 2147483648 := by
  have h1 := hx.w
  have h2 := hx.d
  have h3 := pow32 hv
  have h4 := hv.nw
  have m0 := hx.m 0
  have m1 := hx.m 1
  have m2 := hx.m 2
  unfold codeD
  omega
theorem code_inj {h : DeH} (hv : DeValid h) {x y : DeSt} (hx : StOk h x) (hy : StOk h y) (e : codeD x = codeD y) : x = y := by
  have h3 := pow32 hv
  have xd := hx.d
  have yd := hy.d
  have x0 := hx.m 0
  have x1 := hx.m 1
  have x2 := hx.m 2
  have y0 := hy.m 0
  have y1 := hy.m 1
  have y2 := hy.m 2
  unfold codeD at e
  refine stand_inj hx hy ?_
  have e2 : minuteAt x 2 = minuteAt y 2 := by omega
  have e1 : minuteAt x 1 = minuteAt y 1 := by omega
  have e0 : minuteAt x 0 = minuteAt y 0 := by omega
  have ed : x.done = y.done := by omega
  have ew : x.writer = y.writer := by omega
  simp only [standV, e0, e1, e2, ed, ew]
theorem MemoD.len {h : DeH} (hv : DeValid h) {wm cm : Nat} {T : List (Value × Value)} (k : MemoD h wm cm T) : T.length ≤ 2147483648 := by
  obtain ⟨E, rfl, hn, hb⟩ := k
  have h1 := nodup_below 2147483648 (E.map codeD) (by
    rw [List.Nodup, List.pairwise_map]
    exact List.Pairwise.imp_of_mem (fun {a b} ha hb' hne e => hne (code_inj hv (hb a ha) (hb b hb') e)) hn) (fun x hx => by
      obtain ⟨p, hp, rfl⟩ := List.mem_map.1 hx
      exact code_lt hv (hb p hp))
  simpa using h1
theorem memoD_nil (h : DeH) (wm cm : Nat) : MemoD h wm cm [] := ⟨[], rfl, List.nodup_nil, fun p h => by cases h⟩
theorem MemoD.more {h : DeH} {wm cm : Nat} {T : List (Value × Value)} (k : MemoD h wm cm T) {x : DeSt} (hx : StOk h x) (hnew : ∀ p ∈ T, p.1 ≠ standV x) : MemoD h wm cm (T ++ [(standV x, Value.int .i64 (ovD h wm cm x))]) := by
  obtain ⟨E, rfl, hn, hb⟩ := k
  refine ⟨E ++ [x], by simp, ?_, fun p hp => ?_⟩
  · rw [List.nodup_append]
    refine ⟨hn, by simp, fun a ha b hb' => ?_⟩
    have : b = x := by simpa using hb'
    subst this
    intro e
    subst e
    exact hnew _ (List.mem_map.2 ⟨_, ha, rfl⟩) rfl
  · rcases List.mem_append.1 hp with hp | hp
    · exact hb p hp
    · have : p = x := by simpa using hp
      subst this
      exact hx
theorem MemoD.get {h : DeH} {wm cm : Nat} {T : List (Value × Value)} (k : MemoD h wm cm T) {x : DeSt} (hx : StOk h x) {v : Value} (hv : (standV x, v) ∈ T) : v = Value.int .i64 (ovD h wm cm x) := by
  obtain ⟨E, rfl, hn, hb⟩ := k
  obtain ⟨p, hp, e⟩ := List.mem_map.1 hv
  have e1 := stand_inj (hb p hp) hx (congrArg Prod.fst e)
  have e2 : Value.int .i64 (ovD h wm cm p) = v := congrArg Prod.snd e
  rw [← e2, e1]
theorem key_stand : Maps.Keyed Tryz.prog 115 := Maps.Keyed.of_law (deep_law (m := 3) (by omega) (by kernel_rfl) (by kernel_rfl) (by kernel_rfl))
theorem key_map : Tryz.prog.underlying 118 = some (.map 115 3) := by kernel_rfl
theorem zero_int (w : World) : (zeroValue 3).run Tryz.prog w = .ok (.int .i64 0) w := by kernel_rfl
theorem okI_small (n : Int) (h : 0 ≤ n) (h2 : n < 64000) : (Lit.int .i64 n).wf = true := by
  unfold Lit.wf
  have e1 : IntKind.min .i64 = -9223372036854775808 := by decide
  have e2 : IntKind.max .i64 = 9223372036854775807 := by decide
  simp only [e1, e2, Bool.and_eq_true, decide_eq_true_eq]
  omega
set_option maxRecDepth 100000 in
set_option maxHeartbeats 1000000 in
theorem key_of (a b c d e : Int) (ha : 0 ≤ a ∧ a < 64000) (hb : 0 ≤ b ∧ b < 64000) (hc : 0 ≤ c ∧ c < 64000) (hd : 0 ≤ d ∧ d < 64000) (he : 0 ≤ e ∧ e < 64000) : ∃ l, keyOf Tryz.prog 115 (.agg #[.int .i64 a, .int .i64 b, .int .i64 c, .int .i64 d, .int .i64 e]) = some l := by
  have h1 : (match Tryz.prog.underlying 115 with | some (.struct fs) => (fs.toList.map fun f => (f.type, f.offset)) == [(3, 0), (3, 1), (113, 2)] && fs.all (fun f => f.name != "_") | _ => false) = true := by kernel_rfl
  have h2 : Tryz.prog.keyType 115 = true := by kernel_rfl
  have h3 : Value.formed Tryz.prog 115 (.agg #[.int .i64 a, .int .i64 b, .int .i64 c, .int .i64 d, .int .i64 e]) = true := by kernel_rfl
  have h4 : Tryz.prog.underlying 3 = some (.int .i64) := by kernel_rfl
  have h5 : Tryz.prog.cellsOf 3 = 1 := by kernel_rfl
  have h6 : Tryz.prog.cellsOf 115 = 5 := by kernel_rfl
  have h8 : Tryz.prog.cellsOf 113 = 3 := by kernel_rfl
  have h9 : Tryz.prog.underlying 113 = some (.array 3 3) := by kernel_rfl
  obtain ⟨n, h7⟩ : ∃ n, Tryz.prog.types.size = n + 1 + 1 := ⟨Tryz.prog.types.size - 2, by kernel_rfl⟩
  cases hu : Tryz.prog.underlying 115 with
  | none => rw [hu] at h1; cases h1
  | some kd =>
    rw [hu] at h1
    cases kd with
    | struct fs =>
      simp only [Bool.and_eq_true, beq_iff_eq] at h1
      obtain ⟨g1, g2⟩ := h1
      have e1 : ∀ (m : Nat) (x : Int), 0 ≤ x ∧ x < 64000 → Tryz.prog.keyLits (m + 1) 3 [.int .i64 x] = some [.int .i64 x] := fun m x hx => by
        unfold Program.keyLits
        simp only [h4, okI_small x hx.1 hx.2, and_self, if_true]
      have e3 : Tryz.prog.keyLits (n + 1 + 1) 113 [.int .i64 c, .int .i64 d, .int .i64 e] = some [.int .i64 c, .int .i64 d, .int .i64 e] := by
        unfold Program.keyLits
        rw [h9]
        simp only [h8, h5, List.length_cons, List.length_nil, Nat.zero_add, Nat.reduceAdd, if_true]
        rw [show List.range 3 = [0, 1, 2] from rfl]
        simp only [List.mapM_cons, List.mapM_nil, Nat.zero_mul, Nat.one_mul, Nat.reduceMul, List.drop_zero, List.drop_succ_cons, List.take_succ_cons, List.take_zero, e1 n c hc, e1 n d hd, e1 n e he]
        rfl
      unfold keyOf
      rw [hu]
      simp only [h2, h3, Bool.and_self, if_true, h7]
      unfold Program.keyLits
      rw [hu]
      have g3 : (Value.agg #[.int .i64 a, .int .i64 b, .int .i64 c, .int .i64 d, .int .i64 e]).cells.toList = [.int .i64 a, .int .i64 b, .int .i64 c, .int .i64 d, .int .i64 e] := rfl
      rw [g3]
      obtain ⟨L⟩ := fs
      simp only at g1 g2 ⊢
      match L, g1 with
      | [f0, f1, f2], g1 =>
        simp only [List.map_cons, List.map_nil, List.cons.injEq, Prod.mk.injEq, and_true] at g1
        obtain ⟨⟨t0, o0⟩, ⟨t1, o1⟩, t2, o2⟩ := g1
        simp only [h6, List.length_cons, List.length_nil, Nat.zero_add, Nat.reduceAdd, g2, and_self, if_true, List.mapM_cons, List.mapM_nil, t0, o0, t1, o1, t2, o2, h5, h8, List.drop_zero, List.drop_succ_cons, List.take_succ_cons, List.take_zero, e1 (n + 1) a ha, e1 (n + 1) b hb, e3]
        exact ⟨_, rfl⟩
    | _ => simp at h1
theorem key_stV {h : DeH} (hv : DeValid h) {x : DeSt} (hx : StOk h x) : ∃ l, keyOf Tryz.prog 115 (standV x) = some l := by
  have h1 := hx.w
  have h2 := hx.d
  have h3 := pow32 hv
  have h4 := hv.nw
  have m0 := hx.m 0
  have m1 := hx.m 1
  have m2 := hx.m 2
  exact key_of _ _ _ _ _ (by omega) (by omega) (by omega) (by omega) (by omega)
end Go.Proofs.YtelmponkmmfffaaGreat
