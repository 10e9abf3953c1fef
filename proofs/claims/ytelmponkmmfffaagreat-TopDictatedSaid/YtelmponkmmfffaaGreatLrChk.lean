/- What is proved here: the contract of Check of the reference of layer 2: its error is 0 only where nothing is wrong. Conditions: the shelf lies in memory; its numbers are numbers of 64 bits. -/
import Derived.Test.YtelmponkmmfffaaGreatLrPartG
set_option linter.unusedVariables false
set_option linter.unusedSimpArgs false
namespace Go.Proofs.YtelmponkmmfffaaGreat
open Go Go.RowKit Go.Shelf
theorem freshL_zero {s : ByteArray} {l : List ByteArray} (h : fresh s l = 0) : nameB s = true ∧ ∀ j (hj : j < l.length), l[j] ≠ s := by
  unfold fresh at h
  cases hn : nameB s with
  | false => rw [hn] at h; cases h
  | true =>
    rw [hn] at h
    simp only [if_true] at h
    cases hh : hasS l s with
    | true => rw [hh] at h; cases h
    | false =>
      refine ⟨rfl, fun j hj e => ?_⟩
      unfold hasS at hh
      rw [List.any_eq_false] at hh
      have := hh _ (List.getElem_mem hj)
      simp [e] at this
def FormX (s : LeS) (i : Nat) (hi : i < s.forms.length) : Prop := nameB s.forms[i].name = true ∧ (∀ j (hj : j < i), s.forms[j].name ≠ s.forms[i].name) ∧ LeFOk s.forms[i]
def LeChk (P : Prop) (w : World) (e : Ending) (w' : World) : Prop := ∃ x y r : Int, e = .returned (.tuple #[.int .i64 x, .int .i64 y, .int .i64 r]) ∧ Hid (r = 0 → P) ∧ Below w.heap.size w w'
def WfS (s : LeS) : Prop := ∀ f ∈ s.forms, ∀ p ∈ f.parts, (Lit.int .i64 p.lo).wf = true ∧ (Lit.int .i64 p.hi).wf = true
set_option maxRecDepth 100000 in
set_option maxHeartbeats 8000000 in
theorem RCheck02_any (af : Option Addr) (kf : Nat) (s : LeS) (w : World) (hm : ShelfC w af kf s) (hwf : WfS s) :
    Calls Tryz.prog 4 #[(.agg #[.int .i64 s.width, .slice af s.forms.length kf])] w (LeChk (LeValid s) w) := by
  have l1 := hm.okf.len
  have la := hm.okf.1
  have C0 := fun W => In_any s.width 8 30 W
  have h0 := @inB_iff s.width 8 30
  generalize inB s.width 8 30 = c0 at C0 h0
  replace C0 := Lib.hid C0
  obtain ⟨Y, hY⟩ : ∃ Y : World, Y = w.alloc (.cells #[.int .i64 s.width, .slice af s.forms.length kf] 24) := ⟨_, rfl⟩
  have hbY : Below w.heap.size w Y := by rw [hY]; exact (Below.refl _ _).alloc (Nat.le_refl _) _
  have hB1 : Y.heap[w.heap.size]? = some (.cells #[.int .i64 s.width, .slice af s.forms.length kf] 24 (0, 0)) := by rw [hY]; exact alloc_at _ _ rfl
  have HY := Lib.hid hY
  clear hY
  have HM := Lib.hid (fun (V : World) (h : Below Y.heap.size Y V) => (hm.mono hbY).mono h)
  have HBY := Lib.hid hbY
  clear hm hbY
  have KE : Hid (∀ V, Below Y.heap.size Y V → (V.cell? ⟨w.heap.size, 0, none⟩ = some (.int .i64 s.width) ∧ V.cell? ⟨w.heap.size, 1, none⟩ = some (.slice af s.forms.length kf) ∧ w.heap.size < V.heap.size)) := Lib.hid (fun V h => by
    have q1 := (h.block _ (lt_of_block hB1)).trans hB1
    exact ⟨blk_cell 0 q1 rfl, blk_cell 1 q1 rfl, lt_of_block q1⟩)
  clear hB1
  have hq := KE.out _ (Below.refl _ Y)
  have HWF := Lib.hid hwf
  clear hwf
  go_enter Tryz.func4, Tryz.ntmps4
  go_upto_region 1 with (fail)
  rw [← HY.out]
  cases c0
  · clear h0
    go_wp2_with (go_at_call 14; go_must ((with_reducible refine (C0.out _).mono ?_); rintro e w' ⟨rfl, hw9⟩; obtain rfl := hw9.symm; dsimp only))
    go_ret3
    exact ⟨1, 0, 7, rfl, Lib.hid (fun h => by cases h), HBY.out⟩
  have H0 := Lib.hid (h0.1 rfl)
  clear h0
  by_cases hf4 : 4 < s.forms.length
  · have hf4i : (4 : Int) < (s.forms.length : Int) := by omega
    go_wp2_with (go_at_call 14; go_must ((with_reducible refine (C0.out _).mono ?_); rintro e w' ⟨rfl, hw9⟩; obtain rfl := hw9.symm; dsimp only))
    go_ret3
    exact ⟨2, 0, 3, rfl, Lib.hid (fun h => by cases h), HBY.out⟩
  have hf4i : ¬ (4 : Int) < (s.forms.length : Int) := by omega
  have hn4 : s.forms.length ≤ 4 := by omega
  go_upto_region 7 with (go_at_call 14; go_must ((with_reducible refine (C0.out _).mono ?_); rintro e w' ⟨rfl, hw9⟩; obtain rfl := hw9.symm; dsimp only))
  clear hq hf4i hf4
  go_loopw [5, 6] (fun o i V => ∃ n : Nat, n ≤ s.forms.length ∧ i = .int .i64 n ∧ V.ownsRow Y.heap.size 9 1 o n (((s.forms.take n).map (·.name)).map Value.string) ∧ Hid (∀ i (h : i < s.forms.length), i < n → FormX s i h) ∧ Below Y.heap.size Y V) (fun _ i _ => s.forms.length - (intOf i).toNat)
  case atStart => exact ⟨0, Nat.zero_le _, rfl, World.ownsRow_nil _ _ _ _, Lib.hid (fun i h g => absurd g (Nat.not_lt_zero i)), Below.refl _ _⟩
  case round =>
    rename World => V
    obtain ⟨n, hn, rfl, hown, HN, hbV⟩ := hrel
    by_cases hlt : n < s.forms.length
    · obtain ⟨b', off, hae, hb', d0, ap, kp, d1, d2, d3⟩ := (HM.out Y (Below.refl _ _)).forms n hlt
      replace d0 := cell_below hbV d0
      replace d1 := cell_below hbV d1
      replace hb' := Nat.lt_of_lt_of_le hb' hbV.size
      have hsz := (HM.out V hbV).nsize _ (List.getElem_mem hlt)
      have hnm : Hid (((s.forms.take (n + 1)).map (·.name)) = ((s.forms.take n).map (·.name)) ++ [s.forms[n].name]) := Lib.hid (by rw [List.take_succ_eq_append_getElem hlt, List.map_append]; rfl)
      obtain ⟨-, a3, c3, rfl, hs3, hi3⟩ := strs_own hown
      have hll : ((s.forms.take n).map (·.name)).length = n := by simp; omega
      have F := fun W hi => Fresh_any s.forms[n].name a3 ((s.forms.take n).map (·.name)) c3 W hsz (by omega) hi
      have HF : Hid (fresh s.forms[n].name ((s.forms.take n).map (·.name)) = 0 → LeFOk s.forms[n] → ∀ i (h : i < s.forms.length), i < n + 1 → FormX s i h) := Lib.hid (fun q1 q2 i h hi => if g : i < n then HN.out i h g else (by
        have e : i = n := (by omega)
        subst e
        have q3 := freshL_zero q1
        refine ⟨q3.1, fun j hj e => q3.2 j (by rw [hll]; exact hj) ?_, q2⟩
        rw [List.getElem_map, List.getElem_take]
        exact e))
      rw [hll] at hown F ⊢
      have HWP := Lib.hid (fun p hp => HWF.out _ (List.getElem_mem hlt) p hp)
      generalize ((s.forms.take n).map (·.name)) = nms at HF hnm hown hi3 F
      generalize s.forms[n] = f at *
      generalize hfe : fresh f.name nms = fe at HF F
      clear hfe
      obtain ⟨Z, hZ⟩ : ∃ Z : World, Z = V.alloc (.cells #[.string f.name, .slice ap f.parts.length kp] 43) := ⟨_, rfl⟩
      have hZb : Below V.heap.size V Z := by rw [hZ]; exact (Below.refl _ V).alloc (Nat.le_refl _) _
      have g2 : Z.heap[V.heap.size]? = some (.cells #[.string f.name, .slice ap f.parts.length kp] 43 (0, 0)) := by rw [hZ]; exact alloc_at _ _ rfl
      have hZs : Z.heap.size = V.heap.size + 1 := by rw [hZ]; simp
      have hYZ : Below Y.heap.size Y Z := hbV.trans (hZb.mono hbV.size)
      have HOW := Lib.hid (own_below hown hZb)
      have hvl : ∀ g, (Value.slice a3 n c3).ownBlock = some g → Y.heap.size ≤ g ∧ g < V.heap.size := fun g e => hown.lt g e
      have F := Lib.hid (F Z (hi3.mono hZb))
      have HP := Lib.hid (fun (U : World) (h : Below Y.heap.size Y U) => d3.mono h)
      have hpl := d2.len
      have hpc := d2.1
      have HZ := Lib.hid hZ
      have HVL := Lib.hid hvl
      have HZS := Lib.hid hZs
      clear hown hi3 hs3 hll d3 d2 hZ hsz hvl hZs
      subst hae
      have z0 := blk_cell 0 g2 rfl
      have z1 := blk_cell 1 g2 rfl
      have zz := lt_of_block g2
      simp only [List.getElem_toArray, List.getElem_cons_zero, List.getElem_cons_succ] at z0 z1
      obtain ⟨x0, x1, xz⟩ := KE.out _ hbV
      have hYs := hYZ.size
      have G2 := Lib.hid g2
      have hbz := hbV.size
      clear g2
      go_upto_region 10 with (fail)
      rw [← HZ.out]
      clear x0 x1 xz d0 d1 hb'
      go_upto_region 12 with (first
        | (at_builtin; go_must (refine wpList_app (.tmp 34) (.tmp 37) E_str rfl rfl rfl rfl Y.heap.size n 1 (nms.map Value.string) [.string f.name] (HOW.out.alloc _) (SrcAt.one _ _ _ rfl) (by omega) (by decide) (by simp; omega) ?_; intro v3 w3 ho3 hg3 _; simp only [Act.put, List.setIfInBounds_toArray, List.set_cons_succ, List.set_cons_zero]))
        | (go_at_call 15; go_must ((with_reducible refine F.out.mono ?_); rintro e w2 ⟨rfl, hw9⟩; obtain rfl := hw9.symm; dsimp only)))
      have hB3 := app_next (B := Y.heap.size) hYZ (Nat.le_refl _) (Nat.le_refl _) HOW.out hg3
      have g3 : w3.heap[V.heap.size]? = some (.cells #[.string f.name, .slice ap f.parts.length kp] 43 (0, 0)) := (hg3.block _ (by simp; omega) (fun e => by have := (HVL.out _ e.symm).2; omega)).trans ((heap_alloc_old _ _ (by omega)).trans G2.out)
      clear hg3 z0 z1 zz
      have HFC : Hid (∀ U, Below w3.heap.size w3 U → (U.cell? ⟨V.heap.size, 0, none⟩ = some (.string f.name) ∧ U.cell? ⟨V.heap.size, 1, none⟩ = some (.slice ap f.parts.length kp) ∧ V.heap.size < U.heap.size)) := Lib.hid (fun U h => by
        have q1 := (h.block _ (lt_of_block g3)).trans g3
        exact ⟨blk_cell 0 q1 rfl, blk_cell 1 q1 rfl, lt_of_block q1⟩)
      obtain ⟨z0, z1, zz⟩ := HFC.out _ (Below.refl _ w3)
      obtain ⟨er, her⟩ : ∃ er : Int, er = if fe = 0 then (if 5 < f.parts.length then 3 else 0) else fe := ⟨_, rfl⟩
      have HER : Hid (er = 0 → fe = 0 ∧ f.parts.length ≤ 5) := Lib.hid (fun h => by
        rw [her] at h
        by_cases q : fe = 0
        · rw [if_pos q] at h
          by_cases q2 : 5 < f.parts.length
          · rw [if_pos q2] at h; cases h
          · exact ⟨q, by omega⟩
        · rw [if_neg q] at h; exact absurd h q)
      go_cut [46] from 39 to 46 (fun v W => v = .bool (decide (fe = 0) && decide (5 < f.parts.length)) ∧ W = w3)
      case first =>
        by_cases q : fe = 0
        · have e1 := eqi_t q
          by_cases q2 : 5 < f.parts.length
          · have e2 : (5 : Int) < (f.parts.length : Int) := by omega
            have HR := Lib.hid (show (decide (fe = 0) && decide (5 < f.parts.length)) = true by rw [decide_eq_true q, decide_eq_true q2]; rfl)
            clear q q2
            go_wp2
            go_meet
            case rel => exact ⟨by rw [HR.out], rfl⟩
          · have e2 : ¬ (5 : Int) < (f.parts.length : Int) := by omega
            have HR := Lib.hid (show (decide (fe = 0) && decide (5 < f.parts.length)) = false by rw [decide_eq_false q2, Bool.and_false])
            clear q q2
            go_wp2
            go_meet
            case rel => exact ⟨by rw [HR.out], rfl⟩
        · have e1 := eqi_f q
          have HR := Lib.hid (show (decide (fe = 0) && decide (5 < f.parts.length)) = false by rw [decide_eq_false q, Bool.false_and])
          clear q
          go_wp2
          go_meet
          case rel => exact ⟨by rw [HR.out], rfl⟩
      case rest =>
        obtain ⟨rfl, hW⟩ := hcut
        obtain rfl := hW.symm
        obtain ⟨cb, hcb⟩ : ∃ cb, cb = (decide (fe = 0) && decide (5 < f.parts.length)) := ⟨_, rfl⟩
        rw [← hcb]
        have HCB := Lib.hid hcb
        have HER2 := Lib.hid her
        clear hcb her
        go_upto_if 46 with (fail)
        go_cut [8] (fun v W => v = .int .i64 er ∧ W = w3)
        case first =>
          cases cb
          · have HE : Hid (er = fe) := Lib.hid (by
              have h1 := HCB.out
              rw [HER2.out]
              by_cases q : fe = 0
              · rw [if_pos q]
                have : ¬ 5 < f.parts.length := fun h => by rw [decide_eq_true q, decide_eq_true h] at h1; cases h1
                rw [if_neg this, q]
              · rw [if_neg q])
            go_wp2
            go_meet
            case rel => exact ⟨by rw [HE.out], rfl⟩
          · have HE : Hid (er = 3) := Lib.hid (by
              have h1 := HCB.out.symm
              rw [Bool.and_eq_true, decide_eq_true_eq, decide_eq_true_eq] at h1
              rw [HER2.out, if_pos h1.1, if_pos h1.2])
            go_wp2
            go_meet
            case rel => exact ⟨by rw [HE.out], rfl⟩
        case rest =>
          obtain ⟨rfl, hW⟩ := hcut
          obtain rfl := hW.symm
          clear HCB HER2
          go_upto_region 15 with (fail)
          clear z0 z1 zz
          go_loopw [8, 9] (fun e i U => ∃ (k : Nat) (r : Int), k ≤ f.parts.length ∧ e = .int .i64 r ∧ i = .int .i64 k ∧ Hid (r = 0 → er = 0 ∧ ∀ i (h : i < f.parts.length), i < k → LePOk f.parts[i]) ∧ Below w3.heap.size w3 U) (fun _ i _ => f.parts.length - (intOf i).toNat)
          case atStart => exact ⟨0, er, Nat.zero_le _, rfl, rfl, Lib.hid (fun h => ⟨h, fun i h g => absurd g (Nat.not_lt_zero i)⟩), Below.refl _ _⟩
          case round =>
            rename World => U
            obtain ⟨k, r, hk, rfl, rfl, HK, hbU⟩ := hrel
            obtain ⟨z0, z1, zz⟩ := HFC.out _ hbU
            by_cases hr : r = 0
            · have e1 := eqi_t hr
              by_cases hkl : k < f.parts.length
              · obtain ⟨b2, o2, hap, hz2, ⟨aw, cw, p0, p0o, p0s⟩, p1, p2⟩ := HP.out U (hB3.trans (hbU.mono hB3.size)) k hkl
                have hwfp := HWP.out _ (List.getElem_mem hkl)
                have PA := fun (W : World) (h : Below U.heap.size U W) => LPartR_any aw cw f.parts[k] W p0o (p0s.mono h) hwfp.1 hwfp.2
                have HK2 := Lib.hid (fun (h : LePOk f.parts[k]) => show er = 0 ∧ ∀ i (h : i < f.parts.length), i < k + 1 → LePOk f.parts[i] from ⟨(HK.out hr).1, fun j hj hjk => if q : j < k then (HK.out hr).2 j hj q else (by have e : j = k := (by omega); subst e; exact h)⟩)
                generalize f.parts[k] = p at HK2 PA p0 p1 p2
                replace PA := Lib.hid PA
                have hkc : (k : Int) < (kp : Int) := by omega
                subst hap
                subst hr
                clear p0s p0o hwfp HK
                go_wp2_with (go_at_call 16; go_must ((with_reducible refine (PA.out _ (Below.refl _ _)).mono ?_); rintro e w5 ⟨r5, rfl, hr5, hb5⟩; dsimp only))
                go_roundw
                case rel => exact ⟨k + 1, r5, by omega, rfl, by go_num, Lib.hid (fun h => HK2.out (hr5.out h)), hbU.trans (hb5.mono hbU.size)⟩
                case measure => simp [intOf]; omega
              · obtain rfl : k = f.parts.length := by omega
                subst hr
                have HF2 := Lib.hid (HF.out (HER.out (HK.out rfl).1).1 ⟨(HER.out (HK.out rfl).1).2, fun i h => (HK.out rfl).2 i h h⟩)
                clear HK HF
                go_wp2
                go_roundw
                case rel => exact ⟨n + 1, by omega, by go_num, by rw [hnm.out, List.map_append]; exact own_below ho3 hbU, HF2, hB3.trans (hbU.mono hB3.size)⟩
                case measure => simp [intOf]; omega
            · have e1 := eqi_f hr
              have e2 := nei_t hr
              have HR0 := Lib.hid hr
              clear hr
              by_cases hkl : k < f.parts.length
              · go_wp2
                go_ret3
                exact ⟨2, (n : Int), r, rfl, Lib.hid (fun h => absurd h HR0.out), HBY.out.trans ((hB3.trans (hbU.mono hB3.size)).mono HBY.out.size)⟩
              · go_wp2
                go_ret3
                exact ⟨2, (n : Int), r, rfl, Lib.hid (fun h => absurd h HR0.out), HBY.out.trans ((hB3.trans (hbU.mono hB3.size)).mono HBY.out.size)⟩
    · obtain rfl : n = s.forms.length := by omega
      obtain ⟨x0, x1, xz⟩ := KE.out _ hbV
      have HV : Hid (LeValid s) := Lib.hid ⟨H0.out, hn4, fun i h => HN.out i h h⟩
      clear HN
      go_wp2
      go_ret3
      exact ⟨0, 0, 0, rfl, Lib.hid (fun _ => HV.out), HBY.out.trans (hbV.mono HBY.out.size)⟩
end Go.Proofs.YtelmponkmmfffaaGreat
