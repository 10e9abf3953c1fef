/- What is proved here: contracts of slices.Grow of nil, of slices.Concat, and of the last of what a plan cannot be like. Conditions: the plan lies in memory, and is short. -/
/- What is proved here: the contract of the reference's Plan of layer 9. Conditions: the hall and the plan lie in memory; the plan's numbers are not too many. -/
/- What is proved here: the contract of enter: a hall is looked at, if it and a plan are fine. Conditions: the hall and the plan lie in memory; the plan is not long. -/
import Derived.Test.YtelmponkmmfffaaGreatDeFlawG
import Derived.Lib.AppendZeros
import Derived.Test.YtelmponkmmfffaaGreatDeStandG
import Derived.Test.YtelmponkmmfffaaGreatDrAG
import Derived.Laws.EntriesVeiled
set_option linter.unusedVariables false
set_option linter.unusedSimpArgs false
namespace Go.Proofs.YtelmponkmmfffaaGreat
open Go Go.RowKit Go.Shelf

set_option maxRecDepth 100000 in
set_option maxHeartbeats 1000000 in
theorem DGrow_any (n : Nat) (hn : n ≤ 1000) (w : World) :
    Calls Tryz.prog 154 #[.slice none 0 0, .int .i64 (n : Int)] w fun e w' => ∃ v, e = .returned v ∧ w'.ownsRow w.heap.size 3 1 v 0 [] ∧ Below w.heap.size w w' := by
  obtain ⟨i, hi, hz, hsz, hby⟩ := info_parts E_int.info
  by_cases h0 : n = 0
  · subst h0
    go_enter Tryz.func154, Tryz.ntmps154
    go_wp2
    go_ret
    exact ⟨_, rfl, World.ownsRow_nil _ _ _ _, Below.refl _ _⟩
  · have hr : ∀ ty, (Builtin.append_ #[35, 3] ty #[.slice none 0 0, .int .i64 (n : Int)]).run Tryz.prog w = _ := fun ty => Lib.run_append_nil_zeros w 35 3 ty 3 i (.int .i64 0) .i64 .i64 E_int.und (by kernel_rfl) hi hz n (by omega) (by omega) (by omega) (by rw [hby]; omega)
    have hge := grownCap_ge w n 0 3
    have hcm : grownCap w n 0 3 ≤ maxLen := grownCap_le_maxLen w n 0 3 (by simp only [maxLen]; omega)
    have hcm2 : grownCap w n 0 3 ≤ 9223372036854775807 := hcm
    have hown : (w.drew.alloc (.cells (Builtin.zeroCells (Value.int .i64 0).cells n ++ Builtin.zeroCells (Value.int .i64 0).cells (grownCap w n 0 3 - n)) 3)).ownsRow w.heap.size 3 1 (.slice (some ⟨w.heap.size, 0, none⟩) 0 (grownCap w n 0 3)) 0 [] :=
      World.ownsRow_made w.drew _ _ (Nat.le_refl _) hcm (by
        rw [Array.size_append, size_zeroCells, size_zeroCells]
        show n * 1 + _ * 1 = _
        omega)
    generalize grownCap w n 0 3 = cap at hr hge hcm hcm2 hown
    have hr := Lib.hid hr
    have hown := Lib.hid hown
    have hb := Lib.hid (show Below w.heap.size w (w.drew.alloc (.cells (Builtin.zeroCells (Value.int .i64 0).cells n ++ Builtin.zeroCells (Value.int .i64 0).cells (cap - n)) 3)) from (below_drew' (Below.refl _ _)).alloc (Nat.le_refl _) _)
    have hn0 : ¬ (n : Int) < 0 := by omega
    have hnp : (0 : Int) < n := by omega
    have hnpn : 0 < n := by omega
    clear hi hz
    go_enter Tryz.func154, Tryz.ntmps154
    go_wp2_with (at_builtin; go_must (refine Lib.wpList_append_run _ rfl (.tmp 20) (.tmp 21) _ _ rfl _ _ rfl rfl _ _ (hr.out _) ?_; simp only [Act.put, List.setIfInBounds_toArray, List.set_cons_succ, List.set_cons_zero]))
    go_ret
    exact ⟨_, rfl, hown.out, hb.out⟩

theorem own_base {w : World} {base B : Nat} {e : TypeId} {size n : Nat} {v : Value} {xs : List Value} (h : w.ownsRow base e size v n xs) (hb : B ≤ base) : w.ownsRow B e size v n xs := by
  refine ⟨h.1, ?_⟩
  rcases h.2 with h2 | ⟨g, cap, cur, h2, h3, h4⟩
  · exact .inl h2
  · exact .inr ⟨g, cap, cur, h2, Nat.le_trans hb h3, h4⟩
theorem flat_succ {p : List (List Int)} {u : Nat} (hu : u < p.length) : (p.take (u + 1)).flatten = (p.take u).flatten ++ p[u] := by
  rw [List.take_succ_eq_append_getElem hu, List.flatten_append]
  simp
set_option maxRecDepth 100000 in
set_option maxHeartbeats 1000000 in
theorem DConcat_any (ad : Option Addr) (p : List (List Int)) (cp : Nat) (w : World) (hl : p.length ≤ 1000) (hc : SlOk ad p.length cp) (hsz : p.flatten.length ≤ 1000) (hi : RowsC w ad p) :
    Calls Tryz.prog 149 #[.slice ad p.length cp] w fun e w' => ∃ v, e = .returned v ∧ IntsV w' v p.flatten ∧ Below w.heap.size w w' := by
  have hcc := hc.1
  have HFL := Lib.hid (fun (u : Nat) => flat_take_le p u)
  have HFS := Lib.hid (fun (u : Nat) (hu : u < p.length) => congrArg List.length (flat_succ hu))
  have GR := Lib.hid (fun (n : Nat) (hn : n ≤ 1000) (W : World) => DGrow_any n hn W)
  go_enter Tryz.func149, Tryz.ntmps149
  go_wp2
  go_loopw [3, 11] (fun s i wr => ∃ u : Nat, u ≤ p.length ∧ i = .int .i64 u ∧ s = .int .i64 (((p.take u).flatten).length : Nat) ∧ Below w.heap.size w wr) (fun _ i _ => p.length - (intOf i).toNat)
  case atStart => exact ⟨0, Nat.zero_le _, rfl, rfl, Below.refl _ _⟩
  case round =>
    obtain ⟨u, hu, rfl, rfl, hb⟩ := hrel
    have hbz := hb.size
    have h9 := Nat.le_trans (HFL.out u) hsz
    by_cases hlt : u < p.length
    · have h10 := Nat.le_trans (HFL.out (u + 1)) hsz
      have hfs := HFS.out u hlt
      rw [List.length_append] at hfs
      obtain ⟨b, off, ar, cr, rfl, hbb0, h10', h2, h3⟩ := hi u hlt
      have h1 := cell_below hb h10'
      have hbb := lt_of_cell h1
      clear h10' hbb0
      have hucp : (u : Int) < p.length := by omega
      have h2c := h2.1
      generalize p[u].length = m at *
      generalize ((p.take u).flatten).length = s at *
      have hs2 := Lib.hid hfs
      clear hfs
      have hsm : s + m ≤ 1000 := by have := hs2.out; omega
      go_wp2
      go_roundw
      case rel => exact ⟨u + 1, by omega, by go_num, by rw [hs2.out, Int.natCast_add], hb⟩
      case measure => simp [intOf]; omega
    · obtain rfl : u = p.length := by omega
      rw [List.take_length] at h9 ⊢
      have GN := Lib.hid (GR.out p.flatten.length h9)
      obtain ⟨N, hN⟩ : ∃ N, N = p.flatten.length := ⟨_, rfl⟩
      rw [← hN] at GN ⊢
      clear hN
      go_wp2_with (go_at_call 154; go_must ((with_reducible refine (GN.out _).mono ?_); rintro e w2 ⟨v2, rfl, hown0, hb20⟩; have hb2 := hb.trans (hb20.mono hbz); dsimp only))
      have hz2 := hb2.size
      replace hown0 : w2.ownsRow w.heap.size 3 1 v2 0 [] := own_base hown0 hbz
      go_loopw [6, 27] (fun o i V => ∃ k : Nat, k ≤ p.length ∧ i = .int .i64 k ∧ V.ownsRow w.heap.size 3 1 o ((p.take k).flatten).length (((p.take k).flatten).map (Value.int .i64)) ∧ Below w.heap.size w V) (fun _ i _ => p.length - (intOf i).toNat)
      case atStart => exact ⟨0, Nat.zero_le _, rfl, hown0, hb2⟩
      case round =>
        rename World => V
        clear hown0 hb2 hb20 hb
        obtain ⟨k, hk, rfl, hown, hb⟩ := hrel
        have hbz := hb.size
        by_cases hlk : k < p.length
        · have h10 := Nat.le_trans (HFL.out (k + 1)) hsz
          have HFK := Lib.hid (flat_succ hlk)
          have hfs := HFS.out k hlk
          rw [List.length_append] at hfs
          rw [hfs] at h10
          clear hfs
          obtain ⟨b, off, ar, cr, rfl, hbb0, h10', h2, h3⟩ := hi k hlk
          have h1 := cell_below hb h10'
          have hbb := lt_of_cell h1
          have h3V := h3.mono hb
          clear h10' hbb0
          have hkp : (k : Int) < p.length := by omega
          have h2c := h2.1
          have hn2 := h2.2.2
          generalize p[k] = l at *
          generalize (p.take k).flatten = B0 at *
          go_wp2_with (at_builtin; go_must (refine wpList_app_big (.tmp 31) (.tmp 32) E_int rfl rfl rfl rfl w.heap.size B0.length l.length (B0.map (Value.int .i64)) (l.map (Value.int .i64)) hown (SrcAt.ints hn2 h3V) (by omega) (by omega) (by omega) ?_; intro v3 w3 ho3 hg3 _; (have hb3 := hb.grown hg3 hbz (fun q e => (hown.lt q e).1)); clear hg3; simp only [Act.put, List.setIfInBounds_toArray, List.set_cons_succ, List.set_cons_zero]))
          go_roundw
          case rel => exact ⟨k + 1, by omega, by go_num, by rw [HFK.out, List.map_append, List.length_append]; exact ho3, hb3⟩
          case measure => simp [intOf]; omega
        · obtain rfl : k = p.length := by omega
          rw [List.take_length] at hown
          go_wp2
          go_ret
          exact ⟨_, rfl, ints_ownV hown, hb⟩
theorem DFlaw5_any (aw ac : Option Addr) (kw kc : Nat) (h : DeH) (bm bo wm cm : Nat) (ad : Option Addr) (p : List (List Int)) (cp : Nat) (w : World) (hm : HallW w bm bo aw ac kw kc h wm cm) (hl : p.length ≤ 3) (hc : SlOk ad p.length cp) (hsz : p.flatten.length ≤ 1000) (hi : RowsC w ad p) :
    Calls Tryz.prog 148 #[.pointer (some ⟨bm, 0, none⟩), .slice ad p.length cp] w fun e w' => e = .returned (.bool (decide (p.flatten.length < h.customers.length))) ∧ Below w.heap.size w w' := by
  have l2 := hm.hall.okc.len
  have l2c := hm.hall.okc.1
  have CC := Lib.hid (fun (W : World) (hb : Below w.heap.size w W) => DConcat_any ad p cp W (by omega) hc hsz (hi.mono hb))
  have KE : Hid (∀ V, Below w.heap.size w V → (Below w.heap.size w V ∧ V.cell? ⟨bm, 2, none⟩ = some (.slice ac h.customers.length kc) ∧ bm < V.heap.size)) := Lib.hid (fun V hb => by
    obtain ⟨y0, y1, y2, y3, y4, y5, y6⟩ := (hm.below hb).blk.cells
    exact ⟨hb, y2, y6⟩)
  clear hm hi
  generalize p.flatten = L at *
  generalize h.customers.length = n at *
  go_enter Tryz.func148, Tryz.ntmps148
  go_upto_region 1 with (fail)
  have hg0 : Below w.heap.size w w.drew := below_drew' (Below.refl _ _)
  have hs0 := hg0.size
  go_region_held3 (fun V => Below w.heap.size w V ∧ V.cell? ⟨bm, 2, none⟩ = some (.slice ac n kc) ∧ bm < V.heap.size) (first | exact KE.out _ hg0 | exact KE.out _ hg1) (first
      | (go_at_call 149; refine (CC.out _ hg0).mono ?_; rintro e w2 ⟨v, rfl, ⟨a5, c5, rfl, o5, i5⟩, hgs⟩; have hg1 := hg0.trans (hgs.mono hs0); dsimp only))
  go_wp2
  go_ret
  exact ⟨ret_bool (by simp), hg1⟩
end Go.Proofs.YtelmponkmmfffaaGreat
namespace Go.Proofs.YtelmponkmmfffaaGreat
open Go Go.RowKit Go.Shelf

theorem hasB_app (l : List Int) (c n : Int) : hasB (l ++ [c]) n = (hasB l n || (c == n)) := by
  unfold hasB
  rw [List.any_append]
  simp
theorem twice_snoc : ∀ (l : List Int) (c : Int), twiceB (l ++ [c]) = (twiceB l || hasB l c)
  | [], c => by simp [twiceB, hasB]
  | x :: l, c => by
    show (hasB (l ++ [c]) x || twiceB (l ++ [c])) = ((hasB l x || twiceB l) || hasB (x :: l) c)
    rw [twice_snoc l c, hasB_app]
    have : hasB (x :: l) c = ((x == c) || hasB l c) := by unfold hasB; simp
    rw [this]
    have e : (c == x) = (x == c) := by
      by_cases h : c = x
      · simp [h]
      · rw [eqi_f h, eqi_f (Ne.symm h)]
    rw [e]
    cases hasB l x <;> cases twiceB l <;> cases (x == c) <;> cases hasB l c <;> rfl
theorem wrong_snoc {h : DeH} : ∀ (p : List (List Int)) (w : Nat) (l : List Int), wrongB h w (p ++ [l]) = (wrongB h w p || l.any fun c => !canD h (w + p.length) c.toNat)
  | [], w, l => by simp [wrongB]
  | a :: p, w, l => by
    rw [List.cons_append, wrongB, wrongB, wrong_snoc p (w + 1) l, Bool.or_assoc]
    congr 3
    simp only [List.length_cons]
    funext c
    congr 2
    omega
/-- What is put up of a plan before the i-th letter of its u-th list. -/
def preP (p : List (List Int)) (u i : Nat) : List Int := (p.take u).flatten ++ ((p[u]?.getD []).take i)
def wrongP (h : DeH) (p : List (List Int)) (u i : Nat) : Bool := wrongB h 0 (p.take u) || ((p[u]?.getD []).take i).any fun c => !canD h u c.toNat
theorem preP_zero (p : List (List Int)) (u : Nat) : preP p u 0 = (p.take u).flatten := by simp [preP]
theorem wrongP_zero (h : DeH) (p : List (List Int)) (u : Nat) : wrongP h p u 0 = wrongB h 0 (p.take u) := by simp [wrongP]
theorem preP_snoc {p : List (List Int)} {u i : Nat} (hu : u < p.length) (hi : i < p[u].length) : preP p u (i + 1) = preP p u i ++ [p[u][i]] := by
  unfold preP
  simp only [List.getElem?_eq_getElem hu, Option.getD_some]
  rw [List.take_succ_eq_append_getElem hi, List.append_assoc]
theorem wrongP_snoc (h : DeH) {p : List (List Int)} {u i : Nat} (hu : u < p.length) (hi : i < p[u].length) : wrongP h p u (i + 1) = (wrongP h p u i || !canD h u p[u][i].toNat) := by
  unfold wrongP
  simp only [List.getElem?_eq_getElem hu, Option.getD_some]
  rw [List.take_succ_eq_append_getElem hi, List.any_append, ← Bool.or_assoc]
  simp
theorem preP_next {p : List (List Int)} {u : Nat} (hu : u < p.length) : preP p (u + 1) 0 = preP p u p[u].length := by
  rw [preP_zero, flat_succ hu]
  unfold preP
  simp only [List.getElem?_eq_getElem hu, Option.getD_some, List.take_length]
theorem wrongP_next (h : DeH) {p : List (List Int)} {u : Nat} (hu : u < p.length) : wrongP h p (u + 1) 0 = wrongP h p u p[u].length := by
  rw [wrongP_zero, List.take_succ_eq_append_getElem hu, wrong_snoc]
  unfold wrongP
  simp only [List.getElem?_eq_getElem hu, Option.getD_some, List.take_length, Nat.zero_add, List.length_take_of_le (Nat.le_of_lt hu)]
theorem preP_le {p : List (List Int)} {u i : Nat} : (preP p u i).length ≤ p.flatten.length := by
  unfold preP
  by_cases hu : u < p.length
  · have h1 := flat_take_le p (u + 1)
    rw [flat_succ hu, List.length_append] at h1
    simp only [List.getElem?_eq_getElem hu, Option.getD_some, List.length_append, List.length_take]
    omega
  · have := flat_take_le p u
    simp only [List.getElem?_eq_none (by omega : p.length ≤ u), Option.getD_none, List.take_nil, List.append_nil]
    exact this
theorem preP_all (p : List (List Int)) : preP p p.length 0 = p.flatten := by rw [preP_zero, List.take_length]
theorem wrongP_all (h : DeH) (p : List (List Int)) : wrongP h p p.length 0 = wrongB h 0 p := by rw [wrongP_zero, List.take_length]
theorem err_out {h : DeH} {p : List (List Int)} (he : deErr h = 0) (hl : p.length = h.writers.length) {u i : Nat} (hu : u < p.length) (hi : i < p[u].length) (hb : inB p[u][i] 0 ((h.customers.length : Int) - 1) = false) : dePlanErr h p = 4 := by
  unfold dePlanErr
  rw [if_pos he, if_pos hl, if_neg]
  intro hall
  rw [List.all_eq_true] at hall
  have := hall p[u][i] (List.mem_flatten.2 ⟨p[u], List.getElem_mem hu, List.getElem_mem hi⟩)
  rw [hb] at this
  cases this
theorem err_end {h : DeH} {p : List (List Int)} (he : deErr h = 0) (hl : p.length = h.writers.length) (ha : ∀ c ∈ p.flatten, inB c 0 ((h.customers.length : Int) - 1) = true) : dePlanErr h p = if twiceB p.flatten then 5 else if wrongB h 0 p then 2 else if p.flatten.length < h.customers.length then 8 else 0 := by
  unfold dePlanErr
  rw [if_pos he, if_pos hl, if_pos (List.all_eq_true.2 ha)]
set_option maxRecDepth 100000 in
set_option maxHeartbeats 4000000 in
theorem DRPlan_any (aw ac : Option Addr) (kw kc : Nat) (h : DeH) (ad : Option Addr) (p : List (List Int)) (cp : Nat) (w : World) (hm : HallC w aw ac kw kc h) (hc : SlOk ad p.length cp) (hsz : p.flatten.length ≤ 1048576) (hi : RowsC w ad p) :
    Calls Tryz.prog 13 #[(.agg #[.int .i64 h.wax, .slice aw h.writers.length kw, .slice ac h.customers.length kc]), .slice ad p.length cp] w fun e w' => e = .returned (.int .i64 (dePlanErr h p)) ∧ Below w.heap.size w w' := by
  have hB := Below.refl (w.heap.size + 1) (w.alloc (.cells #[.int .i64 h.wax, .slice aw h.writers.length kw, .slice ac h.customers.length kc] 28))
  have CK := DRCheck_any aw ac kw kc h (w.alloc (.cells #[.int .i64 h.wax, .slice aw h.writers.length kw, .slice ac h.customers.length kc] 28)) (hm.mono (box_old hB))
  have HV := Lib.hid (fun h : deErr h = 0 => deValid_of h)
  have HNO := Lib.hid (fun (e : deErr h ≠ 0) => show dePlanErr h p = deErr h by unfold dePlanErr; rw [if_neg e])
  have HLN := Lib.hid (fun (e : deErr h = 0) (hn : p.length ≠ h.writers.length) => show dePlanErr h p = 3 by unfold dePlanErr; rw [if_pos e, if_neg hn])
  have HOUT := Lib.hid (fun (e : deErr h = 0) hl u i hu hi hb => err_out (h := h) (p := p) e hl (u := u) (i := i) hu hi hb)
  have HEND := Lib.hid (fun (e : deErr h = 0) hl ha => err_end (h := h) (p := p) e hl ha)
  have e0 : (deCheck h).2.2 = deErr h := rfl
  rw [e0] at CK
  generalize (deCheck h).1 = q1 at CK
  generalize (deCheck h).2.1 = q2 at CK
  generalize deErr h = er at CK HV HNO HLN HOUT HEND
  clear e0
  generalize dePlanErr h p = res at HNO HLN HOUT HEND ⊢
  replace CK := Lib.hid CK
  obtain ⟨x0, x1, x2, z0⟩ := box_hall hB
  have hcp := hc.1
  have hcl := hc.len
  have hlw := hm.okw.len
  have hlc := hm.okc.len
  by_cases her : er = 0
  · have hv := HV.out her
    have g1 := nei_f her
    replace HLN := Lib.hid (HLN.out her)
    replace HOUT := Lib.hid (HOUT.out her)
    replace HEND := Lib.hid (HEND.out her)
    clear her HV HNO
    have hnw := hv.nw
    have hnc := hv.nc
    have HCL := Lib.hid (fun (V : World) (hq : Below (w.heap.size + 1) (w.alloc (.cells #[.int .i64 h.wax, .slice aw h.writers.length kw, .slice ac h.customers.length kc] 28)) V) => box_hall hq)
    have HBN := Lib.hid (fun (V V' : World) (hq : Below (w.heap.size + 1) (w.alloc (.cells #[.int .i64 h.wax, .slice aw h.writers.length kw, .slice ac h.customers.length kc] 28)) V) (hq2 : Below V.heap.size V V') => hq.trans (hq2.mono (by have := hq.size; simp at this; omega)))
    go_enter Tryz.func13, Tryz.ntmps13
    by_cases hln : p.length = h.writers.length
    · have HO := Lib.hid (HOUT.out hln)
      have HE := Lib.hid (HEND.out hln)
      clear HLN HOUT HEND
      go_wp2_with (go_at_call 5; go_must ((with_reducible refine CK.out.mono ?_); rintro e w2 ⟨rfl, hb2⟩; have hB2 := HBN.out _ _ hB hb2; (obtain ⟨x0, x1, x2, z0⟩ := HCL.out _ hB2); dsimp only))
      go_loopw [8, 9, 10, 11] (fun al tw ot i wr => ∃ u : Nat, u ≤ p.length ∧ i = .int .i64 u ∧ wr.ownsRow (w.heap.size + 1) 3 1 al (preP p u 0).length ((preP p u 0).map (Value.int .i64)) ∧ tw = .bool (twiceB (preP p u 0)) ∧ ot = .bool (wrongP h p u 0) ∧ Hid (∀ c ∈ preP p u 0, inB c 0 ((h.customers.length : Int) - 1) = true) ∧ Below (w.heap.size + 1) (w.alloc (.cells #[.int .i64 h.wax, .slice aw h.writers.length kw, .slice ac h.customers.length kc] 28)) wr) (fun _ _ _ i _ => p.length - (intOf i).toNat)
      case atStart => exact ⟨0, Nat.zero_le _, rfl, by rw [preP_zero]; exact World.ownsRow_nil _ _ _ _, by rw [preP_zero]; rfl, by rw [wrongP_zero]; rfl, Lib.hid (by rw [preP_zero]; intro c hc; cases hc), hB2⟩
      case round =>
        clear hB2 x0 x1 x2 z0 hB
        obtain ⟨u, hu, rfl, hown, rfl, rfl, HIN, hB⟩ := hrel
        obtain ⟨x0, x1, x2, z0⟩ := HCL.out _ hB
        by_cases hlu : u < p.length
        · obtain ⟨b, off, a2, c2, ea, hb, hcell, hs2, hi2⟩ := hi u hlu
          have HNXP := Lib.hid (preP_next hlu)
          have HNXW := Lib.hid (wrongP_next h hlu)
          have HSN := Lib.hid (fun (k : Nat) (hk : k < p[u].length) => preP_snoc hlu hk)
          have HWS := Lib.hid (fun (k : Nat) (hk : k < p[u].length) => wrongP_snoc h hlu hk)
          have HO2 := Lib.hid (fun (k : Nat) (hk : k < p[u].length) hb => HO.out u k hlu hk hb)
          have hle := Lib.hid (fun k => preP_le (p := p) (u := u) (i := k))
          have HRC := Lib.hid (fun (V : World) (hq : Below (w.heap.size + 1) (w.alloc (.cells #[.int .i64 h.wax, .slice aw h.writers.length kw, .slice ac h.customers.length kc] 28)) V) => (⟨cell_below (box_old hq) hcell, Nat.lt_of_lt_of_le hb (box_old hq).size⟩ : V.cell? ⟨b, off + u, none⟩ = some (.slice a2 p[u].length c2) ∧ b < V.heap.size))
          have hs2l := hs2.len
          have hs21 := hs2.1
          generalize p[u] = row at *
          obtain ⟨r0, rz⟩ := HRC.out _ hB
          have hup : (u : Int) < cp := by omega
          subst ea
          go_wp2
          go_loopw [8, 9, 10, 12] (fun al tw ot i wr => ∃ k : Nat, k ≤ row.length ∧ i = .int .i64 k ∧ wr.ownsRow (w.heap.size + 1) 3 1 al (preP p u k).length ((preP p u k).map (Value.int .i64)) ∧ tw = .bool (twiceB (preP p u k)) ∧ ot = .bool (wrongP h p u k) ∧ Hid (∀ c ∈ preP p u k, inB c 0 ((h.customers.length : Int) - 1) = true) ∧ Below (w.heap.size + 1) (w.alloc (.cells #[.int .i64 h.wax, .slice aw h.writers.length kw, .slice ac h.customers.length kc] 28)) wr) (fun _ _ _ i _ => row.length - (intOf i).toNat)
          case atStart => exact ⟨0, Nat.zero_le _, rfl, hown, rfl, rfl, HIN, hB⟩
          case round =>
            clear hown HIN hB x0 x1 x2 z0 r0 rz
            obtain ⟨k, hk, rfl, hown, rfl, rfl, HIN, hB⟩ := hrel
            obtain ⟨x0, x1, x2, z0⟩ := HCL.out _ hB
            obtain ⟨r0, rz⟩ := HRC.out _ hB
            by_cases hlk : k < row.length
            · have hci := hi2 k hlk
              obtain ⟨b3, off3, ea3, hb3, hc3⟩ := hci
              have hsn := HSN.out k hlk
              have hws := HWS.out k hlk
              have ho2 := HO2.out k hlk
              have hl1 := hle.out k
              have hce := cell_below (box_old hB) hc3
              have hze := Nat.lt_of_lt_of_le hb3 (box_old hB).size
              generalize row[k] = c at hsn hws ho2 hce
              have C1 := fun W => In_any c 0 ((h.customers.length : Int) - 1) W
              cases hin : inB c 0 ((h.customers.length : Int) - 1) with
              | false =>
                rw [hin] at C1
                replace C1 := Lib.hid C1
                have hr := ho2 hin
                subst hr
                have hks : (k : Int) < c2 := by omega
                clear hc3 hb3
                subst ea3
                go_wp2_with (go_at_call 14; go_must ((with_reducible refine (C1.out _).mono ?_); rintro e w' ⟨rfl, rfl⟩; dsimp only))
                go_ret
                exact ⟨rfl, box_old hB⟩
              | true =>
                rw [hin] at C1
                obtain ⟨hc0, hc1⟩ := inB_iff.1 hin
                obtain ⟨c, rfl⟩ := Int.eq_ofNat_of_zero_le hc0
                have hcn : c < h.customers.length := by omega
                simp only [Int.toNat_natCast] at hws
                obtain ⟨a3, c3, rfl, hs3, hi3⟩ := IntsV.of_own hown
                have HS := Has_any a3 (preP p u k) c3 (c : Int) wr hs3.len hi3
                have CN := DRCan_any aw ac kw kc h u c wr (hm.mono (box_old hB)) hv (by omega) hcn
                have HOW := Lib.hid hown
                replace HIN : Hid (∀ d ∈ preP p u (k + 1), inB d 0 ((h.customers.length : Int) - 1) = true) := Lib.hid (by
                  rw [hsn]
                  intro d hd
                  rcases List.mem_append.1 hd with h1 | h1
                  · exact HIN.out d h1
                  · rw [List.mem_singleton.1 h1]; exact hin)
                have htw : Hid (twiceB (preP p u (k + 1)) = (twiceB (preP p u k) || hasB (preP p u k) (c : Int))) := Lib.hid (by rw [hsn, twice_snoc])
                have hln2 := Lib.hid (congrArg List.length hsn)
                have hmp := Lib.hid (congrArg (List.map (Value.int .i64)) hsn)
                have HWSN := Lib.hid hws
                clear hsn hws ho2 hi3 hown hc0 hc1 hin hc3 hb3
                generalize hasB (preP p u k) (c : Int) = b5 at HS htw
                generalize canD h u c = b6 at CN HWSN
                generalize twiceB (preP p u k) = b7 at htw ⊢
                generalize wrongP h p u k = b8 at HWSN ⊢
                replace C1 := Lib.hid C1
                replace HS := Lib.hid HS
                replace CN := Lib.hid CN
                have hks : (k : Int) < c2 := by omega
                simp only [List.length_append, List.length_cons, List.length_nil, Nat.zero_add] at hln2
                simp only [List.map_append, List.map_cons, List.map_nil] at hmp
                subst ea3
                cases b7
                · cases b8
                  · go_wp2_with (first | (at_builtin; go_must (refine wpList_app_big (.tmp 72) (.tmp 74) E_int rfl rfl rfl rfl (w.heap.size + 1) (preP p u k).length 1 ((preP p u k).map (Value.int .i64)) [.int .i64 (c : Int)] ((own_below HOW.out hb3).alloc _) (SrcAt.one _ _ _ rfl) (by omega) (by omega) (by have := hB3.size; simp at this ⊢; omega) ?_; intro v4 w4 ho4 hg4 _; have hB4 := app_next hB3 (by simp) (Nat.le_refl _) (own_below HOW.out hb3) hg4; (obtain ⟨x0, x1, x2, z0⟩ := HCL.out _ hB4); clear hg4; simp only [Act.put, List.setIfInBounds_toArray, List.set_cons_succ, List.set_cons_zero])) | (go_at_call 59; go_must ((with_reducible refine CN.out.mono ?_); rintro e w3 ⟨rfl, hb3⟩; have hB3 := HBN.out _ _ hB hb3; (obtain ⟨x0, x1, x2, z0⟩ := HCL.out _ hB3); dsimp only)) | (go_at_call 58; go_must ((with_reducible refine HS.out.mono ?_); rintro e w' ⟨rfl, rfl⟩; dsimp only)) | (go_at_call 14; go_must ((with_reducible refine (C1.out _).mono ?_); rintro e w' ⟨rfl, rfl⟩; dsimp only)))
                    go_roundw
                    case rel => exact ⟨k + 1, by omega, by go_num, by rw [hmp.out, hln2.out]; exact ho4, val_bool (by rw [htw.out]; simp), val_bool (by rw [HWSN.out]; simp), HIN, hB4⟩
                    case measure => simp [intOf]; omega
                  · go_wp2_with (first | (at_builtin; go_must (refine wpList_app_big (.tmp 72) (.tmp 74) E_int rfl rfl rfl rfl (w.heap.size + 1) (preP p u k).length 1 ((preP p u k).map (Value.int .i64)) [.int .i64 (c : Int)] (HOW.out.alloc _) (SrcAt.one _ _ _ rfl) (by omega) (by omega) (by have := hB.size; simp at this ⊢; omega) ?_; intro v4 w4 ho4 hg4 _; have hB4 := app_next hB (by simp) (Nat.le_refl _) HOW.out hg4; (obtain ⟨x0, x1, x2, z0⟩ := HCL.out _ hB4); clear hg4; simp only [Act.put, List.setIfInBounds_toArray, List.set_cons_succ, List.set_cons_zero])) | (go_at_call 58; go_must ((with_reducible refine HS.out.mono ?_); rintro e w' ⟨rfl, rfl⟩; dsimp only)) | (go_at_call 14; go_must ((with_reducible refine (C1.out _).mono ?_); rintro e w' ⟨rfl, rfl⟩; dsimp only)))
                    go_roundw
                    case rel => exact ⟨k + 1, by omega, by go_num, by rw [hmp.out, hln2.out]; exact ho4, val_bool (by rw [htw.out]; simp), val_bool (by rw [HWSN.out]; simp), HIN, hB4⟩
                    case measure => simp [intOf]; omega
                · cases b8
                  · go_wp2_with (first | (at_builtin; go_must (refine wpList_app_big (.tmp 72) (.tmp 74) E_int rfl rfl rfl rfl (w.heap.size + 1) (preP p u k).length 1 ((preP p u k).map (Value.int .i64)) [.int .i64 (c : Int)] ((own_below HOW.out hb3).alloc _) (SrcAt.one _ _ _ rfl) (by omega) (by omega) (by have := hB3.size; simp at this ⊢; omega) ?_; intro v4 w4 ho4 hg4 _; have hB4 := app_next hB3 (by simp) (Nat.le_refl _) (own_below HOW.out hb3) hg4; (obtain ⟨x0, x1, x2, z0⟩ := HCL.out _ hB4); clear hg4; simp only [Act.put, List.setIfInBounds_toArray, List.set_cons_succ, List.set_cons_zero])) | (go_at_call 59; go_must ((with_reducible refine CN.out.mono ?_); rintro e w3 ⟨rfl, hb3⟩; have hB3 := HBN.out _ _ hB hb3; (obtain ⟨x0, x1, x2, z0⟩ := HCL.out _ hB3); dsimp only)) | (go_at_call 14; go_must ((with_reducible refine (C1.out _).mono ?_); rintro e w' ⟨rfl, rfl⟩; dsimp only)))
                    go_roundw
                    case rel => exact ⟨k + 1, by omega, by go_num, by rw [hmp.out, hln2.out]; exact ho4, val_bool (by rw [htw.out]; simp), val_bool (by rw [HWSN.out]; simp), HIN, hB4⟩
                    case measure => simp [intOf]; omega
                  · go_wp2_with (first | (at_builtin; go_must (refine wpList_app_big (.tmp 72) (.tmp 74) E_int rfl rfl rfl rfl (w.heap.size + 1) (preP p u k).length 1 ((preP p u k).map (Value.int .i64)) [.int .i64 (c : Int)] (HOW.out.alloc _) (SrcAt.one _ _ _ rfl) (by omega) (by omega) (by have := hB.size; simp at this ⊢; omega) ?_; intro v4 w4 ho4 hg4 _; have hB4 := app_next hB (by simp) (Nat.le_refl _) HOW.out hg4; (obtain ⟨x0, x1, x2, z0⟩ := HCL.out _ hB4); clear hg4; simp only [Act.put, List.setIfInBounds_toArray, List.set_cons_succ, List.set_cons_zero])) | (go_at_call 14; go_must ((with_reducible refine (C1.out _).mono ?_); rintro e w' ⟨rfl, rfl⟩; dsimp only)))
                    go_roundw
                    case rel => exact ⟨k + 1, by omega, by go_num, by rw [hmp.out, hln2.out]; exact ho4, val_bool (by rw [htw.out]; simp), val_bool (by rw [HWSN.out]; simp), HIN, hB4⟩
                    case measure => simp [intOf]; omega
            · obtain rfl : k = row.length := by omega
              rw [← HNXP.out] at hown HIN
              have e1 : twiceB (preP p u row.length) = twiceB (preP p (u + 1) 0) := by rw [HNXP.out]
              have e2 := HNXW.out
              go_wp2
              go_roundw
              case rel => exact ⟨u + 1, by omega, by go_num, hown, by rw [e1], by rw [e2], HIN, hB⟩
              case measure => simp [intOf]; omega
        · obtain rfl : u = p.length := by omega
          have hr := Lib.hid (HE.out (by rw [← preP_all p]; exact HIN.out))
          rw [preP_all] at hown
          rw [preP_all, wrongP_all]
          obtain ⟨a3, c3, rfl, hs3, hi3⟩ := IntsV.of_own hown
          have hfl := hs3.len
          clear hown HIN
          generalize p.flatten.length = fl at *
          generalize twiceB p.flatten = b1 at *
          generalize wrongB h 0 p = b2 at *
          cases b1
          · cases b2
            · by_cases hlt : fl < h.customers.length
              all_goals
                go_wp2
                go_ret
                exact ⟨ret_int (by rw [hr.out]; simp [hlt]), box_old hB⟩
            · go_wp2
              go_ret
              exact ⟨ret_int (by rw [hr.out]; simp), box_old hB⟩
          · go_wp2
            go_ret
            exact ⟨ret_int (by rw [hr.out]; simp), box_old hB⟩
    · have hn2 : ((p.length : Int) != (h.writers.length : Int)) = true := by simp; omega
      have hr := HLN.out hln
      go_wp2_with (go_at_call 5; go_must ((with_reducible refine CK.out.mono ?_); rintro e w2 ⟨rfl, hb2⟩; have hB2 := HBN.out _ _ hB hb2; (obtain ⟨x0, x1, x2, z0⟩ := HCL.out _ hB2); dsimp only))
      go_ret
      subst hr
      exact ⟨rfl, box_old hB2⟩
  · replace HNO := HNO.out her
    have g1 := nei_t her
    clear her HV HLN HOUT HEND
    have HBN := Lib.hid (fun (V V' : World) (hq : Below (w.heap.size + 1) (w.alloc (.cells #[.int .i64 h.wax, .slice aw h.writers.length kw, .slice ac h.customers.length kc] 28)) V) (hq2 : Below V.heap.size V V') => hq.trans (hq2.mono (by have := hq.size; simp at this; omega)))
    go_enter Tryz.func13, Tryz.ntmps13
    go_wp2_with (go_at_call 5; go_must ((with_reducible refine CK.out.mono ?_); rintro e w2 ⟨rfl, hb2⟩; have hB2 := HBN.out _ _ hB hb2; dsimp only))
    go_ret
    subst HNO
    exact ⟨rfl, box_old hB2⟩
end Go.Proofs.YtelmponkmmfffaaGreat
namespace Go.Proofs.YtelmponkmmfffaaGreat
open Go Go.RowKit Go.Shelf

theorem store_fnD (P : Program) (w : World) (a : Addr) (m : Mode) (fn : Fn) (first captured : Array Value) : (store a (.func fn first captured) m).run P w = stored P w a (.func fn first captured) m := run_store P w a _ m rfl
attribute [local go_sem] store_fnD
def flawB (h : DeH) (p : List (List Int)) : Nat → Bool
  | 0 => decide (p.length ≠ h.writers.length)
  | 1 => !p.flatten.all fun c => inB c 0 ((h.customers.length : Int) - 1)
  | 2 => twiceB p.flatten
  | 3 => wrongB h 0 p
  | _ => decide (p.flatten.length < h.customers.length)
def flawE : Nat → Int
  | 0 => 3
  | 1 => 4
  | 2 => 5
  | 3 => 2
  | _ => 8
def flawF : Nat → Nat
  | 0 => 139
  | 1 => 140
  | 2 => 143
  | 3 => 146
  | _ => 148
theorem flaw_zero {h : DeH} {p : List (List Int)} (h0 : flawB h p 0 = false) : p.length = h.writers.length := by
  unfold flawB at h0
  simpa using h0
theorem flaw_err {h : DeH} {p : List (List Int)} (he : deErr h = 0) {k : Nat} (hk : k < 5) (hz : ∀ j, j < k → flawB h p j = false) (hb : flawB h p k = true) : dePlanErr h p = flawE k := by
  unfold dePlanErr
  rw [if_pos he]
  obtain rfl | rfl | rfl | rfl | rfl : k = 0 ∨ k = 1 ∨ k = 2 ∨ k = 3 ∨ k = 4 := by omega
  · have : ¬ p.length = h.writers.length := by simpa [flawB] using hb
    rw [if_neg this]; rfl
  · rw [if_pos (flaw_zero (hz 0 (by omega)))]
    have : ¬ (p.flatten.all fun c => inB c 0 ((h.customers.length : Int) - 1)) = true := by
      have hb2 : (!p.flatten.all fun c => inB c 0 ((h.customers.length : Int) - 1)) = true := hb
      rw [Bool.not_eq_true'] at hb2; rw [hb2]; simp
    rw [if_neg this]; rfl
  · have h1 : (!p.flatten.all fun c => inB c 0 ((h.customers.length : Int) - 1)) = false := hz 1 (by omega)
    rw [Bool.not_eq_false'] at h1
    have h2 : twiceB p.flatten = true := hb
    rw [if_pos (flaw_zero (hz 0 (by omega))), if_pos h1, if_pos h2]; rfl
  · have h1 : (!p.flatten.all fun c => inB c 0 ((h.customers.length : Int) - 1)) = false := hz 1 (by omega)
    rw [Bool.not_eq_false'] at h1
    have h2 : twiceB p.flatten = false := hz 2 (by omega)
    have h3 : wrongB h 0 p = true := hb
    rw [if_pos (flaw_zero (hz 0 (by omega))), if_pos h1, h2, if_neg (by simp), if_pos h3]; rfl
  · have h1 : (!p.flatten.all fun c => inB c 0 ((h.customers.length : Int) - 1)) = false := hz 1 (by omega)
    rw [Bool.not_eq_false'] at h1
    have h2 : twiceB p.flatten = false := hz 2 (by omega)
    have h3 : wrongB h 0 p = false := hz 3 (by omega)
    have h4 : decide (p.flatten.length < h.customers.length) = true := hb
    rw [if_pos (flaw_zero (hz 0 (by omega))), if_pos h1, h2, if_neg (by simp), h3, if_neg (by simp), if_pos (of_decide_eq_true h4)]; rfl
theorem flaw_ok {h : DeH} {p : List (List Int)} (he : deErr h = 0) (hz : ∀ j, j < 5 → flawB h p j = false) : dePlanErr h p = 0 := by
  unfold dePlanErr
  rw [if_pos he]
  have h1 : (!p.flatten.all fun c => inB c 0 ((h.customers.length : Int) - 1)) = false := hz 1 (by omega)
  rw [Bool.not_eq_false'] at h1
  have h2 : twiceB p.flatten = false := hz 2 (by omega)
  have h3 : wrongB h 0 p = false := hz 3 (by omega)
  have h4 : decide (p.flatten.length < h.customers.length) = false := hz 4 (by omega)
  rw [if_pos (flaw_zero (hz 0 (by omega))), if_pos h1, h2, if_neg (by simp), h3, if_neg (by simp), if_neg (of_decide_eq_false h4)]
theorem flat_few {h : DeH} {p : List (List Int)} (hv : DeValid h) (h1 : flawB h p 1 = false) (h2 : flawB h p 2 = false) : p.flatten.length ≤ 5 := by
  have h1' : (!p.flatten.all fun c => inB c 0 ((h.customers.length : Int) - 1)) = false := h1
  rw [Bool.not_eq_false', List.all_eq_true] at h1'
  have hn := twice_iff.1 (show twiceB p.flatten = false from h2)
  have := hv.nc
  have hm := nodup_below h.customers.length (p.flatten.map Int.toNat) (by
    rw [List.Nodup, List.pairwise_map]
    refine List.Pairwise.imp_of_mem (fun {a b} ha hb hne e => hne ?_) hn
    have := inB_iff.1 (h1' a ha)
    have := inB_iff.1 (h1' b hb)
    omega) (fun x hx => by
      obtain ⟨c, hc, rfl⟩ := List.mem_map.1 hx
      have := inB_iff.1 (h1' c hc)
      omega)
  rw [List.length_map] at hm
  omega
theorem full_lt8 {h : DeH} (hv : DeValid h) : fullW h < 8 := by
  have := Nat.pow_le_pow_right (n := 2) (by omega) hv.nw
  have := pow_pred h.writers.length
  show 2 ^ h.writers.length - 1 < 8
  omega
/-- Each flaw's contract, where none was before. -/
theorem DFlawK_any (aw ac : Option Addr) (kw kc : Nat) (h : DeH) (bm bo : Nat) (ad : Option Addr) (p : List (List Int)) (cp : Nat) (k : Nat) (hk : k < 5) (w : World) (hm : HallW w bm bo aw ac kw kc h (fullW h) (fullC h)) (hv : DeValid h) (hz : ∀ j, j < k → flawB h p j = false) (hc : SlOk ad p.length cp) (hsz : p.flatten.length ≤ 1048576) (hi : RowsC w ad p) :
    Calls Tryz.prog (flawF k) #[.pointer (some ⟨bm, 0, none⟩), .slice ad p.length cp] w fun e w' => e = .returned (.bool (flawB h p k)) ∧ Below w.heap.size w w' := by
  have hp : 0 < k → p.length = h.writers.length := fun h0 => flaw_zero (hz 0 h0)
  have hl : 0 < k → p.length ≤ 3 := fun h0 => by rw [hp h0]; exact hv.nw
  obtain rfl | rfl | rfl | rfl | rfl : k = 0 ∨ k = 1 ∨ k = 2 ∨ k = 3 ∨ k = 4 := by omega
  · exact DFlaw1_any aw ac kw kc h bm bo _ _ ad p cp w hm hc.len
  · exact DFlaw2_any aw ac kw kc h bm bo _ _ ad p cp w hm (hl (by omega)) hc hsz hi
  · exact DFlaw3_any bm ad p cp w (hl (by omega)) hc hsz hi
  · have h1 : (!p.flatten.all fun c => inB c 0 ((h.customers.length : Int) - 1)) = false := hz 1 (by omega)
    rw [Bool.not_eq_false'] at h1
    exact DFlaw4_any aw ac kw kc h bm bo _ _ ad p cp w hm hv (full_lt8 hv) (fun u hu => by rw [full_bit]; simpa using hu) (hp (by omega)) h1 hc hsz hi
  · exact DFlaw5_any aw ac kw kc h bm bo _ _ ad p cp w hm (hl (by omega)) hc (Nat.le_trans (flat_few hv (hz 1 (by omega)) (hz 2 (by omega))) (by omega)) hi
@[reducible] def flawCells : Array Value := #[.int .i64 3, .func (.func 139) #[] #[], .int .i64 4, .func (.func 140) #[] #[], .int .i64 5, .func (.func 143) #[] #[], .int .i64 2, .func (.func 146) #[] #[], .int .i64 8, .func (.func 148) #[] #[]]
theorem DFlaws_any (w : World) : Calls Tryz.prog 126 #[] w fun e w' => e = .returned (.slice (some ⟨w.heap.size, 0, none⟩) 5 5) ∧ w' = w.alloc (.cells flawCells 206) := by
  go_enter Tryz.func126, Tryz.ntmps126
  go_wp2
  go_ret
  exact ⟨rfl, rfl⟩
/-- What enter gives back. -/
def EnterD (w W : World) (v : Value) (er : Int) (aw ac : Option Addr) (kw kc : Nat) (h : DeH) : Prop := (er = 0 → ∃ bm bo : Nat, v = .pointer (some ⟨bm, 0, none⟩) ∧ HallW W bm bo aw ac kw kc h (fullW h) (fullC h) ∧ w.heap.size < bo ∧ w.heap.size < bm) ∧ (er ≠ 0 → v = .pointer none)
set_option maxRecDepth 100000 in
set_option maxHeartbeats 4000000 in
theorem DEnter_any (aw ac : Option Addr) (kw kc : Nat) (h : DeH) (ad : Option Addr) (p : List (List Int)) (cp : Nat) (w : World) (hm : HallC w aw ac kw kc h) (hc : SlOk ad p.length cp) (hsz : p.flatten.length ≤ 1048576) (hi : RowsC w ad p) :
    Calls Tryz.prog 83 #[(.agg #[.int .i64 h.wax, .slice aw h.writers.length kw, .slice ac h.customers.length kc]), .slice ad p.length cp] w fun e w' => ∃ v, e = .returned (.tuple #[v, .int .i64 (dePlanErr h p)]) ∧ EnterD w w' v (dePlanErr h p) aw ac kw kc h ∧ Below w.heap.size w w' := by
  have hQ := Below.refl (w.heap.size + 1) (w.alloc (.cells #[.int .i64 h.wax, .slice aw h.writers.length kw, .slice ac h.customers.length kc] 28))
  have hbX := box_old hQ
  have CK := DCheck_any aw ac kw kc h (w.alloc (.cells #[.int .i64 h.wax, .slice aw h.writers.length kw, .slice ac h.customers.length kc] 28)) (hm.mono hbX)
  have HV := Lib.hid (fun h : deErr h = 0 => deValid_of h)
  have HNO := Lib.hid (fun (e : deErr h ≠ 0) => show dePlanErr h p = deErr h by unfold dePlanErr; rw [if_neg e])
  have HFE := Lib.hid (fun (he : deErr h = 0) (k : Nat) (hk : k < 5) hz hb => flaw_err (h := h) (p := p) he (k := k) hk hz hb)
  have HFO := Lib.hid (fun (he : deErr h = 0) hz => flaw_ok (h := h) (p := p) he hz)
  have e0 : (deCheck h).2.2 = deErr h := rfl
  rw [e0] at CK
  generalize (deCheck h).1 = q1 at CK
  generalize (deCheck h).2.1 = q2 at CK
  obtain ⟨er, her0⟩ : ∃ er, er = deErr h := ⟨_, rfl⟩
  rw [← her0] at CK HV HNO HFE HFO
  clear her0 e0
  obtain ⟨pe, hpe⟩ : ∃ pe, pe = dePlanErr h p := ⟨_, rfl⟩
  rw [← hpe] at HNO HFE HFO ⊢
  clear hpe
  replace CK := Lib.hid CK
  have x0 := box_cell hQ 0 _ rfl
  have x1 := box_cell hQ 1 _ rfl
  have x2 := box_cell hQ 2 _ rfl
  have xz := box_size hQ
  by_cases her : er = 0
  · have hv := HV.out her
    replace HFE := Lib.hid (fun (k : Nat) (hk : k < 5) hz hb => HFE.out her k hk hz hb)
    replace HFO := Lib.hid (fun hz => HFO.out her hz)
    have g1 := nei_f her
    clear her HV HNO
    have LK := Lib.hid (fun (W : World) (hb : Below w.heap.size w W) => DLook_any aw ac kw kc h W (hm.mono hb) hv)
    have FS := Lib.hid (fun W : World => DFlaws_any W)
    go_enter Tryz.func83, Tryz.ntmps83
    go_wp2_with (first
      | (go_at_call 126; go_must ((with_reducible refine (FS.out _).mono ?_); rintro e w4 ⟨rfl, rfl⟩; dsimp only))
      | (go_at_call 53; go_must ((with_reducible refine (LK.out _ (box_old hQ2)).mono ?_); rintro e w3 ⟨bm, bo, rfl, hK, hb3, hbo, hbm⟩; dsimp only))
      | (go_at_call 52; go_must ((with_reducible refine CK.out.mono ?_); rintro e w2 ⟨rfl, hb2⟩; have hQ2 := hQ.trans (hb2.mono (by simp)); have x0 := box_cell hQ2 0 _ rfl; have x1 := box_cell hQ2 1 _ rfl; have x2 := box_cell hQ2 2 _ rfl; have xz := box_size hQ2; dsimp only)))
    have hb23 := (box_old hQ2).trans (hb3.mono (box_old hQ2).size)
    have hz3 := hb23.size
    have hz2 := (box_old hQ2).size
    have hFC : (w3.alloc (.cells flawCells 206)).heap[w3.heap.size]? = some (.cells flawCells 206 (0, 0)) := alloc_at _ _ rfl
    go_loopw [25] (fun i wr => ∃ k : Nat, k ≤ 5 ∧ i = .int .i64 k ∧ Below w3.heap.size w3 wr ∧ wr.heap[w3.heap.size]? = some (.cells flawCells 206 (0, 0)) ∧ Hid (∀ j, j < k → flawB h p j = false)) (fun i _ => 5 - (intOf i).toNat)
    case atStart => exact ⟨0, Nat.zero_le _, rfl, (Below.refl _ _).alloc (Nat.le_refl _) _, hFC, Lib.hid (fun j hj => absurd hj (Nat.not_lt_zero j))⟩
    case round =>
      clear hFC
      obtain ⟨k, hk, rfl, hb, hF, HZ⟩ := hrel
      have hbz := hb.size
      have zF := lt_of_block hF
      by_cases hlt : k < 5
      · have FK := fun (V : World) (hV : Below w3.heap.size w3 V) => DFlawK_any aw ac kw kc h bm bo ad p cp k hlt V (hK.below hV) hv HZ.out hc hsz (hi.mono (hb23.trans (hV.mono hz3)))
        have HE := Lib.hid (fun hb => HFE.out k hlt HZ.out hb)
        have HN := Lib.hid (fun (e : flawB h p k = false) => show ∀ j, j < k + 1 → flawB h p j = false from fun j hj => if hjk : j < k then HZ.out j hjk else (by have e2 : j = k := (by omega); subst e2; exact e))
        have c0 := blk_cell 0 hF rfl
        have c1 := blk_cell 1 hF rfl
        have c2 := blk_cell 2 hF rfl
        have c3 := blk_cell 3 hF rfl
        have c4 := blk_cell 4 hF rfl
        have c5 := blk_cell 5 hF rfl
        have c6 := blk_cell 6 hF rfl
        have c7 := blk_cell 7 hF rfl
        have c8 := blk_cell 8 hF rfl
        have c9 := blk_cell 9 hF rfl
        simp only [List.getElem_toArray, List.getElem_cons_zero, List.getElem_cons_succ] at c0 c1 c2 c3 c4 c5 c6 c7 c8 c9
        generalize flawB h p k = bk at FK HE HN
        obtain rfl | rfl | rfl | rfl | rfl : k = 0 ∨ k = 1 ∨ k = 2 ∨ k = 3 ∨ k = 4 := by omega
        all_goals
          simp only [flawF, flawE] at FK HE
          replace FK := Lib.hid FK
          replace hF := Lib.hid hF
          cases bk
          · go_wp2_with ((with_reducible refine (FK.out _ (hb.alloc hbz _)).mono ?_); rintro e w5 ⟨rfl, hb5'⟩; have hb5 := (hb.alloc hbz _).trans (hb5'.mono (by simp; omega)); have hF5 := (hb5'.block _ (by simp; omega)).trans ((heap_alloc_old _ _ zF).trans hF.out); dsimp only)
            go_roundw
            case rel => exact ⟨_, by omega, by go_num, hb5, hF5, Lib.hid (HN.out (by trivial))⟩
            case measure => simp [intOf]
          · replace HE := Lib.hid (HE.out (by trivial))
            go_wp2_with ((with_reducible refine (FK.out _ (hb.alloc hbz _)).mono ?_); rintro e w5 ⟨rfl, hb5'⟩; have hb5 := (hb.alloc hbz _).trans (hb5'.mono (by simp; omega)); have fc := blk_cell 0 ((hb5'.block wr.heap.size (by simp)).trans (heap_alloc_new wr _)) rfl; have fz := lt_of_cell fc; (simp only [List.getElem_toArray, List.getElem_cons_zero] at fc); dsimp only)
            go_upto_region 9 with (fail)
            go_quiet (fail)
            go_wp2
            go_ret2
            rw [HE.out]
            exact ⟨_, rfl, ⟨fun e => absurd e (by decide), fun _ => rfl⟩, hb23.trans ((below_drewN' hb5 _).mono hz3)⟩
      · obtain rfl : k = 5 := by omega
        have hf := HFO.out HZ.out
        go_wp2
        go_ret2
        subst hf
        exact ⟨_, rfl, ⟨fun _ => ⟨bm, bo, rfl, hK.below hb, by omega, by omega⟩, fun e => absurd rfl e⟩, hb23.trans (hb.mono hz3)⟩
  · replace HNO := HNO.out her
    have g1 := nei_t her
    have HER := Lib.hid her
    clear her HV HFE HFO
    go_enter Tryz.func83, Tryz.ntmps83
    go_wp2_with (go_at_call 52; go_must ((with_reducible refine CK.out.mono ?_); rintro e w2 ⟨rfl, hb2⟩; have hQ2 := hQ.trans (hb2.mono (by simp)); dsimp only))
    go_ret2
    subst HNO
    exact ⟨_, rfl, ⟨fun e => absurd e HER.out, fun _ => rfl⟩, box_old hQ2⟩
end Go.Proofs.YtelmponkmmfffaaGreat
