/- What is proved here: contracts of slices.Grow of nil, of slices.Concat, and of the last of what a plan cannot be like. Conditions: the plan lies in memory, and is short. -/
import Derived.Test.YtchnpekgmkhacaaDeFlaw
import Derived.Lib.AppendZeros
set_option linter.unusedVariables false
set_option linter.unusedSimpArgs false
namespace Go.Proofs.Ytchnpekgmkhacaa
open Go Go.RowKit Go.Shelf

set_option maxRecDepth 100000 in
set_option maxHeartbeats 1000000 in
theorem DGrow_any (n : Nat) (hn : n ≤ 1000) (w : World) :
    Calls Try.prog 118 #[.slice none 0 0, .int .i64 (n : Int)] w fun e w' => ∃ v, e = .returned v ∧ w'.ownsRow w.heap.size 3 1 v 0 [] ∧ Below w.heap.size w w' := by
  obtain ⟨i, hi, hz, hsz, hby⟩ := info_parts E_int.info
  by_cases h0 : n = 0
  · subst h0
    go_enter Try.func118, Try.ntmps118
    go_wp2
    go_ret
    exact ⟨_, rfl, World.ownsRow_nil _ _ _ _, Below.refl _ _⟩
  · have hr : ∀ ty, (Builtin.append_ #[42, 3] ty #[.slice none 0 0, .int .i64 (n : Int)]).run Try.prog w = _ := fun ty => Lib.run_append_nil_zeros w 42 3 ty 3 i (.int .i64 0) .i64 .i64 E_int.und (by kernel_rfl) hi hz n (by omega) (by omega) (by omega) (by rw [hby]; omega)
    have hge := grownCap_ge w n 0 3
    have hcm : grownCap w n 0 3 ≤ maxLen := grownCap_le_maxLen w n 0 3 (by simp only [maxLen]; omega)
    have hcm2 : grownCap w n 0 3 ≤ 9223372036854775807 := hcm
    have hown : (w.drew.alloc (.cells (Builtin.zeroCells (Value.int .i64 0).cells n ++ Builtin.zeroCells (Value.int .i64 0).cells (grownCap w n 0 3 - n)) 3)).ownsRow w.heap.size 3 1 (.slice (some ⟨w.heap.size, 0, none⟩) 0 (grownCap w n 0 3)) 0 [] :=
      World.ownsRow_made w.drew _ _ (Nat.le_refl _) hcm (by
        rw [Array.size_append, size_zeroCells, size_zeroCells]
        show n * 1 + _ * 1 = _
        omega)
    generalize grownCap w n 0 3 = cap at hr hge hcm hcm2 hown
    have hr := Lib.hid hr
    have hown := Lib.hid hown
    have hb := Lib.hid (show Below w.heap.size w (w.drew.alloc (.cells (Builtin.zeroCells (Value.int .i64 0).cells n ++ Builtin.zeroCells (Value.int .i64 0).cells (cap - n)) 3)) from (below_drew' (Below.refl _ _)).alloc (Nat.le_refl _) _)
    have hn0 : ¬ (n : Int) < 0 := by omega
    have hnp : (0 : Int) < n := by omega
    have hnpn : 0 < n := by omega
    clear hi hz
    go_enter Try.func118, Try.ntmps118
    go_wp2_with (at_builtin; go_must (refine Lib.wpList_append_run _ rfl (.tmp 20) (.tmp 21) _ _ rfl _ _ rfl rfl _ _ (hr.out _) ?_; simp only [Act.put, List.setIfInBounds_toArray, List.set_cons_succ, List.set_cons_zero]))
    go_ret
    exact ⟨_, rfl, hown.out, hb.out⟩

theorem own_base {w : World} {base B : Nat} {e : TypeId} {size n : Nat} {v : Value} {xs : List Value} (h : w.ownsRow base e size v n xs) (hb : B ≤ base) : w.ownsRow B e size v n xs := by
  refine ⟨h.1, ?_⟩
  rcases h.2 with h2 | ⟨g, cap, cur, h2, h3, h4⟩
  · exact .inl h2
  · exact .inr ⟨g, cap, cur, h2, Nat.le_trans hb h3, h4⟩
theorem flat_succ {p : List (List Int)} {u : Nat} (hu : u < p.length) : (p.take (u + 1)).flatten = (p.take u).flatten ++ p[u] := by
  rw [List.take_succ_eq_append_getElem hu, List.flatten_append]
  simp
set_option maxRecDepth 100000 in
set_option maxHeartbeats 1000000 in
theorem DConcat_any (ad : Option Addr) (p : List (List Int)) (cp : Nat) (w : World) (hl : p.length ≤ 1000) (hc : SlOk ad p.length cp) (hsz : p.flatten.length ≤ 1000) (hi : RowsC w ad p) :
    Calls Try.prog 115 #[.slice ad p.length cp] w fun e w' => ∃ v, e = .returned v ∧ IntsV w' v p.flatten ∧ Below w.heap.size w w' := by
  have hcc := hc.1
  have HFL := Lib.hid (fun (u : Nat) => flat_take_le p u)
  have HFS := Lib.hid (fun (u : Nat) (hu : u < p.length) => congrArg List.length (flat_succ hu))
  have GR := Lib.hid (fun (n : Nat) (hn : n ≤ 1000) (W : World) => DGrow_any n hn W)
  go_enter Try.func115, Try.ntmps115
  go_wp2
  go_loopw [3, 11] (fun s i wr => ∃ u : Nat, u ≤ p.length ∧ i = .int .i64 u ∧ s = .int .i64 (((p.take u).flatten).length : Nat) ∧ Below w.heap.size w wr) (fun _ i _ => p.length - (intOf i).toNat)
  case atStart => exact ⟨0, Nat.zero_le _, rfl, rfl, Below.refl _ _⟩
  case round =>
    obtain ⟨u, hu, rfl, rfl, hb⟩ := hrel
    have hbz := hb.size
    have h9 := Nat.le_trans (HFL.out u) hsz
    by_cases hlt : u < p.length
    · have h10 := Nat.le_trans (HFL.out (u + 1)) hsz
      have hfs := HFS.out u hlt
      rw [List.length_append] at hfs
      obtain ⟨b, off, ar, cr, rfl, hbb0, h10', h2, h3⟩ := hi u hlt
      have h1 := cell_below hb h10'
      have hbb := lt_of_cell h1
      clear h10' hbb0
      have hucp : (u : Int) < p.length := by omega
      have h2c := h2.1
      generalize p[u].length = m at *
      generalize ((p.take u).flatten).length = s at *
      have hs2 := Lib.hid hfs
      clear hfs
      have hsm : s + m ≤ 1000 := by have := hs2.out; omega
      go_wp2
      go_roundw
      case rel => exact ⟨u + 1, by omega, by go_num, by rw [hs2.out, Int.natCast_add], hb⟩
      case measure => simp [intOf]; omega
    · obtain rfl : u = p.length := by omega
      rw [List.take_length] at h9 ⊢
      have GN := Lib.hid (GR.out p.flatten.length h9)
      obtain ⟨N, hN⟩ : ∃ N, N = p.flatten.length := ⟨_, rfl⟩
      rw [← hN] at GN ⊢
      clear hN
      go_wp2_with (go_at_call 118; go_must ((with_reducible refine (GN.out _).mono ?_); rintro e w2 ⟨v2, rfl, hown0, hb20⟩; have hb2 := hb.trans (hb20.mono hbz); dsimp only))
      have hz2 := hb2.size
      replace hown0 : w2.ownsRow w.heap.size 3 1 v2 0 [] := own_base hown0 hbz
      go_loopw [6, 27] (fun o i V => ∃ k : Nat, k ≤ p.length ∧ i = .int .i64 k ∧ V.ownsRow w.heap.size 3 1 o ((p.take k).flatten).length (((p.take k).flatten).map (Value.int .i64)) ∧ Below w.heap.size w V) (fun _ i _ => p.length - (intOf i).toNat)
      case atStart => exact ⟨0, Nat.zero_le _, rfl, hown0, hb2⟩
      case round =>
        rename World => V
        clear hown0 hb2 hb20 hb
        obtain ⟨k, hk, rfl, hown, hb⟩ := hrel
        have hbz := hb.size
        by_cases hlk : k < p.length
        · have h10 := Nat.le_trans (HFL.out (k + 1)) hsz
          have HFK := Lib.hid (flat_succ hlk)
          have hfs := HFS.out k hlk
          rw [List.length_append] at hfs
          rw [hfs] at h10
          clear hfs
          obtain ⟨b, off, ar, cr, rfl, hbb0, h10', h2, h3⟩ := hi k hlk
          have h1 := cell_below hb h10'
          have hbb := lt_of_cell h1
          have h3V := h3.mono hb
          clear h10' hbb0
          have hkp : (k : Int) < p.length := by omega
          have h2c := h2.1
          have hn2 := h2.2.2
          generalize p[k] = l at *
          generalize (p.take k).flatten = B0 at *
          go_wp2_with (at_builtin; go_must (refine wpList_app_big (.tmp 31) (.tmp 32) E_int rfl rfl rfl rfl w.heap.size B0.length l.length (B0.map (Value.int .i64)) (l.map (Value.int .i64)) hown (SrcAt.ints hn2 h3V) (by omega) (by omega) (by omega) ?_; intro v3 w3 ho3 hg3 _; (have hb3 := hb.grown hg3 hbz (fun q e => (hown.lt q e).1)); clear hg3; simp only [Act.put, List.setIfInBounds_toArray, List.set_cons_succ, List.set_cons_zero]))
          go_roundw
          case rel => exact ⟨k + 1, by omega, by go_num, by rw [HFK.out, List.map_append, List.length_append]; exact ho3, hb3⟩
          case measure => simp [intOf]; omega
        · obtain rfl : k = p.length := by omega
          rw [List.take_length] at hown
          go_wp2
          go_ret
          exact ⟨_, rfl, ints_ownV hown, hb⟩
theorem DFlaw5_any (aw ac : Option Addr) (kw kc : Nat) (h : DeH) (bm bo wm cm : Nat) (ad : Option Addr) (p : List (List Int)) (cp : Nat) (w : World) (hm : HallW w bm bo aw ac kw kc h wm cm) (hl : p.length ≤ 3) (hc : SlOk ad p.length cp) (hsz : p.flatten.length ≤ 1000) (hi : RowsC w ad p) :
    Calls Try.prog 114 #[.pointer (some ⟨bm, 0, none⟩), .slice ad p.length cp] w fun e w' => e = .returned (.bool (decide (p.flatten.length < h.customers.length))) ∧ Below w.heap.size w w' := by
  have l2 := hm.hall.okc.len
  have l2c := hm.hall.okc.1
  have CC := Lib.hid (fun (W : World) (hb : Below w.heap.size w W) => DConcat_any ad p cp W (by omega) hc hsz (hi.mono hb))
  have KE : Hid (∀ V, Below w.heap.size w V → (Below w.heap.size w V ∧ V.cell? ⟨bm, 2, none⟩ = some (.slice ac h.customers.length kc) ∧ bm < V.heap.size)) := Lib.hid (fun V hb => by
    obtain ⟨y0, y1, y2, y3, y4, y5, y6⟩ := (hm.below hb).blk.cells
    exact ⟨hb, y2, y6⟩)
  clear hm hi
  generalize p.flatten = L at *
  generalize h.customers.length = n at *
  go_enter Try.func114, Try.ntmps114
  go_upto_region 1 with (fail)
  have hg0 : Below w.heap.size w w.drew := below_drew' (Below.refl _ _)
  have hs0 := hg0.size
  go_region_held3 (fun V => Below w.heap.size w V ∧ V.cell? ⟨bm, 2, none⟩ = some (.slice ac n kc) ∧ bm < V.heap.size) (first | exact KE.out _ hg0 | exact KE.out _ hg1) (first
      | (go_at_call 115; refine (CC.out _ hg0).mono ?_; rintro e w2 ⟨v, rfl, ⟨a5, c5, rfl, o5, i5⟩, hgs⟩; have hg1 := hg0.trans (hgs.mono hs0); dsimp only))
  go_wp2
  go_ret
  exact ⟨ret_bool (by simp), hg1⟩
end Go.Proofs.Ytchnpekgmkhacaa
