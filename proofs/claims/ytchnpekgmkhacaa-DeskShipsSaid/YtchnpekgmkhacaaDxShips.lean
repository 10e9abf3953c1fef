/- What is proved here: the walk of DeskShips: it returns true, and turns nothing that was there. Conditions: the hall lies in memory. -/
import Derived.Test.YtchnpekgmkhacaaDw6
set_option linter.unusedVariables false
set_option linter.unusedSimpArgs false
namespace Go.Proofs.Ytchnpekgmkhacaa
open Go Go.RowKit
theorem byTo_sub (h : DeH) (l : List Int) (k : Nat) : ∀ x ∈ byTo h l k, x ∈ l := fun x hx => by
  have := (fold_put h (l.take k) [] List.Pairwise.nil).2
  rw [List.append_nil] at this
  exact List.mem_of_mem_take (this.mem_iff.1 hx)
theorem byPlan_next (h : DeH) (p : List (List Int)) (u : Nat) (hu : u < p.length) : byPlan h (p.take (u + 1)) = byPlan h (p.take u) ++ [byRow h p[u]] := by
  unfold byPlan
  rw [List.take_succ_eq_append_getElem hu, List.map_append]
  rfl
theorem byPlan_len (h : DeH) (p : List (List Int)) (u : Nat) (hu : u ≤ p.length) : (byPlan h (p.take u)).length = u := by
  unfold byPlan
  rw [List.length_map, List.length_take]; omega
theorem pos_step (h : DeH) (L : List Int) (c : Int) (j : Nat) (hj : j < L.length) : posTo h L c (j + 1) = if shipD h c < shipD h L[j] then posTo h L c j else j + 1 := by
  rw [posTo, List.getElem?_eq_getElem hj]; rfl
theorem shipD_is {h : DeH} {c : Nat} (hc : c < h.customers.length) : shipD h (c : Int) = h.customers[c].ship := by
  unfold shipD customerAt
  rw [Int.toNat_natCast, List.getElem?_eq_getElem hc]; rfl
set_option maxRecDepth 100000 in
set_option maxHeartbeats 16000000 in
theorem DeskShips_walk (aw ac : Option Addr) (kw kc : Nat) (h : DeH) (ax : Option Addr) (x : List Int) (cx : Nat) (w : World) (hm : HallC w aw ac kw kc h) (hox : SlOk ax x.length cx) (hix : BytesC w ax x) : Calls Try.prog 15 #[(.agg #[.int .i64 h.wax, .slice aw h.writers.length kw, .slice ac h.customers.length kc]), .slice ax x.length cx] w fun e w' => e = .returned (.bool true) ∧ Below w.heap.size w w' := by
  obtain ⟨X, hX⟩ : ∃ X : World, X = (w.alloc (.cells #[.int .i64 h.wax, .slice aw h.writers.length kw, .slice ac h.customers.length kc] 25)) := ⟨_, rfl⟩
  have hwX : Below w.heap.size w X := by rw [hX]; exact (by (repeat' (first | assumption | exact Below.refl _ _ | refine below_drew' ?_ | refine Below.setCell ?_ (by first | omega | (simp <;> omega)) _ | refine Below.alloc ?_ (by first | omega | (simp <;> omega)) _)))
  have g1 : X.heap[w.heap.size]? = some (.cells #[.int .i64 h.wax, .slice aw h.writers.length kw, .slice ac h.customers.length kc] 25 (0, 0)) := by rw [hX]; (repeat' (first | exact alloc_at _ _ (by simp) | refine (heap_alloc_old _ _ (by first | omega | (simp <;> omega))).trans ?_))
  replace g1 := fun (V : World) (h : Below X.heap.size X V) => (h.block _ (lt_of_block g1)).trans g1
  have HC : Hid (∀ V, Below X.heap.size X V → (V.cell? ⟨w.heap.size, 0, none⟩ = some (.int .i64 h.wax) ∧ V.cell? ⟨w.heap.size, 1, none⟩ = some (.slice aw h.writers.length kw) ∧ V.cell? ⟨w.heap.size, 2, none⟩ = some (.slice ac h.customers.length kc) ∧ w.heap.size < V.heap.size)) := Lib.hid (fun V h => ⟨blk_cell 0 (g1 V h) rfl, blk_cell 1 (g1 V h) rfl, blk_cell 2 (g1 V h) rfl, lt_of_block (g1 V h)⟩)
  have M := Lib.hid (fun (V : World) (h : Below X.heap.size X V) => (hm.mono hwX).mono h)
  clear g1
  have hQ := Below.refl X.heap.size X
  have hx := HC.out _ hQ
  have MX := Lib.hid (fun (V : World) (h : Below X.heap.size X V) => (hix.mono hwX).mono h)
  by_cases he : deErr h = 0
  · have hvd := Lib.hid (decide_eq_true he)
    have hv := deValid_of he
    cases hA : anyD h x with
    | none =>
      have AN := Lib.hid (fun (V : World) (hq : Below X.heap.size X V) => DAny_none aw ac kw kc h ax x cx hA V (M.out _ hq) hv hox (MX.out _ hq))
      clear hA he
      go_enter Try.func15, Try.ntmps15
      go_upto_region 1 with (fail)
      rw [← hX]
      clear hX
      go_wp2_with (first
        | (go_at_call 23; (with_reducible refine (DAwake_any _).mono ?_); rintro e w5 ⟨rfl, hb⟩; replace hQ := q_on hQ hb; replace hx := HC.out _ hQ; dsimp only)
        | (go_at_call 40; (with_reducible refine (AN.out _ hQ).mono ?_); rintro e w4 ⟨rfl, hb⟩; replace hQ := q_on hQ hb; replace hx := HC.out _ hQ; dsimp only)
        | (go_at_call 37; (with_reducible refine (DValid_is _ _ _ _ h true hvd.out _ (M.out _ hQ)).mono ?_); rintro e w2 ⟨rfl, hb⟩; replace hQ := q_on hQ hb; replace hx := HC.out _ hQ; dsimp only))
      go_ret
      exact ⟨rfl, hwX.trans (hQ.mono hwX.size)⟩
    | some p =>
      have hok : PlanOk h h.customers.length p := any_ok hA
      have AN := Lib.hid (fun (V : World) (hq : Below X.heap.size X V) => DAny_some aw ac kw kc h ax x cx p hA V (M.out _ hq) hv hox (MX.out _ hq))
      have hbo := byPlan_ok hok
      have hfe := fate_good he hok
      have hfb := fate_good he hbo
      have hps := Nat.le_trans (plan_short hv hok) (show 5 ≤ 1048576 by decide)
      have hbs := Nat.le_trans (plan_short hv hbo) (show 5 ≤ 1048576 by decide)
      have hcmp := ships_plain hv hok
      have hvals := deDoes_vals h p
      have hvalb := deDoes_vals h (byPlan h p)
      have hpl := hok.len
      have hnw := hv.nw
      have hnc := hv.nc
      have hcc := hm.okc.1
      have hplI : p.length ≤ 3 := by omega
      replace hpl := Lib.hid hpl
      have hBP := Lib.hid (show byPlan h (p.take p.length) = byPlan h p by rw [List.take_length])
      have hBN := Lib.hid (fun (u : Nat) (hu : u < p.length) => byPlan_next h p u hu)
      have hBL := Lib.hid (fun (u : Nat) (hu : u ≤ p.length) => byPlan_len h p u hu)
      have hRI := Lib.hid (fun (u : Nat) (hu : u < p.length) => plan_idx hok p[u] (List.getElem_mem hu))
      have hRS := Lib.hid (fun (u : Nat) (hu : u < p.length) => Nat.le_trans (row_short hu) (plan_short hv hok))
      clear hA he hbo
      go_enter Try.func15, Try.ntmps15
      go_upto_region 1 with (fail)
      rw [← hX]
      clear hX
      go_upto_region 9 with (first
        | (go_at_call 40; (with_reducible refine (AN.out _ hQ).mono ?_); rintro e wz ⟨b1, c1, rfl, o1, r1, hb⟩; replace hQ := q_on hQ hb; replace hx := HC.out _ hQ; dsimp only)
        | (go_at_call 37; (with_reducible refine (DValid_is _ _ _ _ h true hvd.out _ (M.out _ hQ)).mono ?_); rintro e w2 ⟨rfl, hb⟩; replace hQ := q_on hQ hb; replace hx := HC.out _ hQ; dsimp only))
      have hQ0 := hQ
      have o1c := o1.1
      clear hx hb
      go_loopw [9, 10, 11, 12, 13, 14, 15] (fun vb i d1 d2 d3 d4 d5 V => ∃ u : Nat, u ≤ p.length ∧ i = .int .i64 u ∧ OwnRows V wz.heap.size 42 vb (byPlan h (p.take u)) ∧ Below wz.heap.size wz V) (fun _ i _ _ _ _ _ _ => p.length - (intOf i).toNat)
      case atStart => exact ⟨0, Nat.zero_le _, rfl, OwnRows.nil _ _ _, Below.refl _ _⟩
      case round =>
        obtain ⟨W0, hW0⟩ : ∃ W0 : World, W0 = wr := ⟨_, rfl⟩
        subst hW0
        obtain ⟨u, hu, rfl, hown, hb1⟩ := hrel
        have hQ1 := q_on hQ0 hb1
        have hx := HC.out _ hQ1
        by_cases hlt : u < p.length
        · have hrow := r1.mono hb1
          obtain ⟨b2, o2, ar, cr, rfl, hb2z, hcell, hsr, hir⟩ := hrow u hlt
          have hbn := Lib.hid (hBN.out u hlt)
          have hbl := Lib.hid (hBL.out u hu)
          have hri := Lib.hid (hRI.out u hlt)
          have hrs := hRS.out u hlt
          have g1 : (u : Int) < p.length := by omega
          have g2 : (u : Int) < c1 := by omega
          have hsrl := hsr.len
          have hsrc := hsr.1
          obtain ⟨row, hrw⟩ : ∃ row, row = p[u] := ⟨_, rfl⟩
          rw [← hrw] at hcell hsr hir hrs hsrl hsrc
          have hBT0 : byTo h row 0 = [] := rfl
          have hBTA := Lib.hid (byTo_all h row)
          have hRI2 := Lib.hid (fun x (hx : x ∈ row) => hri.out x (hrw ▸ hx))
          replace hrw := Lib.hid hrw
          replace hBT0 := Lib.hid hBT0
          go_upto_region 13 with (fail)
          go_loopw [11, 12, 13, 14, 15] (fun vl i d1 d2 d3 V => ∃ (k : Nat) (a : Option Addr) (c : Nat), k ≤ row.length ∧ i = .int .i64 k ∧ vl = .slice a (byTo h row k).length c ∧ SlOk a (byTo h row k).length c ∧ IntsC V a (byTo h row k) ∧ (∀ ad, a = some ad → W0.heap.size ≤ ad.block ∧ ad.block < V.heap.size) ∧ Below W0.heap.size W0 V) (fun _ i _ _ _ _ => row.length - (intOf i).toNat)
          case atStart => exact ⟨0, none, 0, Nat.zero_le _, rfl, by rw [hBT0.out]; rfl, by rw [hBT0.out]; exact ⟨by simp, by omega, fun _ => rfl⟩, by rw [hBT0.out]; exact IntsC.nil _ _, (fun ad e => by cases e), Below.refl _ _⟩
          case round =>
            obtain ⟨W1, hW1⟩ : ∃ W1 : World, W1 = wr := ⟨_, rfl⟩
            subst hW1
            obtain ⟨k, al, cl, hk, rfl, rfl, hso, hio, hbk, hb2⟩ := hrel
            have hQ2 := q_on hQ1 hb2
            clear hx
            have hx := HC.out _ hQ2
            have q1 := cell_below hb2 hcell
            have q1z := lt_of_cell q1
            by_cases hlk : k < row.length
            · have hsucc := byTo_succ h row k hlk
              have hLl : (byTo h row k).length ≤ 5 := by rw [byTo_len]; omega
              have hLm : ∀ x ∈ byTo h row k, 0 ≤ x ∧ x < (h.customers.length : Int) := fun x hx => hRI2.out x (byTo_sub h row k x hx)
              have hy := hRI2.out _ (List.getElem_mem hlk)
              obtain ⟨b3, o3, e3, hb3z, hc3⟩ := (hir.mono hb2) k hlk
              have g3 : (k : Int) < row.length := by omega
              have g4 : (k : Int) < cr := by omega
              generalize row[k] = y at hsucc hy hc3
              obtain ⟨c, rfl⟩ : ∃ c : Nat, y = (c : Int) := ⟨y.toNat, by omega⟩
              generalize byTo h row k = L at *
              have hcn : c < h.customers.length := by omega
              have gc : (c : Int) < h.customers.length := by omega
              have gc2 : (c : Int) < kc := by omega
              have hsc := shipD_is hcn
              obtain ⟨b4, o4, e4, -, -, -, -, -, k4⟩ := (M.out _ hQ2).custs c hcn
              subst e3
              subst e4
              go_upto_region 16 with (fail)
              clear hx
              go_loopw [14] (fun va V => ∃ j : Nat, j ≤ L.length ∧ va = .int .i64 j ∧ posTo h L (c : Int) L.length = posTo h L (c : Int) j ∧ Below W1.heap.size W1 V) (fun va _ => (intOf va).toNat)
              case atStart => exact ⟨L.length, Nat.le_refl _, rfl, rfl, Below.refl _ _⟩
              case round =>
                obtain ⟨W2, hW2⟩ : ∃ W2 : World, W2 = wr := ⟨_, rfl⟩
                subst hW2
                obtain ⟨j, hj, rfl, hpos, hb3⟩ := hrel
                have hQ3 := q_on hQ2 hb3
                have hx := HC.out _ hQ3
                have QT := Lib.hid (fun (n : Nat) => hb3.trans (below_drewN' (Below.refl W1.heap.size W2) n))
                by_cases hj0 : j = 0
                · have hd := decide_eq_false (show ¬ (0 : Int) < (j : Int) by omega)
                  have hdN := decide_eq_false (show ¬ 0 < j by omega)
                  have hpj : posTo h L (c : Int) L.length = j := by rw [hpos, hj0]; rfl
                  clear hpos
                  replace hj0 := Lib.hid hj0
                  go_upto_region 16 with (fail)
                  go_quiet (fail)
                  go_upto_region 18 with (fail)
                  have hb3 := QT.out nq
                  generalize World.drewN W2 nq = W3 at hb3 ⊢
                  have hpos := hpj
                  have hjl := hj
                  have hput : putC h L (c : Int) = L.take j ++ (c : Int) :: L.drop j := by unfold putC; rw [hpos]
                  rw [hput] at hsucc
                  replace hsucc := Lib.hid hsucc
                  clear hput hpos
                  have hjI : (j : Int) ≤ L.length := by omega
                  have hj0 : (0 : Int) ≤ (j : Int) := by omega
                  have hio3 := hio.mono hb3
                  have hz3 := hb3.size
                  have hLc := hso.1
                  go_upto_region 19 with (at_builtin; go_must (refine wpList_app (.tmp 89) (.tmp 92) E_int rfl rfl rfl rfl W3.heap.size 0 (L.length - j) [] (List.drop j (L.map (Value.int .i64))) (made_row W3 _ 1) ?g1 (by omega) (by decide) (by simp) ?_; (case g1 => go_simp; first | exact (SrcAt.dropI hso hio3 hjl).below ((Below.refl _ _).alloc (Nat.le_refl _) _) | (have h9 := (SrcAt.dropI hso hio3 hjl).below ((Below.refl _ _).alloc (Nat.le_refl _) (.cells #[] 3)); simp only [Option.map_some, Addr.add_lit] at h9; exact h9)); intro v5 w5 ho5 hg5 _; (have hb5 := app_fresh hg5); (simp only [Nat.zero_add, List.nil_append] at ho5); clear hg5; simp only [Act.put, List.setIfInBounds_toArray, List.set_cons_succ, List.set_cons_zero]))
                  have hdl : List.drop j (L.map (Value.int .i64)) = (L.drop j).map (Value.int .i64) := by rw [List.map_drop]
                  rw [hdl] at ho5
                  obtain ⟨a5, c5, rfl, hso5, hio5⟩ := IntsV.of_own ho5
                  have hl5 : (L.drop j).length = L.length - j := by simp
                  rw [hl5] at hso5
                  have hio5b := hio3.mono hb5
                  clear hdl ho5
                  have hsrc5 : ∀ (V : World), Below w5.heap.size w5 V → SrcAt V (.slice a5 (L.drop j).length c5) (L.length - j) 1 ((L.drop j).map (Value.int .i64)) := fun V hq => by
                    have h9 := SrcAt.ints (c := c5) hso5.2.2 (hio5.mono hq)
                    rw [hl5] at h9 ⊢
                    exact h9
                  replace hl5 := Lib.hid hl5
                  replace hsrc5 := Lib.hid hsrc5
                  go_wp2_with (first
                    | (at_builtin; have hh := hb7; go_must (refine wpList_app (.tmp 101) (.tmp 102) E_int rfl rfl rfl rfl w5.heap.size (j + 1) (L.length - j) ((L.take j).map (Value.int .i64) ++ [Value.int .i64 (c : Int)]) ((L.drop j).map (Value.int .i64)) ho7 ?g1 (by omega) (by decide) (by have := hb7.size; omega) ?_; (case g1 => go_simp; have h9 := hsrc5.out _ hb7; (try rw [hl5.out] at h9); (try rw [List.map_drop] at h9); exact h9); intro v8 w8 ho8 hg8 _; (have hb8 := hb7.grown hg8 hb7.size (fun k e => (ho7.lt k e).1)); clear hg8; simp only [Act.put, List.setIfInBounds_toArray, List.set_cons_succ, List.set_cons_zero]))
                    | (at_builtin; have hh := hb6; go_must (refine wpList_app (.tmp 98) (.tmp 100) E_int rfl rfl rfl rfl w5.heap.size j 1 ((L.take j).map (Value.int .i64)) [.int .i64 (c : Int)] (ho6.alloc _) (SrcAt.one _ _ _ rfl) (by omega) (by decide) (by have := hb6.size; simp; omega) ?_; intro v7 w7 ho7 hg7 _; (have hb7 := app_next hb6 (Nat.le_refl _) (Nat.le_refl _) ho6 hg7); clear hg7; simp only [Act.put, List.setIfInBounds_toArray, List.set_cons_succ, List.set_cons_zero]))
                    | (at_builtin; go_must (refine wpList_app (.tmp 94) (.tmp 97) E_int rfl rfl rfl rfl w5.heap.size 0 j [] ((L.take j).map (Value.int .i64)) (made_row w5 _ 1) ?g1 (by omega) (by decide) (by simp) ?_; (case g1 => go_simp; (try rw [← List.map_take]); exact (SrcAt.takeI hso.2.2 hio5b hjl).below ((Below.refl _ _).alloc (Nat.le_refl _) _)); intro v6 w6 ho6 hg6 _; (have hb6 := app_fresh hg6); (simp only [Nat.zero_add, List.nil_append] at ho6); clear hg6; simp only [Act.put, List.setIfInBounds_toArray, List.set_cons_succ, List.set_cons_zero])))
                  have hel : ((L.take j).map (Value.int .i64) ++ [Value.int .i64 (c : Int)]) ++ (L.drop j).map (Value.int .i64) = (L.take j ++ (c : Int) :: L.drop j).map (Value.int .i64) := by simp
                  rw [hel, ← hsucc.out] at ho8
                  have hW1s := hb2.size
                  have h35 := hb3.trans (hb5.mono hb3.size)
                  obtain ⟨a8, c8, rfl, hso8, hio8⟩ := IntsV.of_own ho8
                  have hbk : ∀ ad, a8 = some ad → W0.heap.size ≤ ad.block ∧ ad.block < w8.heap.size := fun ad e => by
                    subst e
                    have h9 := ho8.lt ad.block (by obtain ⟨b, off, sp⟩ := ad; rcases ho8.2 with ⟨h9, _⟩ | ⟨g, cap, cur, h9, _⟩
                                                   · cases h9
                                                   · injection h9 with h9 _ _; injection h9 with h9; rw [h9]; rfl)
                    have := h35.size
                    omega
                  go_roundw
                  case rel => exact ⟨k + 1, a8, c8, by omega, by go_num, rfl, hso8, hio8, hbk, hb2.trans ((h35.trans (hb8.mono h35.size)).mono hb2.size)⟩
                  case measure => simp [intOf]; omega
                · have hd := decide_eq_true (show (0 : Int) < (j : Int) by omega)
                  have hdN := decide_eq_true (show 0 < j by omega)
                  obtain ⟨i, hi⟩ : ∃ i, j = i + 1 := ⟨j - 1, by omega⟩
                  have hil : i < L.length := by omega
                  have hjw : IntKind.i64.wrap ((j : Int) - 1) = (i : Int) := by rw [wrap_id (by omega) (by omega)]; omega
                  have hps1 := pos_step h L (c : Int) i hil
                  rw [← hi, hsc] at hps1
                  obtain ⟨b5, o5, e5, -, hc5⟩ := (hio.mono hb3) i hil
                  have hd0 := hLm _ (List.getElem_mem hil)
                  obtain ⟨d, hdd⟩ : ∃ d : Nat, L[i] = (d : Int) := ⟨L[i].toNat, by omega⟩
                  rw [hdd] at hps1 hc5 hd0
                  have hdn : d < h.customers.length := by omega
                  have gd : (d : Int) < h.customers.length := by omega
                  have gd2 : (d : Int) < kc := by omega
                  rw [shipD_is hdn] at hps1
                  obtain ⟨b6, o6, e6, -, -, -, -, -, k6⟩ := (M.out _ hQ3).custs d hdn
                  obtain ⟨rfl, rfl⟩ : b6 = b4 ∧ o6 = o4 := by injection e6 with e6; injection e6 with h1 h2 _; exact ⟨h1.symm, h2.symm⟩
                  have k4' := cell_below hb3 k4
                  have z4 := lt_of_cell k4'
                  have z6 := lt_of_cell k6
                  have z5 := lt_of_cell hc5
                  have hilI : (i : Int) < L.length := by omega
                  have hiclI : (i : Int) < cl := by have := hso.1; omega
                  replace hdd := Lib.hid hdd
                  generalize h.customers[c].ship = shc at hps1 k4'
                  generalize h.customers[d].ship = shd at hps1 k6
                  by_cases hs : shc < shd
                  · have hd2 := decide_eq_true hs
                    rw [if_pos hs] at hps1
                    replace hi := Lib.hid hi
                    subst e5
                    go_upto_region 16 with (fail)
                    go_quiet (fail)
                    go_wp2
                    go_roundw
                    case rel => exact ⟨i, by omega, by first | go_num | (rw [hjw]), hpos.trans hps1, QT.out nq⟩
                    case measure => simp [intOf]; have := hi.out; omega
                  · have hd2 := decide_eq_false hs
                    rw [if_neg hs] at hps1
                    have hpj : posTo h L (c : Int) L.length = j := by rw [hpos, hps1, hi]
                    clear hps1 hpos
                    replace hi := Lib.hid hi
                    clear hjw
                    have hjw : IntKind.i64.wrap ((j : Int) - 1) = (i : Int) := by rw [wrap_id (by omega) (by omega)]; have := hi.out; omega
                    subst e5
                    go_upto_region 16 with (fail)
                    go_quiet (fail)
                    go_upto_region 18 with (fail)
                    clear hjw k4' z4 z6 z5 hc5 k6
                    have hb3 := QT.out nq
                    generalize World.drewN W2 nq = W3 at hb3 ⊢
                    have hpos := hpj
                    have hjl := hj
                    have hput : putC h L (c : Int) = L.take j ++ (c : Int) :: L.drop j := by unfold putC; rw [hpos]
                    rw [hput] at hsucc
                    replace hsucc := Lib.hid hsucc
                    clear hput hpos
                    have hjI : (j : Int) ≤ L.length := by omega
                    have hj0 : (0 : Int) ≤ (j : Int) := by omega
                    have hio3 := hio.mono hb3
                    have hz3 := hb3.size
                    have hLc := hso.1
                    go_upto_region 19 with (at_builtin; go_must (refine wpList_app (.tmp 89) (.tmp 92) E_int rfl rfl rfl rfl W3.heap.size 0 (L.length - j) [] (List.drop j (L.map (Value.int .i64))) (made_row W3 _ 1) ?g1 (by omega) (by decide) (by simp) ?_; (case g1 => go_simp; first | exact (SrcAt.dropI hso hio3 hjl).below ((Below.refl _ _).alloc (Nat.le_refl _) _) | (have h9 := (SrcAt.dropI hso hio3 hjl).below ((Below.refl _ _).alloc (Nat.le_refl _) (.cells #[] 3)); simp only [Option.map_some, Addr.add_lit] at h9; exact h9)); intro v5 w5 ho5 hg5 _; (have hb5 := app_fresh hg5); (simp only [Nat.zero_add, List.nil_append] at ho5); clear hg5; simp only [Act.put, List.setIfInBounds_toArray, List.set_cons_succ, List.set_cons_zero]))
                    have hdl : List.drop j (L.map (Value.int .i64)) = (L.drop j).map (Value.int .i64) := by rw [List.map_drop]
                    rw [hdl] at ho5
                    obtain ⟨a5, c5, rfl, hso5, hio5⟩ := IntsV.of_own ho5
                    have hl5 : (L.drop j).length = L.length - j := by simp
                    rw [hl5] at hso5
                    have hio5b := hio3.mono hb5
                    clear hdl ho5
                    have hsrc5 : ∀ (V : World), Below w5.heap.size w5 V → SrcAt V (.slice a5 (L.drop j).length c5) (L.length - j) 1 ((L.drop j).map (Value.int .i64)) := fun V hq => by
                      have h9 := SrcAt.ints (c := c5) hso5.2.2 (hio5.mono hq)
                      rw [hl5] at h9 ⊢
                      exact h9
                    replace hl5 := Lib.hid hl5
                    replace hsrc5 := Lib.hid hsrc5
                    go_wp2_with (first
                      | (at_builtin; have hh := hb7; go_must (refine wpList_app (.tmp 101) (.tmp 102) E_int rfl rfl rfl rfl w5.heap.size (j + 1) (L.length - j) ((L.take j).map (Value.int .i64) ++ [Value.int .i64 (c : Int)]) ((L.drop j).map (Value.int .i64)) ho7 ?g1 (by omega) (by decide) (by have := hb7.size; omega) ?_; (case g1 => go_simp; have h9 := hsrc5.out _ hb7; (try rw [hl5.out] at h9); (try rw [List.map_drop] at h9); exact h9); intro v8 w8 ho8 hg8 _; (have hb8 := hb7.grown hg8 hb7.size (fun k e => (ho7.lt k e).1)); clear hg8; simp only [Act.put, List.setIfInBounds_toArray, List.set_cons_succ, List.set_cons_zero]))
                      | (at_builtin; have hh := hb6; go_must (refine wpList_app (.tmp 98) (.tmp 100) E_int rfl rfl rfl rfl w5.heap.size j 1 ((L.take j).map (Value.int .i64)) [.int .i64 (c : Int)] (ho6.alloc _) (SrcAt.one _ _ _ rfl) (by omega) (by decide) (by have := hb6.size; simp; omega) ?_; intro v7 w7 ho7 hg7 _; (have hb7 := app_next hb6 (Nat.le_refl _) (Nat.le_refl _) ho6 hg7); clear hg7; simp only [Act.put, List.setIfInBounds_toArray, List.set_cons_succ, List.set_cons_zero]))
                      | (at_builtin; go_must (refine wpList_app (.tmp 94) (.tmp 97) E_int rfl rfl rfl rfl w5.heap.size 0 j [] ((L.take j).map (Value.int .i64)) (made_row w5 _ 1) ?g1 (by omega) (by decide) (by simp) ?_; (case g1 => go_simp; (try rw [← List.map_take]); exact (SrcAt.takeI hso.2.2 hio5b hjl).below ((Below.refl _ _).alloc (Nat.le_refl _) _)); intro v6 w6 ho6 hg6 _; (have hb6 := app_fresh hg6); (simp only [Nat.zero_add, List.nil_append] at ho6); clear hg6; simp only [Act.put, List.setIfInBounds_toArray, List.set_cons_succ, List.set_cons_zero])))
                    have hel : ((L.take j).map (Value.int .i64) ++ [Value.int .i64 (c : Int)]) ++ (L.drop j).map (Value.int .i64) = (L.take j ++ (c : Int) :: L.drop j).map (Value.int .i64) := by simp
                    rw [hel, ← hsucc.out] at ho8
                    have hW1s := hb2.size
                    have h35 := hb3.trans (hb5.mono hb3.size)
                    obtain ⟨a8, c8, rfl, hso8, hio8⟩ := IntsV.of_own ho8
                    have hbk : ∀ ad, a8 = some ad → W0.heap.size ≤ ad.block ∧ ad.block < w8.heap.size := fun ad e => by
                      subst e
                      have h9 := ho8.lt ad.block (by obtain ⟨b, off, sp⟩ := ad; rcases ho8.2 with ⟨h9, _⟩ | ⟨g, cap, cur, h9, _⟩
                                                     · cases h9
                                                     · injection h9 with h9 _ _; injection h9 with h9; rw [h9]; rfl)
                      have := h35.size
                      omega
                    go_roundw
                    case rel => exact ⟨k + 1, a8, c8, by omega, by go_num, rfl, hso8, hio8, hbk, hb2.trans ((h35.trans (hb8.mono h35.size)).mono hb2.size)⟩
                    case measure => simp [intOf]; omega
            · obtain rfl : k = row.length := by omega
              have hall := hBTA.out
              rw [hall] at hso hio
              have hx2 := hb2.size
              obtain ⟨vs, hvs, hrows⟩ := hown
              have hvs2 := own_below hvs hb2
              have hbl2 := hbl.out
              rw [hbl2] at hvs hvs2
              have hrl : (byTo h row row.length).length = (byRow h row).length := by rw [hall]
              have hW0z := hb1.size
              go_upto_region 20 with (fail)
              rw [hrl]
              clear hrl
              have hpush := fun (v' : Value) (w2 : World) (tmp : Obj) (hown : w2.ownsRow wz.heap.size 42 1 v' ((byPlan h (p.take u)).length + 1) (vs ++ [.slice al (byRow h row).length cl])) hg hv => OwnRows.push (tmp := tmp) (v' := v') (by rw [hbl2]; exact hvs) hrows hb2 hio hso hbk hown hg hv
              rw [hbl2] at hpush
              replace hpush := Lib.hid hpush
              replace hall := Lib.hid hall
              go_wp2_with (at_builtin; go_must (refine wpList_app (.tmp 104) (.tmp 106) E_ints rfl rfl rfl rfl wz.heap.size u 1 vs [.slice al (byRow h row).length cl] (hvs2.alloc _) (SrcAt.one _ _ _ rfl) (by omega) (by decide) (by simp; omega) ?_; intro v9 w9 ho9 hg9 hn9; have hp9 := hpush.out _ _ _ ho9 hg9 hn9; (have hb9 := app_next (hb1.trans (hb2.mono hb1.size)) (Nat.le_refl _) (Nat.le_refl _) hvs2 hg9); clear hg9 hn9; simp only [Act.put, List.setIfInBounds_toArray, List.set_cons_succ, List.set_cons_zero]))
              go_roundw
              case rel => exact ⟨u + 1, by omega, by go_num, by rw [hbn.out, ← hrw.out]; exact hp9, hb9⟩
              case measure => simp [intOf]; omega
        · obtain rfl : u = p.length := by omega
          rw [hBP.out] at hown
          obtain ⟨a7, c7, rfl, o7, r7⟩ := hown.rows
          have r1 := r1.mono hb1
          have hQ := hQ1
          replace hpl := hpl
          clear hown hb1
          generalize byPlan h p = by_ at hfb hbs hcmp hvalb o7 r7
          generalize deDoes h p = n at hfe hcmp hvals
          generalize deDoes h by_ = m at hfb hcmp hvalb
          obtain ⟨hc1, hc2⟩ := hcmp
          replace hfe := Lib.hid hfe
          replace hfb := Lib.hid hfb
          by_cases h1 : n = 1
          · have hm1 := hc1 h1
            subst h1
            subst hm1
            clear hc1 hc2 hvals hvalb
            go_wp2_with (first
              | (go_at_call 23; (with_reducible refine (DAwake_any _).mono ?_); rintro e w22 ⟨rfl, hb⟩; replace hQ := q_on hQ hb; replace hx := HC.out _ hQ; dsimp only)
              | (go_at_call 21; (with_reducible refine (DA_Fate _ _ _ _ h _ by_ _ 1 0 hfb.out _ (M.out _ hQ) o7 hbs r7).mono ?_); rintro e w21 ⟨rfl, hb⟩; replace r1 := r1.mono hb; replace r7 := r7.mono hb; replace hQ := q_on hQ hb; replace hx := HC.out _ hQ; dsimp only)
              | (go_at_call 21; (with_reducible refine (DA_Fate _ _ _ _ h _ p _ 1 0 hfe.out _ (M.out _ hQ) o1 hps r1).mono ?_); rintro e w20 ⟨rfl, hb⟩; replace r1 := r1.mono hb; replace r7 := r7.mono hb; replace hQ := q_on hQ hb; replace hx := HC.out _ hQ; dsimp only))
            go_ret
            exact ⟨rfl, hwX.trans (hQ.mono hwX.size)⟩
          · have k1 := nei_t h1
            by_cases h2 : m = 2
            · have hn2 := hc2 h2
              subst h2
              subst hn2
              clear hc1 hc2 hvals hvalb h1
              go_wp2_with (first
                | (go_at_call 23; (with_reducible refine (DAwake_any _).mono ?_); rintro e w22 ⟨rfl, hb⟩; replace hQ := q_on hQ hb; replace hx := HC.out _ hQ; dsimp only)
                | (go_at_call 21; (with_reducible refine (DA_Fate _ _ _ _ h _ by_ _ 2 0 hfb.out _ (M.out _ hQ) o7 hbs r7).mono ?_); rintro e w21 ⟨rfl, hb⟩; replace r1 := r1.mono hb; replace r7 := r7.mono hb; replace hQ := q_on hQ hb; replace hx := HC.out _ hQ; dsimp only)
                | (go_at_call 21; (with_reducible refine (DA_Fate _ _ _ _ h _ p _ 2 0 hfe.out _ (M.out _ hQ) o1 hps r1).mono ?_); rintro e w20 ⟨rfl, hb⟩; replace r1 := r1.mono hb; replace r7 := r7.mono hb; replace hQ := q_on hQ hb; replace hx := HC.out _ hQ; dsimp only))
              go_ret
              exact ⟨rfl, hwX.trans (hQ.mono hwX.size)⟩
            · have k2 := nei_t h2
              clear hc1 hc2 hvals hvalb h1 h2
              go_wp2_with (first
                | (go_at_call 23; (with_reducible refine (DAwake_any _).mono ?_); rintro e w22 ⟨rfl, hb⟩; replace hQ := q_on hQ hb; replace hx := HC.out _ hQ; dsimp only)
                | (go_at_call 21; (with_reducible refine (DA_Fate _ _ _ _ h _ by_ _ m 0 hfb.out _ (M.out _ hQ) o7 hbs r7).mono ?_); rintro e w21 ⟨rfl, hb⟩; replace r1 := r1.mono hb; replace r7 := r7.mono hb; replace hQ := q_on hQ hb; replace hx := HC.out _ hQ; dsimp only)
                | (go_at_call 21; (with_reducible refine (DA_Fate _ _ _ _ h _ p _ n 0 hfe.out _ (M.out _ hQ) o1 hps r1).mono ?_); rintro e w20 ⟨rfl, hb⟩; replace r1 := r1.mono hb; replace r7 := r7.mono hb; replace hQ := q_on hQ hb; replace hx := HC.out _ hQ; dsimp only))
              go_ret
              exact ⟨rfl, hwX.trans (hQ.mono hwX.size)⟩
  · have hvd := Lib.hid (decide_eq_false he)
    have hpe := ends_bad he []
    have hbe : deFate h [] = (0, deErr h) := by unfold deFate; rw [if_neg (by rw [hpe]; exact he), hpe]
    have hne := nei_t he
    have FT := fun (V : World) (hq : Below X.heap.size X V) => DA_Fate aw ac kw kc h none [] 0 0 (deErr h) hbe V (M.out _ hq) ⟨by simp, by omega, fun _ => rfl⟩ (by simp) (RowsC.nil _ _)
    obtain ⟨er, her⟩ : ∃ er, er = deErr h := ⟨_, rfl⟩
    rw [← her] at hne FT
    rw [List.length_nil] at FT
    replace FT := Lib.hid FT
    clear he her hbe hpe
    go_enter Try.func15, Try.ntmps15
    go_upto_region 1 with (fail)
    rw [← hX]
    clear hX
    go_wp2_with (first
      | (go_at_call 23; (with_reducible refine (DAwake_any _).mono ?_); rintro e w4 ⟨rfl, hb⟩; replace hQ := q_on hQ hb; replace hx := HC.out _ hQ; dsimp only)
      | (go_at_call 21; (with_reducible refine (FT.out _ hQ).mono ?_); rintro e w3 ⟨rfl, hb⟩; replace hQ := q_on hQ hb; replace hx := HC.out _ hQ; dsimp only)
      | (go_at_call 37; (with_reducible refine (DValid_is _ _ _ _ h false hvd.out _ (M.out _ hQ)).mono ?_); rintro e w2 ⟨rfl, hb⟩; replace hQ := q_on hQ hb; replace hx := HC.out _ hQ; dsimp only))
    go_ret
    exact ⟨rfl, hwX.trans (hQ.mono hwX.size)⟩
end Go.Proofs.Ytchnpekgmkhacaa
