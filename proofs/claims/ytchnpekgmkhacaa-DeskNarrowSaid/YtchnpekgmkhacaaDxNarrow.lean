/- What is proved here: the walk of DeskNarrow: it returns true, and turns nothing that was there. Conditions: the hall lies in memory. -/
import Derived.Test.YtchnpekgmkhacaaDxCopy
set_option linter.unusedVariables false
set_option linter.unusedSimpArgs false
namespace Go.Proofs.Ytchnpekgmkhacaa
open Go Go.RowKit Go.Shelf
theorem row_cons (l : List Int) (h : 0 < l.length) : l = l[0] :: l.tail := by
  cases l with
  | nil => exact absurd h (Nat.lt_irrefl _)
  | cons x l => rfl
theorem cust_at {h : DeH} {c : Nat} (hc : c < h.customers.length) : customerAt h c = h.customers[c] := by unfold customerAt; rw [List.getElem?_eq_getElem hc]; rfl
theorem writ_at {h : DeH} {c : Nat} (hc : c < h.writers.length) : writerAt h c = h.writers[c] := by unfold writerAt; rw [List.getElem?_eq_getElem hc]; rfl
set_option maxRecDepth 100000 in
set_option maxHeartbeats 16000000 in
theorem DeskNarrow_walk (aw ac : Option Addr) (kw kc : Nat) (h : DeH) (ax : Option Addr) (x : List Int) (cx : Nat) (y0 y1 y2 y3 : Nat) (w : World) (hm : HallC w aw ac kw kc h) (hox : SlOk ax x.length cx) (hix : BytesC w ax x) (gy0 : y0 ≤ 255) (gy1 : y1 ≤ 255) (gy2 : y2 ≤ 255) (gy3 : y3 ≤ 255) : Calls Try.prog 13 #[(.agg #[.int .i64 h.wax, .slice aw h.writers.length kw, .slice ac h.customers.length kc]), .slice ax x.length cx, .agg #[.int .u8 (y0 : Int), .int .u8 (y1 : Int), .int .u8 (y2 : Int), .int .u8 (y3 : Int)]] w fun e w' => e = .returned (.bool true) ∧ Below w.heap.size w w' := by
  obtain ⟨X, hX⟩ : ∃ X : World, X = ((w.alloc (.cells #[.int .i64 h.wax, .slice aw h.writers.length kw, .slice ac h.customers.length kc] 25)).alloc (.cells #[.int .u8 (y0 : Int), .int .u8 (y1 : Int), .int .u8 (y2 : Int), .int .u8 (y3 : Int)] 70)) := ⟨_, rfl⟩
  have hwX : Below w.heap.size w X := by rw [hX]; exact (by (repeat' (first | assumption | exact Below.refl _ _ | refine below_drew' ?_ | refine Below.setCell ?_ (by first | omega | (simp <;> omega)) _ | refine Below.alloc ?_ (by first | omega | (simp <;> omega)) _)))
  have g1 : X.heap[w.heap.size]? = some (.cells #[.int .i64 h.wax, .slice aw h.writers.length kw, .slice ac h.customers.length kc] 25 (0, 0)) := by rw [hX]; (repeat' (first | exact alloc_at _ _ (by simp) | refine (heap_alloc_old _ _ (by first | omega | (simp <;> omega))).trans ?_))
  have g2 : X.heap[w.heap.size + 1]? = some (.cells #[.int .u8 (y0 : Int), .int .u8 (y1 : Int), .int .u8 (y2 : Int), .int .u8 (y3 : Int)] 70 (0, 0)) := by rw [hX]; (repeat' (first | exact alloc_at _ _ (by simp) | refine (heap_alloc_old _ _ (by first | omega | (simp <;> omega))).trans ?_))
  replace g1 := fun (V : World) (h : Below X.heap.size X V) => (h.block _ (lt_of_block g1)).trans g1
  replace g2 := fun (V : World) (h : Below X.heap.size X V) => (h.block _ (lt_of_block g2)).trans g2
  have HC : Hid (∀ V, Below X.heap.size X V → (V.cell? ⟨w.heap.size, 0, none⟩ = some (.int .i64 h.wax) ∧ V.cell? ⟨w.heap.size, 1, none⟩ = some (.slice aw h.writers.length kw) ∧ V.cell? ⟨w.heap.size, 2, none⟩ = some (.slice ac h.customers.length kc) ∧ V.cell? ⟨w.heap.size + 1, 0, none⟩ = some (.int .u8 (y0 : Int)) ∧ V.cell? ⟨w.heap.size + 1, 1, none⟩ = some (.int .u8 (y1 : Int)) ∧ V.cell? ⟨w.heap.size + 1, 2, none⟩ = some (.int .u8 (y2 : Int)) ∧ V.cell? ⟨w.heap.size + 1, 3, none⟩ = some (.int .u8 (y3 : Int)) ∧ w.heap.size < V.heap.size ∧ w.heap.size + 1 < V.heap.size)) := Lib.hid (fun V h => ⟨blk_cell 0 (g1 V h) rfl, blk_cell 1 (g1 V h) rfl, blk_cell 2 (g1 V h) rfl, blk_cell 0 (g2 V h) rfl, blk_cell 1 (g2 V h) rfl, blk_cell 2 (g2 V h) rfl, blk_cell 3 (g2 V h) rfl, lt_of_block (g1 V h), lt_of_block (g2 V h)⟩)
  have M := Lib.hid (fun (V : World) (h : Below X.heap.size X V) => (hm.mono hwX).mono h)
  clear g1 g2
  have hQ := Below.refl X.heap.size X
  have hx := HC.out _ hQ
  have MX := Lib.hid (fun (V : World) (h : Below X.heap.size X V) => (hix.mono hwX).mono h)
  by_cases he : deErr h = 0
  · have hvd := Lib.hid (decide_eq_true he)
    have hv := deValid_of he
    cases hA : anyD h x with
    | none =>
      have AN := Lib.hid (fun (V : World) (hq : Below X.heap.size X V) => DAny_none aw ac kw kc h ax x cx hA V (M.out _ hq) hv hox (MX.out _ hq))
      clear hA he
      go_enter Try.func13, Try.ntmps13
      go_upto_region 1 with (fail)
      rw [← hX]
      clear hX
      go_wp2_with (first
        | (go_at_call 23; (with_reducible refine (DAwake_any _).mono ?_); rintro e w4 ⟨rfl, hb⟩; replace hQ := q_on hQ hb; replace hx := HC.out _ hQ; dsimp only)
        | (go_at_call 40; (with_reducible refine (AN.out _ hQ).mono ?_); rintro e w3 ⟨rfl, hb⟩; replace hQ := q_on hQ hb; replace hx := HC.out _ hQ; dsimp only)
        | (go_at_call 37; (with_reducible refine (DValid_is _ _ _ _ h true hvd.out _ (M.out _ hQ)).mono ?_); rintro e w2 ⟨rfl, hb⟩; replace hQ := q_on hQ hb; replace hx := HC.out _ hQ; dsimp only))
      go_ret
      exact ⟨rfl, hwX.trans (hQ.mono hwX.size)⟩
    | some p =>
      have AN := Lib.hid (fun (V : World) (hq : Below X.heap.size X V) => DAny_some aw ac kw kc h ax x cx p hA V (M.out _ hq) hv hox (MX.out _ hq))
      by_cases hz : h.customers.length = 0
      · have q0 := eqi_t (show (h.customers.length : Int) = 0 by omega)
        replace hz := Lib.hid hz
        clear hA he
        go_enter Try.func13, Try.ntmps13
        go_upto_region 1 with (fail)
        rw [← hX]
        clear hX
        go_wp2_with (first
          | (go_at_call 23; (with_reducible refine (DAwake_any _).mono ?_); rintro e w4 ⟨rfl, hb⟩; replace hQ := q_on hQ hb; replace hx := HC.out _ hQ; dsimp only)
          | (go_at_call 40; (with_reducible refine (AN.out _ hQ).mono ?_); rintro e w3 ⟨b1, c1, rfl, o1, r1, hb⟩; replace hQ := q_on hQ hb; replace hx := HC.out _ hQ; dsimp only)
          | (go_at_call 37; (with_reducible refine (DValid_is _ _ _ _ h true hvd.out _ (M.out _ hQ)).mono ?_); rintro e w2 ⟨rfl, hb⟩; replace hQ := q_on hQ hb; replace hx := HC.out _ hQ; dsimp only))
        go_ret
        exact ⟨rfl, hwX.trans (hQ.mono hwX.size)⟩
      · have hok : PlanOk h h.customers.length p := any_ok hA
        have q0 := eqi_f (show (h.customers.length : Int) ≠ 0 by omega)
        have hwn : h.writers.length ≠ 0 := fun e => by
          obtain ⟨u, a, b, hu, _⟩ := plan_has hok (show 0 < h.customers.length by omega)
          omega
        have q1 := eqi_f (show (h.writers.length : Int) ≠ 0 by omega)
        have hnw := hv.nw
        have hnc := hv.nc
        have hwc := hm.okw.1
        have hcc := hm.okc.1
        obtain ⟨i, hid⟩ : ∃ i : Nat, i = y0 % h.customers.length := ⟨_, rfl⟩
        obtain ⟨k, hkd⟩ : ∃ k : Nat, k = y1 % h.writers.length := ⟨_, rfl⟩
        have hi : i < h.customers.length := by rw [hid]; exact Nat.mod_lt _ (by omega)
        have hk : k < h.writers.length := by rw [hkd]; exact Nat.mod_lt _ (by omega)
        have f1 : (y0 : Int) % (h.customers.length : Int) = (i : Int) := by rw [hid]; exact (Int.natCast_emod _ _).symm
        have f2 : (y1 : Int) % (h.writers.length : Int) = (k : Int) := by rw [hkd]; exact (Int.natCast_emod _ _).symm
        have f1t : (y0 : Int).tmod (h.customers.length : Int) = (i : Int) := by rw [Int.tmod_eq_emod_of_nonneg (by omega)]; exact f1
        have f2t : (y1 : Int).tmod (h.writers.length : Int) = (k : Int) := by rw [Int.tmod_eq_emod_of_nonneg (by omega)]; exact f2
        have hci0 : (0 : Int) < (h.customers.length : Int) := by omega
        have hwi0 : (0 : Int) < (h.writers.length : Int) := by omega
        clear hid hkd
        have hcv := hv.c i hi
        have hwv := hv.w k hk
        have eci := cust_at hi
        have ewk := writ_at hk
        obtain ⟨n, hn⟩ : ∃ n, n = someN h.customers[i].lo h.customers[i].hi (y2 : Int) := ⟨_, rfl⟩
        obtain ⟨m, hm9⟩ : ∃ m, m = someN h.writers[k].lo h.writers[k].hi (y3 : Int) := ⟨_, rfl⟩
        have hnb := someN_bd (y2 : Int) (show h.customers[i].lo ≤ h.customers[i].hi by omega)
        have hmb := someN_bd (y3 : Int) (show h.writers[k].lo ≤ h.writers[k].hi by omega)
        rw [← hn] at hnb
        rw [← hm9] at hmb
        have C2 := fun V => DSomeN_any h.customers[i].lo h.customers[i].hi (y2 : Int) V (by omega) (by omega) (by omega) (by omega) (by omega)
        have C3 := fun V => DSomeN_any h.writers[k].lo h.writers[k].hi (y3 : Int) V (by omega) (by omega) (by omega) (by omega) (by omega)
        rw [← hn] at C2
        rw [← hm9] at C3
        clear hn hm9
        have HNA : Narr h (narrowD h i n k m) := narrow_is (by rw [eci]; exact hnb.1) (by rw [ewk]; exact hmb.2)
        have HNE : deErr (narrowD h i n k m) = 0 := narrow_err he hi hk (by rw [eci]; exact hnb) (by rw [ewk]; exact hmb)
        have hg := narr_ok HNA hok
        have hee := Lib.hid (ends_good he hok)
        have heg := Lib.hid (ends_good HNE hg)
        have hps := Nat.le_trans (plan_short hv hok) (show 5 ≤ 1048576 by decide)
        have hNI := fun (j : Nat) s t hs ht => narr_in HNA hok (i := j) (s := s) (t := t) hs ht
        have hSL := fun (j : Nat) s hs => sealed_le hv hok (i := j) (s := s) hs
        have hFS := fun (u : Nat) (c : Int) l hw => first_sealed hok (w := u) (c := c) (l := l) hw
        have hsl := sealed_len h p
        have hsg := sealed_len (narrowD h i n k m) p
        have hcs : (narrowD h i n k m) = ⟨h.wax, h.writers.set k { h.writers[k] with hi := m }, h.customers.set i { h.customers[i] with lo := n }⟩ := by
          unfold narrowD
          rw [← set_modify_w h.writers k hk (fun x => { x with hi := m }), ← set_modify_c h.customers i hi (fun x => { x with lo := n })]
        have hnmW : ∀ x ∈ h.writers.set k { h.writers[k] with hi := m }, x.name.size ≤ 9223372036854775807 := by
          rw [set_modify_w h.writers k hk (fun x => { x with hi := m })]; exact names_w k (fun _ => rfl) hm.wsize
        have hnmC : ∀ x ∈ h.customers.set i { h.customers[i] with lo := n }, x.name.size ≤ 9223372036854775807 := by
          rw [set_modify_c h.customers i hi (fun x => { x with lo := n })]; exact names_c i (fun _ => rfl) hm.csize
        have hlg : (narrowD h i n k m).customers.length = h.customers.length := by unfold narrowD; simp
        generalize narrowD h i n k m = G at *
        have hEG := fun (a1 a2 : Option Addr) (k1 k2 : Nat) (b : Option Addr) (c : Nat) (V : World) (hC : HallC V a1 a2 k1 k2 ⟨h.wax, h.writers.set k { h.writers[k] with hi := m }, h.customers.set i { h.customers[i] with lo := n }⟩) (ho : SlOk b p.length c) (hr : RowsC V b p) => DA_Ends a1 a2 k1 k2 G b p c _ 0 heg.out V (by rw [hcs]; exact hC) ho hps hr
        generalize deSealed h p = S at *
        generalize deSealed G p = T at *
        rw [hcs] at hEG
        have hlT : T.length = S.length := by omega
        clear hcs HNA HNE hg he hA hlg
        obtain ⟨b3, o3, e3, -, j0, j1, j2, j3, j4⟩ := hm.custs i hi
        obtain ⟨b4, o4, e4, -, l0, l1, l2, l3⟩ := hm.writers k hk
        have hcK : (i : Int) < kc := by omega
        have hwK : (k : Int) < kw := by omega
        have hcI : (i : Int) < h.customers.length := by omega
        have hwI : (k : Int) < h.writers.length := by omega
        have KC := fun (V : World) (hq : Below X.heap.size X V) => (⟨cell_below (hwX.trans (hq.mono hwX.size)) j0, cell_below (hwX.trans (hq.mono hwX.size)) j1, cell_below (hwX.trans (hq.mono hwX.size)) j2, cell_below (hwX.trans (hq.mono hwX.size)) j3, cell_below (hwX.trans (hq.mono hwX.size)) j4, cell_below (hwX.trans (hq.mono hwX.size)) l0, cell_below (hwX.trans (hq.mono hwX.size)) l1, cell_below (hwX.trans (hq.mono hwX.size)) l2, cell_below (hwX.trans (hq.mono hwX.size)) l3⟩ : _ ∧ _ ∧ _ ∧ _ ∧ _ ∧ _ ∧ _ ∧ _ ∧ _)
        clear j0 j1 j2 j3 j4 l0 l1 l2 l3
        generalize h.customers[i] = xi at *
        generalize h.writers[k] = yk at *
        obtain ⟨cn, ck, clo, chi, csh⟩ := xi
        obtain ⟨wn, wk, wlo, whi⟩ := yk
        dsimp only at hcv hwv hnb hmb C2 C3 hEG hnmW hnmC KC eci ewk
        replace KC := Lib.hid KC
        replace e3 := Lib.hid e3
        replace e4 := Lib.hid e4
        replace f1 := Lib.hid f1
        replace f2 := Lib.hid f2
        replace f1t := Lib.hid f1t
        replace f2t := Lib.hid f2t
        replace hNI := Lib.hid hNI
        replace hSL := Lib.hid hSL
        replace hFS := Lib.hid hFS
        replace hsl := Lib.hid hsl
        replace hsg := Lib.hid hsg
        replace hlT := Lib.hid hlT
        replace hEG := Lib.hid hEG
        replace hnmW := Lib.hid hnmW
        replace hnmC := Lib.hid hnmC
        replace eci := Lib.hid eci
        replace ewk := Lib.hid ewk
        replace C2 := Lib.hid C2
        replace C3 := Lib.hid C3
        replace hz := Lib.hid hz
        go_enter Try.func13, Try.ntmps13
        go_upto_region 1 with (fail)
        rw [← hX]
        clear hX
        go_upto_region 6 with (first
          | (go_at_call 40; (with_reducible refine (AN.out _ hQ).mono ?_); rintro e wz ⟨b1, c1, rfl, o1, r1, hb⟩; replace hQ := q_on hQ hb; replace hx := HC.out _ hQ; dsimp only)
          | (go_at_call 37; (with_reducible refine (DValid_is _ _ _ _ h true hvd.out _ (M.out _ hQ)).mono ?_); rintro e w2 ⟨rfl, hb⟩; replace hQ := q_on hQ hb; replace hx := HC.out _ hQ; dsimp only))
        have hQ0 := hQ
        clear hb
        obtain ⟨Y, hY⟩ : ∃ Y : World, Y = wz.alloc (.cells #[.int .i64 h.wax, .slice aw h.writers.length kw, .slice ac h.customers.length kc] 25) := ⟨_, rfl⟩
        have hzY : Below wz.heap.size wz Y := by rw [hY]; exact (Below.refl _ _).alloc (Nat.le_refl _) _
        have hYb : Y.heap[wz.heap.size]? = some (.cells #[.int .i64 h.wax, .slice aw h.writers.length kw, .slice ac h.customers.length kc] 25 (0, 0)) := by rw [hY]; exact alloc_at _ _ rfl
        go_upto_region 7 with (fail)
        rw [← hY]
        clear hY hx
        have hQY := q_on hQ0 hzY
        have hx := HC.out _ hQY
        have SR7 := Lib.hid (SrcAt.custs (c := kc) hm.okc.2.2 ((M.out _ hQY).custs.mono (al_on Y (.cells #[] 55))))
        go_upto_region 8 with (at_builtin; go_must (refine wpList_app (.tmp 44) (.tmp 46) E_cust rfl rfl rfl rfl Y.heap.size 0 h.customers.length [] (flatC custCells h.customers) (made_row Y _ 5) SR7.out (by omega) (by decide) (by simp) ?_; intro v7 w7 ho7 hg7 _; (have hb7 := app_fresh hg7); (simp only [Nat.zero_add, List.nil_append] at ho7); (obtain ⟨g7, cap7, rfl⟩ := ownsRow_pos (by omega) ho7); have h7b := (hb7.block _ (lt_of_block hYb)).trans hYb; have x7 := blk_cell 2 h7b rfl; have f7 := blk_free 2 h7b; have z7 := lt_of_block h7b; clear hg7; simp only [Act.put, List.setIfInBounds_toArray, List.set_cons_succ, List.set_cons_zero]))
        obtain ⟨Z7, hZ7⟩ : ∃ Z : World, Z = w7.setCell ⟨wz.heap.size, 2, none⟩ (.slice (some ⟨g7, 0, none⟩) h.customers.length cap7) := ⟨_, rfl⟩
        rw [← hZ7]
        have hzs := hzY.size
        have hbZ7 : Below wz.heap.size wz Z7 := by rw [hZ7]; exact (hzY.trans (hb7.mono hzY.size)).setCell (Nat.le_refl _) _
        have hZ7b : Z7.heap[wz.heap.size]? = some (.cells #[.int .i64 h.wax, .slice aw h.writers.length kw, .slice (some ⟨g7, 0, none⟩) h.customers.length cap7] 25 (0, 0)) := by rw [hZ7]; exact blk_set 2 _ h7b
        have hYz : wz.heap.size < Y.heap.size := lt_of_block hYb
        have hoZ7 : Z7.ownsRow Y.heap.size 55 5 (.slice (some ⟨g7, 0, none⟩) h.customers.length cap7) h.customers.length (flatC custCells h.customers) := by rw [hZ7]; exact ownsRow_setCell_other ho7 (fun e => by have h1 := (ho7.lt g7 rfl).1; have := Option.some.inj e; simp only at this; omega) _
        clear hZ7 x7 f7 z7 h7b ho7 hb7 hYb SR7 hx hQY
        have hQ7 := q_on hQ0 hbZ7
        have hx := HC.out _ hQ7
        have SR8 := Lib.hid (SrcAt.writs (c := kw) hm.okw.2.2 ((M.out _ hQ7).writers.mono (al_on Z7 (.cells #[] 72))))
        go_upto_region 9 with (at_builtin; go_must (refine wpList_app (.tmp 49) (.tmp 51) E_writ rfl rfl rfl rfl Z7.heap.size 0 h.writers.length [] (flatC writCells h.writers) (made_row Z7 _ 4) SR8.out (by omega) (by decide) (by simp) ?_; intro v8 w8 ho8 hg8 _; (have hb8 := app_fresh hg8); (simp only [Nat.zero_add, List.nil_append] at ho8); (obtain ⟨g8, cap8, rfl⟩ := ownsRow_pos (by omega) ho8); have h8b := (hb8.block _ (lt_of_block hZ7b)).trans hZ7b; have x8 := blk_cell 1 h8b rfl; have f8 := blk_free 1 h8b; have z8 := lt_of_block h8b; clear hg8; simp only [Act.put, List.setIfInBounds_toArray, List.set_cons_succ, List.set_cons_zero]))
        obtain ⟨Z8, hZ8⟩ : ∃ Z : World, Z = w8.setCell ⟨wz.heap.size, 1, none⟩ (.slice (some ⟨g8, 0, none⟩) h.writers.length cap8) := ⟨_, rfl⟩
        rw [← hZ8]
        have hbZ8 : Below wz.heap.size wz Z8 := by rw [hZ8]; exact (hbZ7.trans (hb8.mono hbZ7.size)).setCell (Nat.le_refl _) _
        have hbs7 := hbZ7.size
        have hCP : CopyH wz.heap.size wz.heap.size (some ⟨g8, 0, none⟩) (some ⟨g7, 0, none⟩) cap8 cap7 h.wax h.writers h.customers Z8 := by
          have k1 := ho8.lt g8 rfl
          have k2 := (hoZ7.lt g7 rfl)
          have o7' := own_below hoZ7 hb8
          refine ⟨Nat.le_refl _, by rw [hZ8]; exact blk_set 1 _ h8b, ?_, ?_⟩
          · rw [hZ8]
            exact own_base (ownsRow_setCell_other ho8 (fun e => by have := Option.some.inj e; simp only at this; have := lt_of_block hZ7b; omega) _) (by omega)
          · rw [hZ8]
            exact own_base (ownsRow_setCell_other o7' (fun e => by have := Option.some.inj e; simp only at this; omega) _) (by omega)
        clear hZ8 x8 f8 z8 h8b ho8 hb8 hZ7b hoZ7 SR8 hx hQ7 hbZ7 hbs7 hYz hzY
        have hQ8 := q_on hQ0 hbZ8
        have hx := HC.out _ hQ8
        go_quiet (fail)
        simp only [f1.out, f2.out, f1t.out, f2t.out]
        have hbq := below_drewN' hbZ8 nq
        have hCq := hCP.mono (below_drewN' (Below.refl Z8.heap.size Z8) nq)
        generalize World.drewN Z8 nq = W at hbq hCq ⊢
        clear hx hQ8 hbZ8 hCP
        have hQW := q_on hQ0 hbq
        have hx := HC.out _ hQW
        obtain ⟨j0, j1, j2, j3, j4, l0, l1, l2, l3⟩ := KC.out _ hQW
        have zj := lt_of_cell j0
        have zl := lt_of_cell l0
        have e3' := e3.out
        have e4' := e4.out
        clear e3 e4
        subst e3'
        subst e4'
        go_upto_region 10 with (fail)
        go_cut [12, 13] from 68 to 77 (fun pc pw V => ∃ bc bw : Nat, pc = .pointer (some ⟨bc, 0, none⟩) ∧ pw = .pointer (some ⟨bw, 0, none⟩) ∧ bc ≠ bw ∧ W.heap.size ≤ bc ∧ W.heap.size ≤ bw ∧ V.heap[bc]? = some (.cells #[.string cn, .int .i64 ck, .int .i64 clo, .int .i64 chi, .int .i64 csh] 55 (0, 0)) ∧ V.heap[bw]? = some (.cells #[.string wn, .int .i64 wk, .int .i64 wlo, .int .i64 whi] 72 (0, 0)) ∧ Below W.heap.size W V)
        case first =>
          go_region
          all_goals
            go_wp2
            go_meet
            case rel =>
              first
                | exact ⟨W.heap.size, W.heap.size + 1, rfl, rfl, by omega, by omega, by omega, by rw [drew_heap]; exact (heap_alloc_old _ _ (by simp)).trans (alloc_at _ _ rfl), by rw [drew_heap]; exact alloc_at _ _ (by simp), (by (repeat' (first | assumption | exact Below.refl _ _ | refine below_drew' ?_ | refine Below.setCell ?_ (by first | omega | (simp <;> omega)) _ | refine Below.alloc ?_ (by first | omega | (simp <;> omega)) _)))⟩
                | exact ⟨W.heap.size + 1, W.heap.size, rfl, rfl, by omega, by omega, by omega, by rw [drew_heap]; exact alloc_at _ _ (by simp), by rw [drew_heap]; exact (heap_alloc_old _ _ (by simp)).trans (alloc_at _ _ rfl), (by (repeat' (first | assumption | exact Below.refl _ _ | refine below_drew' ?_ | refine Below.setCell ?_ (by first | omega | (simp <;> omega)) _ | refine Below.alloc ?_ (by first | omega | (simp <;> omega)) _)))⟩
        case rest =>
          obtain ⟨bc, bw, rfl, rfl, hne, hbc, hbw, hVc, hVw, hbV⟩ := hcut
          rename World => V
          have hWs := hbq.size
          clear hx j0 j1 j2 j3 j4 l0 l1 l2 l3 zj zl
          have KV := Lib.hid (fun (U : World) (hq : Below V.heap.size V U) => (⟨HC.out _ (q_on hQW (hbV.trans (hq.mono hbV.size))), (hq.block _ (lt_of_block hVc)).trans hVc, (hq.block _ (lt_of_block hVw)).trans hVw⟩ : _ ∧ _ ∧ _))
          obtain ⟨hx, hVc, hVw⟩ := KV.out _ (Below.refl _ _)
          have t2 := blk_cell 2 hVc rfl
          have t3 := blk_cell 3 hVc rfl
          have tz := lt_of_block hVc
          simp only [List.getElem_toArray, List.getElem_cons_zero, List.getElem_cons_succ] at t2 t3
          go_upto_region 12 with (go_at_call 53; (with_reducible refine (C2.out _).mono ?_); rintro e w5 ⟨rfl, hb5⟩; dsimp only)
          clear hx hVc hVw t2 t3 tz
          obtain ⟨hx, hVc, hVw⟩ := KV.out _ hb5
          have t2 := blk_cell 2 hVw rfl
          have t3 := blk_cell 3 hVw rfl
          have tz := lt_of_block hVw
          simp only [List.getElem_toArray, List.getElem_cons_zero, List.getElem_cons_succ] at t2 t3
          go_upto_region 13 with (go_at_call 53; (with_reducible refine (C3.out _).mono ?_); rintro e w6 ⟨rfl, hb6⟩; dsimp only)
          clear hx hVc hVw t2 t3 tz
          have hb56 := q_on hb5 hb6
          have KU := Lib.hid (fun (U : World) (hq : Below w6.heap.size w6 U) => (show U.heap[bc]? = some (.cells #[.string cn, .int .i64 ck, .int .i64 clo, .int .i64 chi, .int .i64 csh] 55 (0, 0)) ∧ U.heap[bw]? = some (.cells #[.string wn, .int .i64 wk, .int .i64 wlo, .int .i64 whi] 72 (0, 0)) from ⟨(KV.out _ (q_on hb56 hq)).2.1, (KV.out _ (q_on hb56 hq)).2.2⟩))
          have KF := Lib.hid (fun (U : World) (hq : Below w6.heap.size w6 U) => (show U.cell? ⟨bc, 2, none⟩ = some (.int .i64 clo) ∧ U.cell? ⟨bc, 3, none⟩ = some (.int .i64 chi) ∧ U.cell? ⟨bw, 2, none⟩ = some (.int .i64 wlo) ∧ U.cell? ⟨bw, 3, none⟩ = some (.int .i64 whi) ∧ U.frozen? ⟨bc, 2, none⟩ = false ∧ U.frozen? ⟨bc, 3, none⟩ = false ∧ U.frozen? ⟨bw, 2, none⟩ = false ∧ U.frozen? ⟨bw, 3, none⟩ = false ∧ bc < U.heap.size ∧ bw < U.heap.size from ⟨blk_cell 2 (KU.out U hq).1 rfl, blk_cell 3 (KU.out U hq).1 rfl, blk_cell 2 (KU.out U hq).2 rfl, blk_cell 3 (KU.out U hq).2 rfl, blk_free 2 (KU.out U hq).1, blk_free 3 (KU.out U hq).1, blk_free 2 (KU.out U hq).2, blk_free 3 (KU.out U hq).2, lt_of_block (KU.out U hq).1, lt_of_block (KU.out U hq).2⟩))
          have hW6 : Below W.heap.size W w6 := hbV.trans (hb56.mono hbV.size)
          have hww : Below w6.heap.size w6 w6.drew := below_drew' (Below.refl _ _)
          have ht := KF.out _ (Below.refl _ _)
          have FIN := Lib.hid (fun (U : World) (hq : Below w6.heap.size w6 U) => (show ((((U.setCell ⟨bc, 2, none⟩ (.int .i64 n)).setCell ⟨bc, 3, none⟩ (.int .i64 chi)).setCell ⟨bw, 2, none⟩ (.int .i64 wlo)).setCell ⟨bw, 3, none⟩ (.int .i64 m)).heap[bc]? = some (.cells #[.string cn, .int .i64 ck, .int .i64 n, .int .i64 chi, .int .i64 csh] 55 (0, 0)) ∧ ((((U.setCell ⟨bc, 2, none⟩ (.int .i64 n)).setCell ⟨bc, 3, none⟩ (.int .i64 chi)).setCell ⟨bw, 2, none⟩ (.int .i64 wlo)).setCell ⟨bw, 3, none⟩ (.int .i64 m)).heap[bw]? = some (.cells #[.string wn, .int .i64 wk, .int .i64 wlo, .int .i64 m] 72 (0, 0)) ∧ Below W.heap.size W ((((U.setCell ⟨bc, 2, none⟩ (.int .i64 n)).setCell ⟨bc, 3, none⟩ (.int .i64 chi)).setCell ⟨bw, 2, none⟩ (.int .i64 wlo)).setCell ⟨bw, 3, none⟩ (.int .i64 m)) from by
            obtain ⟨h1, h2⟩ := KU.out U hq
            have c1 := blk_set 3 (.int .i64 chi) (blk_set 2 (.int .i64 n) h1)
            have c2 : ((U.setCell ⟨bc, 2, none⟩ (.int .i64 n)).setCell ⟨bc, 3, none⟩ (.int .i64 chi)).heap[bw]? = _ := (Below.heap_setCell _ _ _ _ (Ne.symm hne)).trans ((Below.heap_setCell _ _ _ _ (Ne.symm hne)).trans h2)
            exact ⟨(Below.heap_setCell _ _ _ _ hne).trans ((Below.heap_setCell _ _ _ _ hne).trans c1), blk_set 3 (.int .i64 m) (blk_set 2 (.int .i64 wlo) c2), ((((hW6.trans (hq.mono hW6.size)).setCell hbc _).setCell hbc _).setCell hbw _).setCell hbw _⟩))
          apply wp_mid _ (fun U => U.heap[bc]? = some (.cells #[.string cn, .int .i64 ck, .int .i64 n, .int .i64 chi, .int .i64 csh] 55 (0, 0)) ∧ U.heap[bw]? = some (.cells #[.string wn, .int .i64 wk, .int .i64 wlo, .int .i64 m] 72 (0, 0)) ∧ Below W.heap.size W U)
          · (focus go_region_with (first
                | (go_at_call 54; have hh := hq8; ((with_reducible refine (DSpan_any _ _ _).mono ?_); rintro e w9 ⟨rfl, hb9⟩; have hq9 := q_on hq8 hb9; have ht9 := KF.out _ hq9; dsimp only))
                | (go_at_call 54; ((with_reducible refine (DSpan_any _ _ _).mono ?_); rintro e w8 ⟨rfl, hb8⟩; have hq8 := hww.trans (hb8.mono (Nat.le_refl _)); have ht8 := KF.out _ hq8; dsimp only))))
            all_goals exact ⟨rfl, FIN.out _ hq9⟩
          rintro U ⟨hUc, hUw, hWU⟩
          have hb3U := hbq.trans (hWU.mono hbq.size)
          have hQU := q_on hQ0 hb3U
          have hCU := hCq.mono hWU
          obtain ⟨p0, p1, p2, p3, p4, p5, p6, p7, p8⟩ := hCU.cust i hi
          have r0 := blk_cell 0 hUc rfl
          have r1' := blk_cell 1 hUc rfl
          have r2 := blk_cell 2 hUc rfl
          have r3 := blk_cell 3 hUc rfl
          have r4 := blk_cell 4 hUc rfl
          have rz := lt_of_block hUc
          have s2 := blk_cell 2 hCU.blk rfl
          have sz := lt_of_block hCU.blk
          simp only [List.getElem_toArray, List.getElem_cons_zero, List.getElem_cons_succ] at r0 r1' r2 r3 r4 s2
          have u0 := p5 (i * 5)
          have u1 := p5 (i * 5 + 1)
          have u2 := p5 (i * 5 + 2)
          have u3 := p5 (i * 5 + 3)
          have u4 := p5 (i * 5 + 4)
          have hcap : (i : Int) < cap7 := by omega
          have hg7 := (hCq.oc.lt g7 rfl)
          have hg8 := (hCq.ow.lt g8 rfl)
          clear ht KU KF FIN KV hww hW6 hb56 hb5 hb6 hbV p5
          go_upto_region 14 with (fail)
          go_upto_region 15 with (fail)
          obtain ⟨P, hP⟩ : ∃ P : World, P = (((((U.setCell ⟨g7, i * 5, none⟩ (.string cn)).setCell ⟨g7, i * 5 + 1, none⟩ (.int .i64 ck)).setCell ⟨g7, i * 5 + 2, none⟩ (.int .i64 n)).setCell ⟨g7, i * 5 + 3, none⟩ (.int .i64 chi)).setCell ⟨g7, i * 5 + 4, none⟩ (.int .i64 csh)) := ⟨_, rfl⟩
          rw [← hP]
          have hCP : CopyH wz.heap.size wz.heap.size (some ⟨g8, 0, none⟩) (some ⟨g7, 0, none⟩) cap8 cap7 h.wax h.writers (h.customers.set i ⟨cn, ck, n, chi, csh⟩) P := by rw [hP]; exact hCU.setC i hi ⟨cn, ck, n, chi, csh⟩
          have hb7 : wz.heap.size ≤ g7 := hg7.1
          have hbP : Below wz.heap.size wz P := by rw [hP]; exact ((((hb3U.setCell hb7 _).setCell hb7 _).setCell hb7 _).setCell hb7 _).setCell hb7 _
          have hPw : P.heap[bw]? = some (.cells #[.string wn, .int .i64 wk, .int .i64 wlo, .int .i64 m] 72 (0, 0)) := by
            have hn9 : bw ≠ g7 := by have := hg7.2; omega
            rw [hP]
            exact (Below.heap_setCell _ _ _ _ hn9).trans ((Below.heap_setCell _ _ _ _ hn9).trans ((Below.heap_setCell _ _ _ _ hn9).trans ((Below.heap_setCell _ _ _ _ hn9).trans ((Below.heap_setCell _ _ _ _ hn9).trans hUw))))
          clear hP hCU hUc hUw p0 p1 p2 p3 p4 p6 p7 p8 r0 r1' r2 r3 r4 rz s2 sz u0 u1 u2 u3 u4 hWU hb3U hQU
          obtain ⟨p0, p1, p2, p3, p5, p6, p7, p8⟩ := hCP.writ k hk
          have r0 := blk_cell 0 hPw rfl
          have r1' := blk_cell 1 hPw rfl
          have r2 := blk_cell 2 hPw rfl
          have r3 := blk_cell 3 hPw rfl
          have rz := lt_of_block hPw
          have s2 := blk_cell 1 hCP.blk rfl
          have sz := lt_of_block hCP.blk
          simp only [List.getElem_toArray, List.getElem_cons_zero, List.getElem_cons_succ] at r0 r1' r2 r3 s2
          have u0 := p5 (k * 4)
          have u1 := p5 (k * 4 + 1)
          have u2 := p5 (k * 4 + 2)
          have u3 := p5 (k * 4 + 3)
          have hcap8 : (k : Int) < cap8 := by omega
          go_upto_region 16 with (fail)
          obtain ⟨R, hR⟩ : ∃ R : World, R = ((((P.setCell ⟨g8, k * 4, none⟩ (.string wn)).setCell ⟨g8, k * 4 + 1, none⟩ (.int .i64 wk)).setCell ⟨g8, k * 4 + 2, none⟩ (.int .i64 wlo)).setCell ⟨g8, k * 4 + 3, none⟩ (.int .i64 m)) := ⟨_, rfl⟩
          rw [← hR]
          have hCR : CopyH wz.heap.size wz.heap.size (some ⟨g8, 0, none⟩) (some ⟨g7, 0, none⟩) cap8 cap7 h.wax (h.writers.set k ⟨wn, wk, wlo, m⟩) (h.customers.set i ⟨cn, ck, n, chi, csh⟩) R := by rw [hR]; exact hCP.setW k hk ⟨wn, wk, wlo, m⟩
          have hb8 : wz.heap.size ≤ g8 := hg8.1
          have hbR : Below wz.heap.size wz R := by rw [hR]; exact (((hbP.setCell hb8 _).setCell hb8 _).setCell hb8 _).setCell hb8 _
          clear hR hCP hbP hPw p0 p1 p2 p3 p5 p6 p7 p8 r0 r1' r2 r3 rz s2 sz u0 u1 u2 u3 hg7 hg8 hb7 hb8 hCq hbq hWs hQW
          have hQR := q_on hQ0 hbR
          have HG := Lib.hid (fun (V : World) (hq : Below R.heap.size R V) => (hCR.mono hq).hall hnmW.out hnmC.out)
          have HS := Lib.hid (fun (V : World) (hq : Below R.heap.size R V) => (show V.cell? ⟨w.heap.size, 0, none⟩ = some (.int .i64 h.wax) ∧ V.cell? ⟨w.heap.size, 1, none⟩ = some (.slice (some ⟨b4, o4, none⟩) h.writers.length kw) ∧ V.cell? ⟨w.heap.size, 2, none⟩ = some (.slice (some ⟨b3, o3, none⟩) h.customers.length kc) ∧ w.heap.size < V.heap.size ∧ V.cell? ⟨wz.heap.size, 0, none⟩ = some (.int .i64 h.wax) ∧ V.cell? ⟨wz.heap.size, 1, none⟩ = some (.slice (some ⟨g8, 0, none⟩) h.writers.length cap8) ∧ V.cell? ⟨wz.heap.size, 2, none⟩ = some (.slice (some ⟨g7, 0, none⟩) h.customers.length cap7) ∧ wz.heap.size < V.heap.size from by
            have h1 := (hCR.mono hq).blk
            rw [List.length_set, List.length_set] at h1
            obtain ⟨j0, j1, j2, j3, j4, j5, j6, j7, j8⟩ := HC.out _ (q_on hQR hq)
            exact ⟨j0, j1, j2, j7, blk_cell 0 h1 rfl, blk_cell 1 h1 rfl, blk_cell 2 h1 rfl, lt_of_block h1⟩))
          have EG := fun (V : World) (b : Option Addr) (c : Nat) (hq : Below R.heap.size R V) (ho : SlOk b p.length c) (hr : RowsC V b p) => hEG.out _ _ _ _ b c V (HG.out V hq) ho hr
          rw [List.length_set, List.length_set] at EG
          replace EG := Lib.hid EG
          have rp := r1.mono hbR
          have hQ := Below.refl R.heap.size R
          have hx := HS.out _ hQ
          clear hCR HG hEG hnmW hnmC hbR hne hbc hbw
          have q8 := nei_f (show (S.length : Int) = (h.customers.length : Int) by rw [hsl.out])
          have q9 := nei_f (show (T.length : Int) = (S.length : Int) by rw [hlT.out])
          go_upto_region 21 with (first
            | (go_at_call 18; have hh := s1; (with_reducible refine (EG.out _ _ _ hQ o1 rp).mono ?_); rintro e we ⟨b6, c6, rfl, o6, t1, hb⟩; replace rp := rp.mono hb; replace s1 := s1.mono hb; replace hQ := q_on hQ hb; replace hx := HS.out _ hQ; dsimp only)
            | (go_at_call 18; (with_reducible refine (DA_Ends _ _ _ _ h _ p _ S 0 hee.out _ (M.out _ (q_on hQR hQ)) o1 hps rp).mono ?_); rintro e wd ⟨b5, c5, rfl, o5, s1, hb⟩; replace rp := rp.mono hb; replace hQ := q_on hQ hb; replace hx := HS.out _ hQ; dsimp only))
          have o5c := o5.1
          have o6c := o6.1
          have hS5 : S.length ≤ 5 := by rw [hsl.out]; exact hnc
          have o1c := o1.1
          have hQe := hQ
          clear EG hQ0
          go_loopw [20] (fun iv V => ∃ j : Nat, j ≤ S.length ∧ iv = .int .i64 j ∧ Below we.heap.size we V) (fun iv _ => S.length - (intOf iv).toNat)
          case atStart => exact ⟨0, Nat.zero_le _, rfl, Below.refl _ _⟩
          case round =>
            obtain ⟨j, hj, rfl, hb⟩ := hrel
            by_cases hlt : j < S.length
            · have hjT : j < T.length := by rw [hlT.out]; exact hlt
              have hin := hNI.out j _ _ (List.getElem?_eq_getElem hlt) (List.getElem?_eq_getElem hjT)
              have hsl9 := hSL.out j _ (List.getElem?_eq_getElem hlt)
              obtain ⟨ba, oa, ea, -, a0, a1⟩ := (s1.mono hb) j hlt
              obtain ⟨bb, ob, eb, -, d0, d1⟩ := (t1.mono hb) j hjT
              generalize S[j] = sj at hin hsl9 a0 a1
              generalize T[j] = tj at hin d0 d1
              obtain ⟨slo, shi⟩ := sj
              obtain ⟨tlo, thi⟩ := tj
              simp only at hin hsl9 a0 a1 d0 d1
              have g1 : (j : Int) < S.length := by omega
              have g2 : (j : Int) < T.length := by omega
              have g3 : (j : Int) < c5 := by omega
              have g4 : (j : Int) < c6 := by omega
              have IN := fun (V : World) => DInside_any tlo thi slo shi V
              rw [decide_eq_true hin.1, decide_eq_true hin.2] at IN
              replace IN := Lib.hid IN
              have n1 : decide (shi < slo) = false := decide_eq_false (by omega)
              have KE := Lib.hid (fun (V : World) (hq : Below wr.heap.size wr V) => (⟨hq, cell_below hq a0, cell_below hq a1, cell_below hq d0, cell_below hq d1, lt_of_cell (cell_below hq a0), lt_of_cell (cell_below hq d0)⟩ : Below wr.heap.size wr V ∧ V.cell? ⟨ba, oa + j * 2, none⟩ = some (.int .i64 slo) ∧ V.cell? ⟨ba, oa + j * 2 + 1, none⟩ = some (.int .i64 shi) ∧ V.cell? ⟨bb, ob + j * 2, none⟩ = some (.int .i64 tlo) ∧ V.cell? ⟨bb, ob + j * 2 + 1, none⟩ = some (.int .i64 thi) ∧ ba < V.heap.size ∧ bb < V.heap.size))
              have hww : Below wr.heap.size wr wr.drew := below_drew' (Below.refl _ _)
              clear a0 a1 d0 d1
              subst ea
              subst eb
              go_upto_region 23 with (fail)
              go_region_held3 (fun V => Below wr.heap.size wr V ∧ V.cell? ⟨ba, oa + j * 2, none⟩ = some (.int .i64 slo) ∧ V.cell? ⟨ba, oa + j * 2 + 1, none⟩ = some (.int .i64 shi) ∧ V.cell? ⟨bb, ob + j * 2, none⟩ = some (.int .i64 tlo) ∧ V.cell? ⟨bb, ob + j * 2 + 1, none⟩ = some (.int .i64 thi) ∧ ba < V.heap.size ∧ bb < V.heap.size) (first | exact KE.out _ (by assumption)) (first
                | (go_at_call 55; (with_reducible refine (IN.out _).mono ?_); rintro e w9 ⟨rfl, hb9⟩; have hq9 := q_on (And.left (by assumption)) hb9; dsimp only [Bool.and_self]))
              go_wp2
              go_roundw
              case rel => exact ⟨j + 1, by omega, by go_num, hb.trans (hq9.mono hb.size)⟩
              case measure => simp [intOf]; omega
            · obtain rfl : j = S.length := by omega
              have rp := rp.mono hb
              have hQl := q_on hQe hb
              go_upto_region 26 with (fail)
              have s1 := s1.mono hb
              clear t1 hb
              obtain ⟨W1, hW1⟩ : ∃ W1 : World, W1 = wr := ⟨_, rfl⟩
              subst hW1
              have hp3 : p.length ≤ 3 := by rw [hok.len]; exact hnw
              have hPL := Lib.hid hok.len
              have HROW := Lib.hid (fun (u : Nat) (hu : u < p.length) => plan_idx hok p[u] (List.getElem_mem hu))
              go_loopw [21, 22, 23] (fun iv d1 d2 V => ∃ u : Nat, u ≤ p.length ∧ iv = .int .i64 u ∧ Below W1.heap.size W1 V) (fun iv _ _ _ => p.length - (intOf iv).toNat)
              case atStart => exact ⟨0, Nat.zero_le _, rfl, Below.refl _ _⟩
              case round =>
                obtain ⟨u, hu, rfl, hb⟩ := hrel
                obtain ⟨U, hU⟩ : ∃ U : World, U = wr := ⟨_, rfl⟩
                subst hU
                have hQu := q_on hQl hb
                have hx := HS.out _ hQu
                by_cases hlt : u < p.length
                · obtain ⟨b7, o7, ar, cr, e7, -, hcell, hsr, hir⟩ := (rp.mono hb) u hlt
                  have g1 : (u : Int) < p.length := by omega
                  have g2 : (u : Int) < c1 := by omega
                  have gz := lt_of_cell hcell
                  have hsl7 := hsr.len
                  by_cases hrz : p[u].length = 0
                  · have n1 := eqi_t (show (p[u].length : Int) = 0 by omega)
                    replace hrz := Lib.hid hrz
                    clear hx
                    subst e7
                    go_wp2
                    go_roundw
                    case rel => exact ⟨u + 1, by omega, by go_num, hb⟩
                    case measure => simp [intOf]; omega
                  · have n1 := eqi_f (show (p[u].length : Int) ≠ 0 by omega)
                    have hr0 : 0 < p[u].length := by omega
                    obtain ⟨b8, o8, e8, -, hc0⟩ := hir 0 hr0
                    rw [Nat.add_zero] at hc0
                    have hidx := HROW.out u hlt _ (List.getElem_mem hr0)
                    have hfs : p[u]? = some (p[u][0] :: p[u].tail) := by
                      rw [List.getElem?_eq_getElem hlt, ← row_cons _ hr0]
                    have hfs2 := hFS.out u _ _ hfs
                    have hrc : p[u].length ≤ cr := hsr.1
                    generalize p[u][0] = y at hc0 hidx hfs2
                    obtain ⟨c, rfl⟩ : ∃ c : Nat, y = (c : Int) := ⟨y.toNat, by omega⟩
                    rw [Int.toNat_natCast] at hfs2
                    have hcn : c < h.customers.length := by omega
                    have hun : u < h.writers.length := by rw [← hPL.out]; exact hlt
                    rw [cust_at hcn, writ_at hun] at hfs2
                    have hcv := hv.c c hcn
                    have hwv := hv.w u hun
                    have hwx := hv.wax
                    have hMu := M.out _ (q_on hQR hQu)
                    obtain ⟨b9, o9, e9, -, -, -, k2, k3, -⟩ := hMu.custs c hcn
                    obtain ⟨ba, oa, ea, -, -, -, m2, m3⟩ := hMu.writers u hun
                    obtain ⟨rfl, rfl⟩ : b3 = b9 ∧ o3 = o9 := by injection e9 with e9; injection e9 with h1 h2 _; exact ⟨h1, h2⟩
                    obtain ⟨rfl, rfl⟩ : b4 = ba ∧ o4 = oa := by injection ea with ea; injection ea with h1 h2 _; exact ⟨h1, h2⟩
                    generalize h.customers[c].lo = tlo at hfs2 hcv k2
                    generalize h.customers[c].hi = thi at hfs2 hcv k3
                    generalize h.writers[u].lo = flo at hfs2 hwv m2
                    generalize h.writers[u].hi = fhi at hfs2 hwv m3
                    obtain ⟨hcS, hSc⟩ := List.getElem?_eq_some_iff.1 hfs2
                    obtain ⟨bs, os, es, -, n2, n3⟩ := (s1.mono hb) c hcS
                    rw [hSc] at n2 n3
                    simp only at n2 n3
                    have kz := lt_of_cell k2
                    have mz := lt_of_cell m2
                    have cz := lt_of_cell hc0
                    have gc1 : (c : Int) < h.customers.length := by omega
                    have gc2 : (c : Int) < kc := by omega
                    have gu1 : (u : Int) < h.writers.length := by omega
                    have gu2 : (u : Int) < kw := by omega
                    have gs1 : (c : Int) < S.length := by omega
                    have gs2 : (c : Int) < c5 := by omega
                    have gr1 : (0 : Int) < p[u].length := by omega
                    have gr2 : (0 : Int) < cr := by omega
                    have hw1 : IntKind.i64.wrap (flo + tlo) = flo + tlo := wrap_id (by omega) (by omega)
                    have hw2 : IntKind.i64.wrap (flo + tlo + h.wax) = flo + tlo + h.wax := wrap_id (by omega) (by omega)
                    have hw3 : IntKind.i64.wrap (fhi + thi) = fhi + thi := wrap_id (by omega) (by omega)
                    have hw4 : IntKind.i64.wrap (fhi + thi + h.wax) = fhi + thi + h.wax := wrap_id (by omega) (by omega)
                    have heq : ∀ W : World, (Op.equalIn 10000 53 (.agg #[.int .i64 (flo + tlo + h.wax), .int .i64 (fhi + thi + h.wax)]) (.agg #[.int .i64 (flo + tlo + h.wax), .int .i64 (fhi + thi + h.wax)])).run Try.prog W = .ok true W := fun W => by
                      have := sp_eq (flo + tlo + h.wax) (fhi + thi + h.wax) (flo + tlo + h.wax) (fhi + thi + h.wax) (by omega) (by omega) (by omega) (by omega) W
                      rw [this]
                      simp
                    have KX := Lib.hid (fun (V : World) (hq : Below U.heap.size U V) => (⟨cell_below hq hcell, cell_below hq hc0, cell_below hq n2, cell_below hq n3, HS.out _ (q_on hQu hq)⟩ : _ ∧ _ ∧ _ ∧ _ ∧ _))
                    replace hrz := Lib.hid hrz
                    clear hfs hfs2 hSc hMu hir hcell hc0 n2 n3 hx
                    subst e7
                    subst e8
                    subst es
                    have hx := KX.out _ (Below.refl _ _)
                    go_upto_region 29 with (fail)
                    go_cut [22, 23] from 186 to 202 (fun pf pt V => ∃ bf bt : Nat, pf = .pointer (some ⟨bf, 0, none⟩) ∧ pt = .pointer (some ⟨bt, 0, none⟩) ∧ bf ≠ bt ∧ V.heap[bf]? = some (.cells #[.int .i64 flo, .int .i64 fhi] 53 (0, 0)) ∧ V.heap[bt]? = some (.cells #[.int .i64 tlo, .int .i64 thi] 53 (0, 0)) ∧ Below U.heap.size U V)
                    case first =>
                      go_region
                      all_goals
                        go_wp2
                        go_meet
                        case rel =>
                          first
                            | exact ⟨U.heap.size, U.heap.size + 1, rfl, rfl, by omega, by rw [drew_heap]; exact (heap_alloc_old _ _ (by simp)).trans (alloc_at _ _ rfl), by rw [drew_heap]; exact alloc_at _ _ (by simp), (by (repeat' (first | assumption | exact Below.refl _ _ | refine below_drew' ?_ | refine Below.setCell ?_ (by first | omega | (simp <;> omega)) _ | refine Below.alloc ?_ (by first | omega | (simp <;> omega)) _)))⟩
                            | exact ⟨U.heap.size + 1, U.heap.size, rfl, rfl, by omega, by rw [drew_heap]; exact alloc_at _ _ (by simp), by rw [drew_heap]; exact (heap_alloc_old _ _ (by simp)).trans (alloc_at _ _ rfl), (by (repeat' (first | assumption | exact Below.refl _ _ | refine below_drew' ?_ | refine Below.setCell ?_ (by first | omega | (simp <;> omega)) _ | refine Below.alloc ?_ (by first | omega | (simp <;> omega)) _)))⟩
                    case rest =>
                      obtain ⟨bf, bt, rfl, rfl, hne, hBf, hBt, hbV⟩ := hcut
                      rename World => V
                      clear hx k2 k3 m2 m3 kz mz cz gz
                      obtain ⟨x0, x1, x2, x3, y0, y1, y2, y3, -⟩ := KX.out _ hbV
                      have v0 := blk_cell 0 hBf rfl
                      have v1 := blk_cell 1 hBf rfl
                      have v2 := blk_cell 0 hBt rfl
                      have v3 := blk_cell 1 hBt rfl
                      simp only [List.getElem_toArray, List.getElem_cons_zero, List.getElem_cons_succ] at v0 v1 v2 v3
                      have KE := Lib.hid (fun (W : World) (hq : Below V.heap.size V W) => (⟨hq, cell_below hq x0, cell_below hq x1, cell_below hq x2, cell_below hq x3, cell_below hq v0, cell_below hq v1, cell_below hq v2, cell_below hq v3, cell_below hq y0, lt_of_cell (cell_below hq x0), lt_of_cell (cell_below hq x1), lt_of_cell (cell_below hq x2), lt_of_cell (cell_below hq v0), lt_of_cell (cell_below hq v2), lt_of_cell (cell_below hq y0)⟩ : Below V.heap.size V W ∧ W.cell? ⟨b7, o7 + u, none⟩ = some (.slice (some ⟨b8, o8, none⟩) p[u].length cr) ∧ W.cell? ⟨b8, o8, none⟩ = some (.int .i64 (c : Int)) ∧ W.cell? ⟨bs, os + c * 2, none⟩ = some (.int .i64 (flo + tlo + h.wax)) ∧ W.cell? ⟨bs, os + c * 2 + 1, none⟩ = some (.int .i64 (fhi + thi + h.wax)) ∧ W.cell? ⟨bf, 0, none⟩ = some (.int .i64 flo) ∧ W.cell? ⟨bf, 1, none⟩ = some (.int .i64 fhi) ∧ W.cell? ⟨bt, 0, none⟩ = some (.int .i64 tlo) ∧ W.cell? ⟨bt, 1, none⟩ = some (.int .i64 thi) ∧ W.cell? ⟨w.heap.size, 0, none⟩ = some (.int .i64 h.wax) ∧ b7 < W.heap.size ∧ b8 < W.heap.size ∧ bs < W.heap.size ∧ bf < W.heap.size ∧ bt < W.heap.size ∧ w.heap.size < W.heap.size))
                      have hww : Below V.heap.size V V.drew := below_drew' (Below.refl _ _)
                      clear x0 x1 x2 x3 y0 y1 y2 y3 v0 v1 v2 v3
                      go_upto_region 30 with (fail)
                      go_region_held3 (fun W => Below V.heap.size V W ∧ W.cell? ⟨b7, o7 + u, none⟩ = some (.slice (some ⟨b8, o8, none⟩) p[u].length cr) ∧ W.cell? ⟨b8, o8, none⟩ = some (.int .i64 (c : Int)) ∧ W.cell? ⟨bs, os + c * 2, none⟩ = some (.int .i64 (flo + tlo + h.wax)) ∧ W.cell? ⟨bs, os + c * 2 + 1, none⟩ = some (.int .i64 (fhi + thi + h.wax)) ∧ W.cell? ⟨bf, 0, none⟩ = some (.int .i64 flo) ∧ W.cell? ⟨bf, 1, none⟩ = some (.int .i64 fhi) ∧ W.cell? ⟨bt, 0, none⟩ = some (.int .i64 tlo) ∧ W.cell? ⟨bt, 1, none⟩ = some (.int .i64 thi) ∧ W.cell? ⟨w.heap.size, 0, none⟩ = some (.int .i64 h.wax) ∧ b7 < W.heap.size ∧ b8 < W.heap.size ∧ bs < W.heap.size ∧ bf < W.heap.size ∧ bt < W.heap.size ∧ w.heap.size < W.heap.size) (first | exact KE.out _ (by assumption)) (first
                        | (go_at_call 54; (try rw [hw1]); (try rw [hw2]); (try rw [hw3]); (try rw [hw4]); (with_reducible refine (DSpan_any _ _ _).mono ?_); rintro e w9 ⟨rfl, hb9⟩; have hq9 := q_on (And.left (by assumption)) hb9; dsimp only))
                      go_wp2
                      go_roundw
                      case rel => exact ⟨u + 1, by omega, by go_num, hb.trans ((hbV.trans (hq9.mono hbV.size)).mono hb.size)⟩
                      case measure => simp [intOf]; omega
                · obtain rfl : u = p.length := by omega
                  have hQ := q_on hQR hQu
                  have hb9 := hb
                  go_wp2_with (go_at_call 23; (with_reducible refine (DAwake_any _).mono ?_); rintro e w22 ⟨rfl, hb⟩; replace hQ := q_on hQ hb; dsimp only)
                  go_ret
                  exact ⟨rfl, hwX.trans (hQ.mono hwX.size)⟩
  · have hvd := Lib.hid (decide_eq_false he)
    clear he
    go_enter Try.func13, Try.ntmps13
    go_upto_region 1 with (fail)
    rw [← hX]
    clear hX
    go_wp2_with (first
      | (go_at_call 23; (with_reducible refine (DAwake_any _).mono ?_); rintro e w4 ⟨rfl, hb⟩; replace hQ := q_on hQ hb; replace hx := HC.out _ hQ; dsimp only)
      | (go_at_call 37; (with_reducible refine (DValid_is _ _ _ _ h false hvd.out _ (M.out _ hQ)).mono ?_); rintro e w2 ⟨rfl, hb⟩; replace hQ := q_on hQ hb; replace hx := HC.out _ hQ; dsimp only))
    go_ret
    exact ⟨rfl, hwX.trans (hQ.mono hwX.size)⟩
end Go.Proofs.Ytchnpekgmkhacaa
