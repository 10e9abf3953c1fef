/- What is proved here: the walk of TopDictated: it returns true, and turns nothing that was there. Conditions: its arguments lie in memory; there are at most 2^47 bytes to turn by. -/
import Derived.Test.YtelmponkmmfffaaGreatLrPartG
import Derived.Test.YtelmponkmmfffaaGreatLrChk
import Derived.Test.YtelmponkmmfffaaGreatLrAwG
set_option linter.unusedVariables false
set_option linter.unusedSimpArgs false
namespace Go.Proofs.YtelmponkmmfffaaGreat
open Go Go.RowKit Go.Shelf
set_option maxRecDepth 100000 in
set_option maxHeartbeats 16000000 in
theorem TopDictated_walk (af : Option Addr) (kf : Nat) (s : LeS) (aw ac : Option Addr) (kw kc : Nat) (h : DeH) (ax : Option Addr) (x : List Int) (cx : Nat) (w : World) (hms : ShelfC w af kf s) (hwf : WfS s) (hm : HallC w aw ac kw kc h) (hox : SlOk ax x.length cx) (hix : BytesC w ax x) (hxb : x.length ≤ 140737488351232) :
    Calls Tryz.prog 3 #[(.agg #[.int .i64 s.width, .slice af s.forms.length kf]), (.agg #[.int .i64 h.wax, .slice aw h.writers.length kw, .slice ac h.customers.length kc]), .slice ax x.length cx] w fun e w' => e = .returned (.bool true) ∧ Below w.heap.size w w' := by
  obtain ⟨X, hX⟩ : ∃ X : World, X = (w.alloc (.cells #[.int .i64 s.width, .slice af s.forms.length kf] 24)).alloc (.cells #[.int .i64 h.wax, .slice aw h.writers.length kw, .slice ac h.customers.length kc] 28) := ⟨_, rfl⟩
  have hwX : Below w.heap.size w X := by rw [hX]; exact (by (repeat' (first | assumption | exact Below.refl _ _ | refine below_drew' ?_ | refine Below.setCell ?_ (by first | omega | (simp <;> omega)) _ | refine Below.alloc ?_ (by first | omega | (simp <;> omega)) _)))
  have hB1 : X.heap[w.heap.size]? = some (.cells #[.int .i64 s.width, .slice af s.forms.length kf] 24 (0, 0)) := by rw [hX]; exact (heap_alloc_old _ _ (by simp)).trans (alloc_at _ _ rfl)
  have hB2 : X.heap[w.heap.size + 1]? = some (.cells #[.int .i64 h.wax, .slice aw h.writers.length kw, .slice ac h.customers.length kc] 28 (0, 0)) := by rw [hX]; exact alloc_at _ _ (by simp)
  have HX := Lib.hid hX
  clear hX
  have HWX := Lib.hid hwX
  have MS := Lib.hid (fun (V : World) (h : Below X.heap.size X V) => (hms.mono hwX).mono h)
  have M := Lib.hid (fun (V : World) (h : Below X.heap.size X V) => (hm.mono hwX).mono h)
  have MX := Lib.hid (fun (V : World) (h : Below X.heap.size X V) => (hix.mono hwX).mono h)
  have HC : Hid (∀ V, Below X.heap.size X V → (V.cell? ⟨w.heap.size, 0, none⟩ = some (.int .i64 s.width) ∧ V.cell? ⟨w.heap.size, 1, none⟩ = some (.slice af s.forms.length kf) ∧ w.heap.size < V.heap.size ∧ V.cell? ⟨w.heap.size + 1, 0, none⟩ = some (.int .i64 h.wax) ∧ V.cell? ⟨w.heap.size + 1, 1, none⟩ = some (.slice aw h.writers.length kw) ∧ V.cell? ⟨w.heap.size + 1, 2, none⟩ = some (.slice ac h.customers.length kc) ∧ w.heap.size + 1 < V.heap.size)) := Lib.hid (fun V h => by
    have q1 := (h.block _ (lt_of_block hB1)).trans hB1
    have q2 := (h.block _ (lt_of_block hB2)).trans hB2
    exact ⟨blk_cell 0 q1 rfl, blk_cell 1 q1 rfl, lt_of_block q1, blk_cell 0 q2 rfl, blk_cell 1 q2 rfl, blk_cell 2 q2 rfl, lt_of_block q2⟩)
  clear hB1 hB2
  have CK2 := Lib.hid (fun (V : World) (h : Below X.heap.size X V) => RCheck02_any af kf s V (MS.out V h) hwf)
  have CK9 := fun (V : World) (g : Below X.heap.size X V) => DRCheck_any aw ac kw kc h V (M.out V g)
  have e0 : (deCheck h).2.2 = deErr h := rfl
  rw [e0] at CK9
  generalize (deCheck h).1 = q1 at CK9
  generalize (deCheck h).2.1 = q2 at CK9
  obtain ⟨er, her⟩ : ∃ er, er = deErr h := ⟨_, rfl⟩
  rw [← her] at CK9
  replace CK9 := Lib.hid CK9
  have HER := Lib.hid her
  have hfl := hms.okf.len
  have hfc := hms.okf.1
  have hcl := hm.okc.len
  have hcc := hm.okc.1
  have hwc := hm.okw.1
  have HOX := Lib.hid hox
  clear her e0 hms hm hwf hwX hox hix
  have hQ := Below.refl X.heap.size X
  have hx := HC.out _ hQ
  go_enter Tryz.func3, Tryz.ntmps3
  go_upto_region 1 with (fail)
  rw [← HX.out]
  go_upto_region 2 with (go_at_call 4; go_must ((with_reducible refine (CK2.out _ hQ).mono ?_); rintro e w1 ⟨cx1, cy1, cr, rfl, hcr, hb⟩; replace hQ := q_on hQ hb; replace hx := HC.out _ hQ; dsimp only))
  go_upto_region 3 with (go_at_call 5; go_must ((with_reducible refine (CK9.out _ hQ).mono ?_); rintro e w2 ⟨rfl, hb⟩; replace hQ := q_on hQ hb; replace hx := HC.out _ hQ; dsimp only))
  clear CK2 CK9 HX hb
  by_cases hbad : cr ≠ 0 ∨ er ≠ 0 ∨ s.forms.length = 0
  · have hce : (cr != 0) = true ∨ ((cr != 0) = false ∧ (er != 0) = true) ∨ ((cr != 0) = false ∧ (er != 0) = false ∧ ((s.forms.length : Int) == 0) = true) := by
      by_cases h1 : cr = 0
      · by_cases h2 : er = 0
        · exact .inr (.inr ⟨nei_f h1, nei_f h2, eqi_t (by rcases hbad with h | h | h; exact absurd h1 h; exact absurd h2 h; omega)⟩)
        · exact .inr (.inl ⟨nei_f h1, nei_t h2⟩)
      · exact .inl (nei_t h1)
    clear hbad hcr
    rcases hce with c1 | ⟨c1, c2⟩ | ⟨c1, c2, c3⟩
    all_goals
      go_wp2_with (first
        | (go_at_call 7; (with_reducible refine (DAwake_any _).mono ?_); rintro e w5 ⟨rfl, hb⟩; replace hQ := q_on hQ hb; replace hx := HC.out _ hQ; dsimp only)
        | (go_at_call 6; (with_reducible refine (LAwake_any _).mono ?_); rintro e w4 ⟨rfl, hb⟩; replace hQ := q_on hQ hb; replace hx := HC.out _ hQ; dsimp only))
      go_ret
      exact ⟨rfl, HWX.out.trans (hQ.mono HWX.out.size)⟩
  · have hc0 : cr = 0 := Classical.byContradiction fun h => hbad (.inl h)
    have he0 : er = 0 := Classical.byContradiction fun h => hbad (.inr (.inl h))
    have hf0 : 0 < s.forms.length := Nat.pos_of_ne_zero fun h => hbad (.inr (.inr h))
    have HV := Lib.hid (hcr.out hc0)
    have HE := Lib.hid (HER.out.symm.trans he0)
    have c1 := nei_f hc0
    have c2 := nei_f he0
    have c3 : ((s.forms.length : Int) == 0) = false := eqi_f (by omega)
    have hn4 := HV.out.many
    have HD := Lib.hid (deValid_of HE.out)
    have hnc := HD.out.nc
    have hnw := HD.out.nw
    clear hbad hc0 he0 hcr HER
    go_upto_region 5 with (fail)
    clear c1 c2
    obtain ⟨Y, hY⟩ : ∃ Y : World, Y = w2 := ⟨_, rfl⟩
    rw [← hY] at hQ hx ⊢
    clear hY
    obtain ⟨T, hT⟩ : ∃ T, T = Y.heap.size := ⟨_, rfl⟩
    have HT := Lib.hid hT
    go_upto_region 7 with (fail)
    have hI0 : DictI Y (Y.alloc (.cells #[.int .i64 h.wax, .slice aw h.writers.length kw, .slice none 0 0] 28)) T aw kw s h x 0 0 none 0 (.slice none 0 0) := ⟨al_on Y _, by rw [hT]; exact alloc_at _ _ rfl, World.ownsRow_nil _ _ _ _, World.ownsRow_nil _ _ _ _⟩
    rw [← hT]
    obtain ⟨Y1, hY1⟩ : ∃ Y1 : World, Y1 = (Y.alloc (.cells #[.int .i64 h.wax, .slice aw h.writers.length kw, .slice none 0 0] 28)) := ⟨_, rfl⟩
    rw [← hY1] at hI0 ⊢
    have hTY : Y.heap.size ≤ T := by omega
    clear hY1 hT hx
    have hx := HC.out _ (q_on hQ hI0.q)
    go_upto_region 9 with (fail)
    clear hx
    go_loopw [14, 15] (fun g i V => ∃ (k : Nat) (a : Option Addr) (c : Nat), k ≤ h.customers.length ∧ i = .int .i64 k ∧ DictI Y V T aw kw s h x k k a c g) (fun _ i _ => h.customers.length - (intOf i).toNat)
    case atStart => exact ⟨0, none, 0, Nat.zero_le _, rfl, hI0⟩
    case round =>
      clear hI0
      rename World => V
      obtain ⟨k, a, c, hk, rfl, hI⟩ := hrel
      have hQV := q_on hQ hI.q
      obtain ⟨ag, cg, rfl⟩ := own_slice hI.lg
      have hx := HC.out _ hQV
      by_cases hlt : k < h.customers.length
      · obtain ⟨b0, o0, ee, hb0, d0, d1, d2, d3, d4⟩ := (M.out _ hQV).custs k hlt
        have hcv := HD.out.c k hlt
        have hec : customerAt h k = h.customers[k] := by unfold customerAt; rw [List.getElem?_eq_getElem hlt]; rfl
        obtain ⟨ki, hK⟩ : ∃ ki : Nat, h.customers[k].kind = (ki : Int) := ⟨h.customers[k].kind.toNat, by omega⟩
        obtain ⟨n, hn⟩ : ∃ n : Nat, n = (ki + k) % s.forms.length := ⟨_, rfl⟩
        have hnw : whichF s h k = n := by unfold whichF; rw [hec, hK, hn]; rfl
        have hnl : n < s.forms.length := by rw [hn]; exact Nat.mod_lt _ hf0
        have f1 : ((ki : Int) + (k : Int)) % (s.forms.length : Int) = (n : Int) := by rw [hn]; exact (Int.natCast_emod _ _).symm
        have f1t : ((ki : Int) + (k : Int)).tmod (s.forms.length : Int) = (n : Int) := by rw [Int.tmod_eq_emod_of_nonneg (by omega)]; exact f1
        obtain ⟨f, hf⟩ : ∃ f, f = s.forms[n] := ⟨_, rfl⟩
        have hfa : formAt s n = f := (formAt_is hnl).trans hf.symm
        have hpa : tParts s h k = f.parts := by unfold tParts; rw [hnw, hfa]
        have hfok : LeFOk f := by rw [hf]; exact (HV.out.form n hnl).2.2
        have htc : toldC s h k = ⟨h.customers[k].name, (ki : Int), 1 + howLo f.parts, 1 + howHi f.parts, h.customers[k].ship⟩ := by unfold toldC; rw [hec, hpa, hK]
        have hhs := how_small (s := s) (h := h) HV.out hf0 k
        rw [hpa] at hhs
        rw [hK] at d1 hcv
        generalize h.customers[k].name = nm at d0 htc
        generalize h.customers[k].ship = sh at d4 htc hcv
        generalize h.customers[k].lo = lo0 at d2 hcv
        generalize h.customers[k].hi = hi0 at d3 hcv
        have HTC := Lib.hid htc
        have F1 := Lib.hid (And.intro f1 f1t)
        have HF := Lib.hid hf
        have HPA := Lib.hid hpa
        have HNW := Lib.hid hnw
        clear htc f1 f1t hf hfa hpa hnw hec hn hK
        have hK3 : ki ≤ 3 := by omega
        clear hcv
        subst ee
        have hkc : (k : Int) < (kc : Int) := by omega
        obtain ⟨Vc, hVc⟩ : ∃ Vc : World, Vc = V.alloc (.cells #[.string nm, .int .i64 (ki : Int), .int .i64 lo0, .int .i64 hi0, .int .i64 sh] 39) := ⟨_, rfl⟩
        have hbc : Below V.heap.size V Vc := by rw [hVc]; exact al_on V _
        have gP : Vc.heap[V.heap.size]? = some (.cells #[.string nm, .int .i64 (ki : Int), .int .i64 lo0, .int .i64 hi0, .int .i64 sh] 39 (0, 0)) := by rw [hVc]; exact alloc_at _ _ rfl
        have HVC := Lib.hid hVc
        clear hVc
        go_upto_region 12 with (fail)
        rw [← HVC.out]
        obtain ⟨P, hP⟩ : ∃ P, P = V.heap.size := ⟨_, rfl⟩
        rw [← hP] at gP ⊢
        have HP := Lib.hid hP
        clear HVC hx d0 d1 d2 d3 d4 hb0 hP
        have hQc := q_on hQV hbc
        have hx := HC.out _ hQc
        have p1 := blk_cell 1 gP rfl
        have pz := lt_of_block gP
        simp only [List.getElem_toArray, List.getElem_cons_zero, List.getElem_cons_succ] at p1
        go_cut [17] from 75 to 82 (fun v W => v = .int .i64 (n : Int) ∧ W = Vc)
        case first =>
          go_wp2
          go_meet
          case rel => exact ⟨by simp only [F1.out.1, F1.out.2], rfl⟩
        case rest =>
          obtain ⟨rfl, hW⟩ := hcut
          obtain rfl := hW.symm
          clear F1 p1 pz
          obtain ⟨bf, of, ef, hbf, n0, ap, kp, n1, n2, n3⟩ := (MS.out _ hQc).forms n hnl
          rw [← HF.out] at n0 n1 n2 n3
          obtain ⟨lo1, hlo1⟩ : ∃ lo1, lo1 = howLo f.parts := ⟨_, rfl⟩
          obtain ⟨hi1, hhi1⟩ : ∃ hi1, hi1 = howHi f.parts := ⟨_, rfl⟩
          have HW := fun (W : World) (h : Below Vc.heap.size Vc W) => HowLong_any ap kp f W n2 (n3.mono h) hfok
          rw [← hlo1, ← hhi1] at HW hhs
          replace HTC := HTC.out
          rw [← hlo1, ← hhi1] at HTC
          replace HTC := Lib.hid HTC
          replace HW := Lib.hid HW
          have hnk : (n : Int) < (kf : Int) := by omega
          have hnI : (n : Int) < (s.forms.length : Int) := by omega
          have HFK := Lib.hid hfok
          have GP := Lib.hid gP
          subst ef
          clear hlo1 hhi1 n2 n3 hfok gP
          go_upto_region 14 with (go_at_call 8; go_must ((with_reducible refine (HW.out _ (Below.refl _ _)).mono ?_); rintro e w3 ⟨rfl, hb3⟩; dsimp only))
          clear HW hx n0 n1 hbf
          obtain ⟨W4, hW4⟩ : ∃ W4 : World, W4 = w3.alloc (.cells #[.int .i64 lo1, .int .i64 hi1] 37) := ⟨_, rfl⟩
          rw [← hW4]
          have hb4 : Below w3.heap.size w3 W4 := by rw [hW4]; exact al_on w3 _
          have g4 : W4.heap[w3.heap.size]? = some (.cells #[.int .i64 lo1, .int .i64 hi1] 37 (0, 0)) := by rw [hW4]; exact alloc_at _ _ rfl
          have hbW4 : Below Vc.heap.size Vc W4 := q_on hb3 hb4
          have gP := (hbW4.block _ (lt_of_block GP.out)).trans GP.out
          clear hW4
          have s0 := blk_cell 0 g4 rfl
          have s1 := blk_cell 1 g4 rfl
          have sz := lt_of_block g4
          have p2 := blk_cell 2 gP rfl
          have p3 := blk_cell 3 gP rfl
          have f2 := blk_free 2 gP
          have f3 := blk_free 3 gP
          have pz := lt_of_block gP
          simp only [List.getElem_toArray, List.getElem_cons_zero, List.getElem_cons_succ] at s0 s1 p2 p3
          have hx := HC.out _ (q_on hQc hbW4)
          have t1 : 1 + lo1 ≤ 100 := by omega
          have t2 : 0 ≤ 1 + lo1 := by omega
          have t3 : 1 + hi1 ≤ 100 := by omega
          have t4 : 0 ≤ 1 + hi1 := by omega
          go_upto_region 15 with (fail)
          obtain ⟨U, hU⟩ : ∃ U : World, U = (W4.setCell ⟨P, 2, none⟩ (.int .i64 (1 + lo1))).setCell ⟨P, 3, none⟩ (.int .i64 (1 + hi1)) := ⟨_, rfl⟩
          rw [← hU]
          have gU : U.heap[P]? = some (.cells #[.string nm, .int .i64 (ki : Int), .int .i64 (1 + lo1), .int .i64 (1 + hi1), .int .i64 sh] 39 (0, 0)) := by
            rw [hU]
            have := blk_set 3 (.int .i64 (1 + hi1)) (blk_set 2 (.int .i64 (1 + lo1)) gP)
            exact this
          have hbU : Below V.heap.size V U := by
            rw [hU]
            exact ((hbc.trans (hbW4.mono hbc.size)).setCell (by rw [HP.out]; exact Nat.le_refl _) _).setCell (by rw [HP.out]; exact Nat.le_refl _) _
          clear hU gP s0 s1 sz p2 p3 f2 f3 pz g4 hb4 hb3 hx t1 t2 t3 t4
          have hIU := hI.on hbU
          have HIU := Lib.hid hIU
          go_cut [] from 97 to 104 (fun W => ∃ a9 c9, DictI Y W T aw kw s h x (k + 1) k a9 c9 (.slice ag k cg))
          case first =>
            refine wp_only ?_
            obtain ⟨L1, hL1⟩ : ∃ L1, L1 = toldTo s h k := ⟨_, rfl⟩
            obtain ⟨L2, hL2⟩ : ∃ L2, L2 = toldTo s h (k + 1) := ⟨_, rfl⟩
            have htk : Hid (L2 = L1 ++ [(⟨nm, (ki : Int), 1 + lo1, 1 + hi1, sh⟩ : DeC)]) := Lib.hid (by rw [hL2, hL1, toldTo_succ, HTC.out])
            obtain ⟨_, a', c', ec', hsz, hzV⟩ := custs_own hIU.own
            cases ec'
            have hVo := hIU.tw
            rw [← hL1] at hsz hzV hVo
            have hll : L1.length ≤ 5 := by rw [hL1, toldTo_len]; omega
            have HL2 := Lib.hid hL2
            have zoV := lt_of_block hVo
            have SF : Hid (∀ W, Below U.heap.size U W → (fun W => Below U.heap.size U W ∧ W.cell? ⟨T, 2, none⟩ = some (.slice a L1.length c) ∧ W.cell? ⟨P, 0, none⟩ = some (.string nm) ∧ W.cell? ⟨P, 1, none⟩ = some (.int .i64 (ki : Int)) ∧ W.cell? ⟨P, 2, none⟩ = some (.int .i64 (1 + lo1)) ∧ W.cell? ⟨P, 3, none⟩ = some (.int .i64 (1 + hi1)) ∧ W.cell? ⟨P, 4, none⟩ = some (.int .i64 sh) ∧ T < W.heap.size ∧ P < W.heap.size) W) := Lib.hid (fun W h => by
              have k1 := (h.block _ (lt_of_block hVo)).trans hVo
              have k2 := (h.block _ (lt_of_block gU)).trans gU
              exact ⟨h, blk_cell 2 k1 rfl, blk_cell 0 k2 rfl, blk_cell 1 k2 rfl, blk_cell 2 k2 rfl, blk_cell 3 k2 rfl, blk_cell 4 k2 rfl, lt_of_block k1, lt_of_block k2⟩)
            clear hL1 hL2 gU HTC HP hI hIU hbU hQV hQc hbc hbW4 GP
            clear V
            obtain ⟨V, hVU⟩ : ∃ V, V = U := ⟨_, rfl⟩
            subst hVU
            refine wp_region_z (fun W => Below V.heap.size V W ∧ W.cell? ⟨T, 2, none⟩ = some (.slice a L1.length c) ∧ W.cell? ⟨P, 0, none⟩ = some (.string nm) ∧ W.cell? ⟨P, 1, none⟩ = some (.int .i64 (ki : Int)) ∧ W.cell? ⟨P, 2, none⟩ = some (.int .i64 (1 + lo1)) ∧ W.cell? ⟨P, 3, none⟩ = some (.int .i64 (1 + hi1)) ∧ W.cell? ⟨P, 4, none⟩ = some (.int .i64 sh) ∧ T < W.heap.size ∧ P < W.heap.size) 8 (by kernel_rfl) (SF.out V.drew (by (repeat' (first | assumption | exact Below.refl _ _ | refine Below.drew ?_ | refine Below.alloc ?_ (by first | omega | (simp <;> omega)) _)))) (fun hHeld => ?_)
            (refine wpZ_take (i := 1) (v := ?_) rfl (by kernel_rfl) (by kernel_rfl) (by kernel_rfl) (by kernel_rfl) (fun _ _ _ h => h) (Or.inl ⟨by kernel_rfl, ?_⟩) (by assumption) ?_; rotate_left 1; (focus (intro w hSw; (try dsimp only at hSw); go_simp; first | done | with_reducible rfl)); simp only [Act.put, List.getElem_toArray, List.getElem_cons_succ, List.getElem_cons_zero, List.setIfInBounds_toArray, List.set_cons_succ, List.set_cons_zero])
            (refine wpZ_take (i := 2) (v := ?_) rfl (by kernel_rfl) (by kernel_rfl) (by kernel_rfl) (by kernel_rfl) (fun _ _ _ h => h) (Or.inl ⟨by kernel_rfl, ?_⟩) (by assumption) ?_; rotate_left 1; (focus (intro w hSw; (try dsimp only at hSw); go_simp; first | done | with_reducible rfl)); simp only [Act.put, List.getElem_toArray, List.getElem_cons_succ, List.getElem_cons_zero, List.setIfInBounds_toArray, List.set_cons_succ, List.set_cons_zero])
            (refine wpZ_take (i := 4) (v := ?_) rfl (by kernel_rfl) (by kernel_rfl) (by kernel_rfl) (by kernel_rfl) (fun _ _ _ h => h) (Or.inl ⟨by kernel_rfl, ?_⟩) (by assumption) ?_; rotate_left 1; (focus (intro w hSw; (try dsimp only at hSw); go_simp; first | done | with_reducible rfl)); simp only [Act.put, List.getElem_toArray, List.getElem_cons_succ, List.getElem_cons_zero, List.setIfInBounds_toArray, List.set_cons_succ, List.set_cons_zero])
            refine wpZ_ready (rs := [0, 5]) (by kernel_rfl) (by simp) (AllZ.cons rfl (fun K hK => ?_) (AllZ.cons rfl (fun K hK => ?_) AllZ.nil)); (focus ((go_simp; refine hK.out _ _ (fun _ => SF.out _ (by (repeat' (first | assumption | exact Below.refl _ _ | refine Below.drew ?_ | refine Below.alloc ?_ (by first | omega | (simp <;> omega)) _)))) ?_; (try simp only [Act.put, List.getElem_toArray, List.getElem_cons_succ, List.getElem_cons_zero, List.setIfInBounds_toArray, List.set_cons_succ, List.set_cons_zero]); clear hK); refine wpZ_ready (rs := [3, 5]) (by kernel_rfl) (by simp) (AllZ.cons rfl (fun K hK => ?_) (AllZ.cons rfl (fun K hK => ?_) AllZ.nil)); (focus (have hm0 : ((V.alloc (.cells #[] 39)).drew).ownsRow V.heap.size 39 5 (.slice (some ⟨V.heap.size, 0, none⟩) 0 0) 0 [] := (made_row2 (Nat.le_refl _) _ _).drew; refine step_app (.tmp 97) (.tmp 99) (v := .slice (some ⟨V.heap.size, 0, none⟩) 0 0) E_cust (by rfl) (by rfl) (by rfl) (by rfl) V.heap.size 0 L1.length [] (flatC custCells L1) hm0 (SrcAt.custs hsz.2.2 (hzV.mono (by (repeat' (first | assumption | exact Below.refl _ _ | refine Below.drew ?_ | refine Below.alloc ?_ (by first | omega | (simp <;> omega)) _))))) (by omega) (by decide) (by first | omega | (simp [drewE_heap] <;> omega)) ?_; intro v1 V1 ho1 hg1 _; (have hB1 : Below V.heap.size V V1 := app_grown (by (repeat' (first | assumption | exact Below.refl _ _ | refine Below.drew ?_ | refine Below.alloc ?_ (by first | omega | (simp <;> omega)) _))) hm0 hg1); (rw [Nat.zero_add, List.nil_append] at ho1); have hz1v := hB1.size; refine hK.out _ _ (fun _ => SF.out _ hB1) ?_; (try simp only [Act.put, List.getElem_toArray, List.getElem_cons_succ, List.getElem_cons_zero, List.setIfInBounds_toArray, List.set_cons_succ, List.set_cons_zero]); clear hK; refine wpZ_ready (rs := [5]) (by kernel_rfl) (by simp) (AllZ.cons rfl (fun K hK => ?_) AllZ.nil); (go_simp; refine hK.out _ _ (fun _ => SF.out _ (by (repeat' (first | assumption | exact Below.refl _ _ | refine Below.drew ?_ | refine Below.alloc ?_ (by first | omega | (simp <;> omega)) _)))) ?_; (try simp only [Act.put, List.getElem_toArray, List.getElem_cons_succ, List.getElem_cons_zero, List.setIfInBounds_toArray, List.set_cons_succ, List.set_cons_zero]); clear hK); have hs2 := SrcAt.cust1 V1 nm ki (1 + lo1) (1 + hi1) sh 39; refine wpZ_ready (rs := [6]) (by kernel_rfl) (by simp) (AllZ.cons rfl (fun K hK => ?_) AllZ.nil); refine step_app (.tmp 100) (.tmp 102) (v := v1) E_cust (by rfl) (by rfl) (by rfl) (by rfl) V.heap.size L1.length 1 (flatC custCells L1) [.string nm, .int .i64 (ki : Int), .int .i64 (1 + lo1), .int .i64 (1 + hi1), .int .i64 sh] (by first | exact ho1 | exact ho1.alloc _) hs2 (by omega) (by decide) (by first | omega | (simp [drewE_heap] <;> omega)) ?_; intro v2 V2 ho2 hg2 _; (have hB2 : Below V.heap.size V V2 := app_grown (by (repeat' (first | assumption | exact Below.refl _ _ | refine Below.drew ?_ | refine Below.alloc ?_ (by first | omega | (simp <;> omega)) _))) (by first | exact ho1 | exact ho1.alloc _) hg2); (rw [cust_snoc, ← htk.out] at ho2); (have e2 : L1.length + 1 = L2.length := by rw [htk.out]; simp); (rw [e2] at ho2); clear e2; (obtain ⟨-, a9, c9, rfl, hs9, -⟩ := custs_own ho2); (have hc2 : V2.heap[T]? = _ := (hB2.block _ zoV).trans hVo); have hHeld2 := SF.out _ hB2; refine hK.out _ _ (fun _ => hHeld2) ?_; (try simp only [Act.put, List.getElem_toArray, List.getElem_cons_succ, List.getElem_cons_zero, List.setIfInBounds_toArray, List.set_cons_succ, List.set_cons_zero]); clear hK; (refine wpZ_take (i := 7) (v := ?_) rfl (by kernel_rfl) (by kernel_rfl) (by kernel_rfl) (by kernel_rfl) (fun _ _ _ h => h) (Or.inl ⟨by kernel_rfl, ?_⟩) (by assumption) ?_; rotate_left 1; (focus (intro w hSw; (try dsimp only at hSw); go_simp; first | done | with_reducible rfl)); simp only [Act.put, List.getElem_toArray, List.getElem_cons_succ, List.getElem_cons_zero, List.setIfInBounds_toArray, List.set_cons_succ, List.set_cons_zero]); have k2 : V2.cell? ⟨T, 2, none⟩ = some (.slice a L1.length c) := blk_cell 2 hc2 rfl; have k3 := blk_free 2 hc2; have zo2 := lt_of_block hc2; refine wpZ_ready (rs := [8]) (by kernel_rfl) (by simp) (AllZ.cons rfl (fun K hK => ?_) AllZ.nil); (go_simp; refine hK.out _ _ (fun h => absurd rfl h) ?_; (try simp only [Act.put, List.getElem_toArray, List.getElem_cons_succ, List.getElem_cons_zero, List.setIfInBounds_toArray, List.set_cons_succ, List.set_cons_zero]); clear hK; refine wpZ_done (by kernel_rfl) ?_ _))); rotate_left 1; (focus ((go_simp; refine hK.out _ _ (fun _ => SF.out _ (by (repeat' (first | assumption | exact Below.refl _ _ | refine Below.drew ?_ | refine Below.alloc ?_ (by first | omega | (simp <;> omega)) _)))) ?_; (try simp only [Act.put, List.getElem_toArray, List.getElem_cons_succ, List.getElem_cons_zero, List.setIfInBounds_toArray, List.set_cons_succ, List.set_cons_zero]); clear hK); refine wpZ_ready (rs := [3]) (by kernel_rfl) (by simp) (AllZ.cons rfl (fun K hK => ?_) AllZ.nil); have hm0 : (((V.alloc (.cells #[] 39)).alloc (.cells #[.string nm, .int .i64 (ki : Int), .int .i64 (1 + lo1), .int .i64 (1 + hi1), .int .i64 sh] 39)).drew).ownsRow V.heap.size 39 5 (.slice (some ⟨V.heap.size, 0, none⟩) 0 0) 0 [] := ((made_row2 (Nat.le_refl _) _ _).alloc _).drew; have hsr : SrcAt (((V.alloc (.cells #[] 39)).alloc (.cells #[.string nm, .int .i64 (ki : Int), .int .i64 (1 + lo1), .int .i64 (1 + hi1), .int .i64 sh] 39)).drew) (.slice (some ⟨V.heap.size + 1, 0, none⟩) 1 1) 1 5 [.string nm, .int .i64 (ki : Int), .int .i64 (1 + lo1), .int .i64 (1 + hi1), .int .i64 sh] := (by have h := (SrcAt.cust1 (V.alloc (.cells #[] 39)) nm ki (1 + lo1) (1 + hi1) sh 39).below (below_drew' (Below.refl _ _)); rwa [show (V.alloc (.cells #[] 39)).heap.size = V.heap.size + 1 from by simp] at h); refine step_app (.tmp 97) (.tmp 99) (v := .slice (some ⟨V.heap.size, 0, none⟩) 0 0) E_cust (by rfl) (by rfl) (by rfl) (by rfl) V.heap.size 0 L1.length [] (flatC custCells L1) hm0 (SrcAt.custs hsz.2.2 (hzV.mono (by (repeat' (first | assumption | exact Below.refl _ _ | refine Below.drew ?_ | refine Below.alloc ?_ (by first | omega | (simp <;> omega)) _))))) (by omega) (by decide) (by first | omega | (simp [drewE_heap] <;> omega)) ?_; intro v1 V1 ho1 hg1 _; (have hB1 : Below V.heap.size V V1 := app_grown (by (repeat' (first | assumption | exact Below.refl _ _ | refine Below.drew ?_ | refine Below.alloc ?_ (by first | omega | (simp <;> omega)) _))) hm0 hg1); (rw [Nat.zero_add, List.nil_append] at ho1); have hz1v := hB1.size; refine hK.out _ _ (fun _ => SF.out _ hB1) ?_; (try simp only [Act.put, List.getElem_toArray, List.getElem_cons_succ, List.getElem_cons_zero, List.setIfInBounds_toArray, List.set_cons_succ, List.set_cons_zero]); clear hK; have hs2 := src_grown hsr hg1 (by simp [Value.ownBlock]); refine wpZ_ready (rs := [6]) (by kernel_rfl) (by simp) (AllZ.cons rfl (fun K hK => ?_) AllZ.nil); refine step_app (.tmp 100) (.tmp 102) (v := v1) E_cust (by rfl) (by rfl) (by rfl) (by rfl) V.heap.size L1.length 1 (flatC custCells L1) [.string nm, .int .i64 (ki : Int), .int .i64 (1 + lo1), .int .i64 (1 + hi1), .int .i64 sh] (by first | exact ho1 | exact ho1.alloc _) hs2 (by omega) (by decide) (by first | omega | (simp [drewE_heap] <;> omega)) ?_; intro v2 V2 ho2 hg2 _; (have hB2 : Below V.heap.size V V2 := app_grown (by (repeat' (first | assumption | exact Below.refl _ _ | refine Below.drew ?_ | refine Below.alloc ?_ (by first | omega | (simp <;> omega)) _))) (by first | exact ho1 | exact ho1.alloc _) hg2); (rw [cust_snoc, ← htk.out] at ho2); (have e2 : L1.length + 1 = L2.length := by rw [htk.out]; simp); (rw [e2] at ho2); clear e2; (obtain ⟨-, a9, c9, rfl, hs9, -⟩ := custs_own ho2); (have hc2 : V2.heap[T]? = _ := (hB2.block _ zoV).trans hVo); have hHeld2 := SF.out _ hB2; refine hK.out _ _ (fun _ => hHeld2) ?_; (try simp only [Act.put, List.getElem_toArray, List.getElem_cons_succ, List.getElem_cons_zero, List.setIfInBounds_toArray, List.set_cons_succ, List.set_cons_zero]); clear hK; (refine wpZ_take (i := 7) (v := ?_) rfl (by kernel_rfl) (by kernel_rfl) (by kernel_rfl) (by kernel_rfl) (fun _ _ _ h => h) (Or.inl ⟨by kernel_rfl, ?_⟩) (by assumption) ?_; rotate_left 1; (focus (intro w hSw; (try dsimp only at hSw); go_simp; first | done | with_reducible rfl)); simp only [Act.put, List.getElem_toArray, List.getElem_cons_succ, List.getElem_cons_zero, List.setIfInBounds_toArray, List.set_cons_succ, List.set_cons_zero]); have k2 : V2.cell? ⟨T, 2, none⟩ = some (.slice a L1.length c) := blk_cell 2 hc2 rfl; have k3 := blk_free 2 hc2; have zo2 := lt_of_block hc2; refine wpZ_ready (rs := [8]) (by kernel_rfl) (by simp) (AllZ.cons rfl (fun K hK => ?_) AllZ.nil); (go_simp; refine hK.out _ _ (fun h => absurd rfl h) ?_; (try simp only [Act.put, List.getElem_toArray, List.getElem_cons_succ, List.getElem_cons_zero, List.setIfInBounds_toArray, List.set_cons_succ, List.set_cons_zero]); clear hK; refine wpZ_done (by kernel_rfl) ?_ _))))); rotate_left 2; (focus ((go_simp; refine hK.out _ _ (fun _ => SF.out _ (by (repeat' (first | assumption | exact Below.refl _ _ | refine Below.drew ?_ | refine Below.alloc ?_ (by first | omega | (simp <;> omega)) _)))) ?_; (try simp only [Act.put, List.getElem_toArray, List.getElem_cons_succ, List.getElem_cons_zero, List.setIfInBounds_toArray, List.set_cons_succ, List.set_cons_zero]); clear hK); refine wpZ_ready (rs := [0]) (by kernel_rfl) (by simp) (AllZ.cons rfl (fun K hK => ?_) AllZ.nil); (go_simp; refine hK.out _ _ (fun _ => SF.out _ (by (repeat' (first | assumption | exact Below.refl _ _ | refine Below.drew ?_ | refine Below.alloc ?_ (by first | omega | (simp <;> omega)) _)))) ?_; (try simp only [Act.put, List.getElem_toArray, List.getElem_cons_succ, List.getElem_cons_zero, List.setIfInBounds_toArray, List.set_cons_succ, List.set_cons_zero]); clear hK); refine wpZ_ready (rs := [3]) (by kernel_rfl) (by simp) (AllZ.cons rfl (fun K hK => ?_) AllZ.nil); have hm0 : (((V.alloc (.cells #[.string nm, .int .i64 (ki : Int), .int .i64 (1 + lo1), .int .i64 (1 + hi1), .int .i64 sh] 39)).alloc (.cells #[] 39)).drew).ownsRow V.heap.size 39 5 (.slice (some ⟨V.heap.size + 1, 0, none⟩) 0 0) 0 [] := (by have h := (made_row2 (B := V.heap.size) (W := V.alloc (.cells #[.string nm, .int .i64 (ki : Int), .int .i64 (1 + lo1), .int .i64 (1 + hi1), .int .i64 sh] 39)) (by simp) 39 5).drew; rwa [show (V.alloc (.cells #[.string nm, .int .i64 (ki : Int), .int .i64 (1 + lo1), .int .i64 (1 + hi1), .int .i64 sh] 39)).heap.size = V.heap.size + 1 from by simp] at h); have hsr : SrcAt (((V.alloc (.cells #[.string nm, .int .i64 (ki : Int), .int .i64 (1 + lo1), .int .i64 (1 + hi1), .int .i64 sh] 39)).alloc (.cells #[] 39)).drew) (.slice (some ⟨V.heap.size, 0, none⟩) 1 1) 1 5 [.string nm, .int .i64 (ki : Int), .int .i64 (1 + lo1), .int .i64 (1 + hi1), .int .i64 sh] := (SrcAt.cust1 V nm ki (1 + lo1) (1 + hi1) sh 39).below (below_drew' (al_onL _ _)); refine step_app (.tmp 97) (.tmp 99) (v := .slice (some ⟨V.heap.size + 1, 0, none⟩) 0 0) E_cust (by rfl) (by rfl) (by rfl) (by rfl) V.heap.size 0 L1.length [] (flatC custCells L1) hm0 (SrcAt.custs hsz.2.2 (hzV.mono (by (repeat' (first | assumption | exact Below.refl _ _ | refine Below.drew ?_ | refine Below.alloc ?_ (by first | omega | (simp <;> omega)) _))))) (by omega) (by decide) (by first | omega | (simp [drewE_heap] <;> omega)) ?_; intro v1 V1 ho1 hg1 _; (have hB1 : Below V.heap.size V V1 := app_grown (by (repeat' (first | assumption | exact Below.refl _ _ | refine Below.drew ?_ | refine Below.alloc ?_ (by first | omega | (simp <;> omega)) _))) hm0 hg1); (rw [Nat.zero_add, List.nil_append] at ho1); have hz1v := hB1.size; refine hK.out _ _ (fun _ => SF.out _ hB1) ?_; (try simp only [Act.put, List.getElem_toArray, List.getElem_cons_succ, List.getElem_cons_zero, List.setIfInBounds_toArray, List.set_cons_succ, List.set_cons_zero]); clear hK; have hs2 := src_grown hsr hg1 (by simp [Value.ownBlock]); refine wpZ_ready (rs := [6]) (by kernel_rfl) (by simp) (AllZ.cons rfl (fun K hK => ?_) AllZ.nil); refine step_app (.tmp 100) (.tmp 102) (v := v1) E_cust (by rfl) (by rfl) (by rfl) (by rfl) V.heap.size L1.length 1 (flatC custCells L1) [.string nm, .int .i64 (ki : Int), .int .i64 (1 + lo1), .int .i64 (1 + hi1), .int .i64 sh] (by first | exact ho1 | exact ho1.alloc _) hs2 (by omega) (by decide) (by first | omega | (simp [drewE_heap] <;> omega)) ?_; intro v2 V2 ho2 hg2 _; (have hB2 : Below V.heap.size V V2 := app_grown (by (repeat' (first | assumption | exact Below.refl _ _ | refine Below.drew ?_ | refine Below.alloc ?_ (by first | omega | (simp <;> omega)) _))) (by first | exact ho1 | exact ho1.alloc _) hg2); (rw [cust_snoc, ← htk.out] at ho2); (have e2 : L1.length + 1 = L2.length := by rw [htk.out]; simp); (rw [e2] at ho2); clear e2; (obtain ⟨-, a9, c9, rfl, hs9, -⟩ := custs_own ho2); (have hc2 : V2.heap[T]? = _ := (hB2.block _ zoV).trans hVo); have hHeld2 := SF.out _ hB2; refine hK.out _ _ (fun _ => hHeld2) ?_; (try simp only [Act.put, List.getElem_toArray, List.getElem_cons_succ, List.getElem_cons_zero, List.setIfInBounds_toArray, List.set_cons_succ, List.set_cons_zero]); clear hK; (refine wpZ_take (i := 7) (v := ?_) rfl (by kernel_rfl) (by kernel_rfl) (by kernel_rfl) (by kernel_rfl) (fun _ _ _ h => h) (Or.inl ⟨by kernel_rfl, ?_⟩) (by assumption) ?_; rotate_left 1; (focus (intro w hSw; (try dsimp only at hSw); go_simp; first | done | with_reducible rfl)); simp only [Act.put, List.getElem_toArray, List.getElem_cons_succ, List.getElem_cons_zero, List.setIfInBounds_toArray, List.set_cons_succ, List.set_cons_zero]); have k2 : V2.cell? ⟨T, 2, none⟩ = some (.slice a L1.length c) := blk_cell 2 hc2 rfl; have k3 := blk_free 2 hc2; have zo2 := lt_of_block hc2; refine wpZ_ready (rs := [8]) (by kernel_rfl) (by simp) (AllZ.cons rfl (fun K hK => ?_) AllZ.nil); (go_simp; refine hK.out _ _ (fun h => absurd rfl h) ?_; (try simp only [Act.put, List.getElem_toArray, List.getElem_cons_succ, List.getElem_cons_zero, List.setIfInBounds_toArray, List.set_cons_succ, List.set_cons_zero]); clear hK; refine wpZ_done (by kernel_rfl) ?_ _)))
            all_goals
              dsimp only [onlyN]
              go_wp2
              go_meet
              case rel =>
                have e2 := HL2.out
                subst e2
                exact ⟨a9, c9, DictI.app HIU.out hTY hB2 ho2⟩
          case rest =>
            obtain ⟨a9, c9, hI1⟩ := hcut
            rename World => V1
            clear hIU HIU HTC hI hbU gU GP hbW4 hbc
            have hQ1 := q_on hQ hI1.q
            obtain ⟨fw, hfw⟩ : ∃ fw, fw = fillW s h x k := ⟨_, rfl⟩
            obtain ⟨lw, hlw⟩ : ∃ lw, lw = letW s h x k := ⟨_, rfl⟩
            have HFW := Lib.hid hfw
            have HLW := Lib.hid hlw
            have hl15 : lw.length ≤ 15 := by rw [hlw]; exact let_small HV.out hf0 k
            clear hfw hlw
            go_upto_region 18 with (fail)
            go_loopw [19, 20] (fun o i U => ∃ j : Nat, j ≤ x.length ∧ i = .int .i64 j ∧ U.ownsRow V1.heap.size 5 1 o j (((rotL x k).take j).map (Value.int .u8)) ∧ Below V1.heap.size V1 U) (fun _ i _ => x.length - (intOf i).toNat)
            case atStart => exact ⟨0, Nat.zero_le _, rfl, by rw [List.take_zero]; exact World.ownsRow_nil _ _ _ _, Below.refl _ _⟩
            case round =>
              rename World => U
              obtain ⟨j, hj, rfl, hown, hbU⟩ := hrel
              by_cases hjl : j < x.length
              · obtain ⟨h2, hrs⟩ := rotL_succ (i := k) hjl
                obtain ⟨bx, ox, ex, hbx, y0, y1, y2⟩ := MX.out U (q_on hQ1 hbU) _ h2
                have HRS := Lib.hid hrs
                clear hrs
                generalize x[(j + k) % x.length] = y at *
                obtain ⟨q, hq⟩ : ∃ q : Nat, q = (j + k) % x.length := ⟨_, rfl⟩
                rw [← hq] at y0 h2
                have g1 : ((j : Int) + (k : Int)) % (x.length : Int) = (q : Int) := by rw [hq]; exact (Int.natCast_emod _ _).symm
                have g2 : ((j : Int) + (k : Int)).tmod (x.length : Int) = (q : Int) := by rw [Int.tmod_eq_emod_of_nonneg (by omega)]; exact g1
                have hne : ((x.length : Int) == 0) = false := eqi_f (by omega)
                have hqc : (q : Int) < (x.length : Int) := by omega
                have hjI : (j : Int) < (x.length : Int) := by omega
                have HO := Lib.hid hown
                have hz1 := hbU.size
                subst ex
                clear hq hown
                go_wp2_with (at_builtin; go_must (refine wpList_app_big (.tmp 111) (.tmp 121) E_byteB rfl rfl rfl rfl V1.heap.size j 1 (((rotL x k).take j).map (Value.int .u8)) [.int .u8 y] (HO.out.alloc _) (SrcAt.one _ _ _ rfl) (by omega) (by omega) (by simp; omega) ?_; intro v7 w7 ho7 hg7 _; have hb7 := app_next hbU (Nat.le_refl _) (Nat.le_refl _) HO.out hg7; clear hg7; simp only [Act.put, List.setIfInBounds_toArray, List.set_cons_succ, List.set_cons_zero]))
                go_roundw
                case rel => exact ⟨j + 1, by omega, by go_num, by rw [HRS.out, List.map_append]; exact ho7, hb7⟩
                case measure => simp [intOf]; omega
              · obtain rfl : j = x.length := by omega
                have hxr : (rotL x k).length = x.length := rotL_len x k
                rw [← hxr, List.take_length, hxr] at hown
                obtain ⟨ao, co, rfl, oso, ob⟩ := bytes_own hown (rotL_mem (fun y hy => bytes_bd (MX.out U (q_on hQ1 hbU)) y hy))
                rw [hxr] at oso ⊢
                have hIU := hI1.on hbU
                have hQU := q_on hQ hIU.q
                have HI := Lib.hid hIU
                obtain ⟨bf', of', ef, hbf, n0, ap, kp, n1, n2, n3⟩ := (MS.out _ hQU).forms n hnl
                cases ef
                rw [← HF.out] at n0 n1 n2 n3
                have hx := HC.out _ hQU
                have e1 : anyFrom (rotL x k) (roomsF f.parts) 0 = fw := by rw [HFW.out]; unfold fillW; rw [HPA.out]
                have e2 : makeF f.parts fw = lw := by rw [HLW.out, HFW.out]; unfold letW; rw [HPA.out]
                have AN : Hid (∀ W, Below U.heap.size U W → Calls Tryz.prog 10 #[.agg #[.string f.name, .slice ap f.parts.length kp], .slice ao x.length co] W fun e w' => ∃ a c, e = .returned (.slice a fw.length c) ∧ SlOk a fw.length c ∧ StrRowsC w' a fw ∧ Below W.heap.size W w') := Lib.hid (fun W h => by
                  have C := LAny_any ap kp f ao (rotL x k) co W n2 (n3.mono h) HFK.out (by rw [hxr]; exact oso) (ob.mono h)
                  rw [e1, hxr] at C
                  exact C)
                have MK : Hid (∀ W, Below U.heap.size U W → ∀ (al : Option Addr) (cl : Nat), SlOk al fw.length cl → StrRowsC W al fw → Calls Tryz.prog 9 #[.agg #[.int .i64 s.width, .slice (some ⟨bf, of, none⟩) s.forms.length kf], .int .i64 (n : Int), .slice al fw.length cl] W fun e w' => ∃ a c, e = .returned (.tuple #[.slice a lw.length c, .int .i64 0]) ∧ SlOk a lw.length c ∧ StrsC w' a lw ∧ Below W.heap.size W w') := Lib.hid (fun W h al cl h1 h2 => by
                  have C := LMake_any (some ⟨bf, of, none⟩) kf s n al fw cl W (MS.out _ (q_on hQU h)) HV.out hnl h1 h2 (by rw [← HF.out, HFW.out, ← HPA.out]; exact fill_put HV.out hf0 k)
                  rw [← HF.out, e2] at C
                  exact C)
                have FL : Hid (∃ (m z : Nat), 0 < m ∧ ∀ W, Below U.heap.size U W → ∀ (al : Option Addr) (cl : Nat), SlOk al lw.length cl → StrsC W al lw → Calls Tryz.prog 11 #[.agg #[.int .i64 s.width, .slice (some ⟨bf, of, none⟩) s.forms.length kf], .int .i64 (n : Int), .slice al lw.length cl] W fun e w' => ∃ a c, e = .returned (.tuple #[.slice a z c, .int .i64 (m : Int), .int .i64 0]) ∧ Below W.heap.size W w') := Lib.hid (by
                  have hg : 0 < (waysG f.parts lw).2.2 := by rw [HLW.out, ← HPA.out]; exact let_waysG HV.out hf0 k
                  refine ⟨(waysG f.parts lw).2.2, (fillsF f.parts (waysG f.parts lw).2.1 lw).length, hg, fun W h al cl h1 h2 => ?_⟩
                  have C := LFills_any (some ⟨bf, of, none⟩) kf s n al lw cl W (MS.out _ (q_on hQU h)) HV.out hnl h1 h2 (by rw [HLW.out]; exact let_ok HV.out hf0 k) (by rw [← HF.out]; exact hg)
                  rw [← HF.out] at C
                  exact C.mono fun e w' ⟨a, c, k1, _, _, k2⟩ => ⟨a, c, k1, k2⟩)
                have KE : Hid (∀ W, Below U.heap.size U W → (fun W => Below U.heap.size U W ∧ W.cell? ⟨w.heap.size, 0, none⟩ = some (.int .i64 s.width) ∧ W.cell? ⟨w.heap.size, 1, none⟩ = some (.slice (some ⟨bf, of, none⟩) s.forms.length kf) ∧ W.cell? ⟨bf, of + n * 2, none⟩ = some (.string f.name) ∧ W.cell? ⟨bf, of + n * 2 + 1, none⟩ = some (.slice ap f.parts.length kp) ∧ w.heap.size < W.heap.size ∧ bf < W.heap.size) W) := Lib.hid (fun W h => by
                  obtain ⟨z1, z2, z3, -⟩ := HC.out _ (q_on hQU h)
                  exact ⟨h, z1, z2, cell_below h n0, cell_below h n1, z3, Nat.lt_of_lt_of_le hbf h.size⟩)
                clear e1 e2 n0 n1 n2 n3 hbf ob oso hown hxr hIU hx
                go_upto_region 21 with (fail)
                have hg0 := below_drew' (Below.refl U.heap.size U)
                refine wp_region_held_drew (S := (fun W => Below U.heap.size U W ∧ W.cell? ⟨w.heap.size, 0, none⟩ = some (.int .i64 s.width) ∧ W.cell? ⟨w.heap.size, 1, none⟩ = some (.slice (some ⟨bf, of, none⟩) s.forms.length kf) ∧ W.cell? ⟨bf, of + n * 2, none⟩ = some (.string f.name) ∧ W.cell? ⟨bf, of + n * 2 + 1, none⟩ = some (.slice ap f.parts.length kp) ∧ w.heap.size < W.heap.size ∧ bf < W.heap.size)) (by kernel_rfl) (KE.out _ hg0) (fun hHeld => ?_)
                (refine wpAnyH_take (i := 0) (v := ?_) rfl (by kernel_rfl) (by kernel_rfl) (by kernel_rfl) (fun _ _ _ h => h) (Or.inl ⟨by kernel_rfl, ?_⟩) (by assumption) ?_; rotate_left 1; (focus (intro w hSw; (try dsimp only at hSw); go_simp; first | done | with_reducible rfl)); simp only [Act.put, List.getElem_toArray, List.getElem_cons_succ, List.getElem_cons_zero, List.setIfInBounds_toArray, List.set_cons_succ, List.set_cons_zero])
                (refine wpAnyH_take (i := 1) (v := ?_) rfl (by kernel_rfl) (by kernel_rfl) (by kernel_rfl) (fun _ _ _ h => h) (Or.inl ⟨by kernel_rfl, ?_⟩) (by assumption) ?_; rotate_left 1; (focus (intro w hSw; (try dsimp only at hSw); go_simp; first | done | with_reducible rfl)); simp only [Act.put, List.getElem_toArray, List.getElem_cons_succ, List.getElem_cons_zero, List.setIfInBounds_toArray, List.set_cons_succ, List.set_cons_zero])
                (refine wpAnyH_take (i := 2) (v := ?_) rfl (by kernel_rfl) (by kernel_rfl) (by kernel_rfl) (fun _ _ _ h => h) (Or.inl ⟨by kernel_rfl, ?_⟩) (by assumption) ?_; rotate_left 1; (focus (intro w hSw; (try dsimp only at hSw); go_simp; first | done | with_reducible rfl)); simp only [Act.put, List.getElem_toArray, List.getElem_cons_succ, List.getElem_cons_zero, List.setIfInBounds_toArray, List.set_cons_succ, List.set_cons_zero])
                (refine wpAnyH_take (i := 3) (v := ?_) rfl (by kernel_rfl) (by kernel_rfl) (by kernel_rfl) (fun _ _ _ h => h) (Or.inl ⟨by kernel_rfl, ?_⟩) (by assumption) ?_; rotate_left 1; (focus (intro w hSw; (try dsimp only at hSw); go_simp; first | done | with_reducible rfl)); simp only [Act.put, List.getElem_toArray, List.getElem_cons_succ, List.getElem_cons_zero, List.setIfInBounds_toArray, List.set_cons_succ, List.set_cons_zero])
                (refine wpAnyH_take (i := 4) (v := ?_) rfl (by kernel_rfl) (by kernel_rfl) (by kernel_rfl) (fun _ _ _ h => h) (Or.inl ⟨by kernel_rfl, ?_⟩) (by assumption) ?_; rotate_left 1; (focus (intro w hSw; (try dsimp only at hSw); go_simp; first | done | with_reducible rfl)); simp only [Act.put, List.getElem_toArray, List.getElem_cons_succ, List.getElem_cons_zero, List.setIfInBounds_toArray, List.set_cons_succ, List.set_cons_zero])
                (refine wpAnyH_take (i := 5) (v := ?_) rfl (by kernel_rfl) (by kernel_rfl) (by kernel_rfl) (fun _ _ _ h => h) (Or.inl ⟨by kernel_rfl, ?_⟩) (by assumption) ?_; rotate_left 1; (focus (intro w hSw; (try dsimp only at hSw); go_simp; first | done | with_reducible rfl)); simp only [Act.put, List.getElem_toArray, List.getElem_cons_succ, List.getElem_cons_zero, List.setIfInBounds_toArray, List.set_cons_succ, List.set_cons_zero])
                (refine wpAnyH_take (i := 6) (v := ?_) rfl (by kernel_rfl) (by kernel_rfl) (by kernel_rfl) (fun _ _ _ h => h) (Or.inl ⟨by kernel_rfl, ?_⟩) (by assumption) ?_; rotate_left 1; (focus (intro w hSw; (try dsimp only at hSw); go_simp; first | done | with_reducible rfl)); simp only [Act.put, List.getElem_toArray, List.getElem_cons_succ, List.getElem_cons_zero, List.setIfInBounds_toArray, List.set_cons_succ, List.set_cons_zero])
                (refine wpAnyH_take (i := 7) (v := ?_) rfl (by kernel_rfl) (by kernel_rfl) (by kernel_rfl) (fun _ _ _ h => h) (Or.inl ⟨by kernel_rfl, ?_⟩) (by assumption) ?_; rotate_left 1; (focus (intro w hSw; (try dsimp only at hSw); go_simp; first | done | with_reducible rfl)); simp only [Act.put, List.getElem_toArray, List.getElem_cons_succ, List.getElem_cons_zero, List.setIfInBounds_toArray, List.set_cons_succ, List.set_cons_zero])
                (refine wpAnyH_ready (rs := [8]) (by kernel_rfl) (by simp) ?_; refine AllReadyH.cons rfl (fun K hK => ?_) AllReadyH.nil; go_simp)
                refine (AN.out _ hg0).mono ?_
                rintro e wA ⟨aA, cA, rfl, oA, iA, bA⟩
                dsimp only
                have hg1 := q_on hg0 bA
                refine hK.out _ _ (KE.out _ hg1) (fun hHeld => ?_)
                (try simp only [Act.put, List.getElem_toArray, List.getElem_cons_succ, List.getElem_cons_zero, List.setIfInBounds_toArray, List.set_cons_succ, List.set_cons_zero])
                clear hK
                (refine wpAnyH_ready (rs := [9]) (by kernel_rfl) (by simp) ?_; refine AllReadyH.cons rfl (fun K hK => ?_) AllReadyH.nil; go_simp)
                refine (MK.out _ hg1 _ _ oA iA).mono ?_
                rintro e wM ⟨aM, cM, rfl, oM, iM, bM⟩
                dsimp only
                have hg2 := q_on hg1 bM
                refine hK.out _ _ (KE.out _ hg2) (fun hHeld => ?_)
                (try simp only [Act.put, List.getElem_toArray, List.getElem_cons_succ, List.getElem_cons_zero, List.setIfInBounds_toArray, List.set_cons_succ, List.set_cons_zero])
                clear hK
                (refine wpAnyH_take (i := 10) (v := ?_) rfl (by kernel_rfl) (by kernel_rfl) (by kernel_rfl) (fun _ _ _ h => h) (Or.inl ⟨by kernel_rfl, ?_⟩) (by assumption) ?_; rotate_left 1; (focus (intro w hSw; (try dsimp only at hSw); go_simp; first | done | with_reducible rfl)); simp only [Act.put, List.getElem_toArray, List.getElem_cons_succ, List.getElem_cons_zero, List.setIfInBounds_toArray, List.set_cons_succ, List.set_cons_zero])
                (refine wpAnyH_take (i := 11) (v := ?_) rfl (by kernel_rfl) (by kernel_rfl) (by kernel_rfl) (fun _ _ _ h => h) (Or.inl ⟨by kernel_rfl, ?_⟩) (by assumption) ?_; rotate_left 1; (focus (intro w hSw; (try dsimp only at hSw); go_simp; first | done | with_reducible rfl)); simp only [Act.put, List.getElem_toArray, List.getElem_cons_succ, List.getElem_cons_zero, List.setIfInBounds_toArray, List.set_cons_succ, List.set_cons_zero])
                (refine wpAnyH_take (i := 12) (v := ?_) rfl (by kernel_rfl) (by kernel_rfl) (by kernel_rfl) (fun _ _ _ h => h) (Or.inl ⟨by kernel_rfl, ?_⟩) (by assumption) ?_; rotate_left 1; (focus (intro w hSw; (try dsimp only at hSw); go_simp; first | done | with_reducible rfl)); simp only [Act.put, List.getElem_toArray, List.getElem_cons_succ, List.getElem_cons_zero, List.setIfInBounds_toArray, List.set_cons_succ, List.set_cons_zero])
                (refine wpAnyH_take (i := 13) (v := ?_) rfl (by kernel_rfl) (by kernel_rfl) (by kernel_rfl) (fun _ _ _ h => h) (Or.inl ⟨by kernel_rfl, ?_⟩) (by assumption) ?_; rotate_left 1; (focus (intro w hSw; (try dsimp only at hSw); go_simp; first | done | with_reducible rfl)); simp only [Act.put, List.getElem_toArray, List.getElem_cons_succ, List.getElem_cons_zero, List.setIfInBounds_toArray, List.set_cons_succ, List.set_cons_zero])
                (refine wpAnyH_take (i := 14) (v := ?_) rfl (by kernel_rfl) (by kernel_rfl) (by kernel_rfl) (fun _ _ _ h => h) (Or.inl ⟨by kernel_rfl, ?_⟩) (by assumption) ?_; rotate_left 1; (focus (intro w hSw; (try dsimp only at hSw); go_simp; first | done | with_reducible rfl)); simp only [Act.put, List.getElem_toArray, List.getElem_cons_succ, List.getElem_cons_zero, List.setIfInBounds_toArray, List.set_cons_succ, List.set_cons_zero])
                refine wpAnyH_done (by kernel_rfl) ?_ _
                obtain ⟨m, z, hm0, hFL⟩ := FL.out
                have hm1 : ¬ (m : Int) < 1 := by omega
                have FL2 := Lib.hid (hFL _ hg2 _ _ oM iM)
                have hx := HC.out _ (q_on hQU hg2)
                clear hFL FL AN MK KE hHeld hg0 hg1 bA bM iA oA iM
                go_upto_region 25 with (go_at_call 11; go_must ((with_reducible refine FL2.out.mono ?_); rintro e wF ⟨aF, cF, rfl, bF⟩; dsimp only))
                have hg3 := q_on hg2 bF
                have HI2 := Lib.hid (HI.out.on hg3)
                have hsz : T + 1 ≤ wF.heap.size := lt_of_block HI2.out.tw
                clear hx FL2 hm1 hm0
                go_wp2_with (at_builtin; go_must (refine wpList_app (.tmp 154) (.tmp 158) E_int rfl rfl rfl rfl (T + 1) k 1 ((longTo s h x k).map (Value.int .i64)) [.int .i64 (1 + (lw.length : Int))] (HI2.out.lg.alloc _) (SrcAt.one _ _ _ rfl) (by omega) (by decide) (by simp; omega) ?_; intro v7 w7 ho7 hg7 _; have hI7 := Lib.hid (fun (e : lw = letW s h x k) => HI2.out.long hTY hg7 (by rw [← e]; exact ho7)); clear hg7; simp only [Act.put, List.setIfInBounds_toArray, List.set_cons_succ, List.set_cons_zero]))
                go_roundw
                case rel => exact ⟨k + 1, a9, c9, by omega, by go_num, hI7.out HLW.out⟩
                case measure => simp [intOf]; omega
      · obtain rfl : k = h.customers.length := by omega
        have hHall := hI.hall (M.out Y hQ)
        obtain ⟨al, cl, eg, ol, il⟩ := hI.longs
        injection eg with eg1 eg2 eg3
        subst eg1
        subst eg3
        clear eg2
        have tw : V.heap[T]? = some (.cells #[.int .i64 (toldH s h).wax, .slice aw (toldH s h).writers.length kw, .slice a (toldH s h).customers.length c] 28 (0, 0)) := hI.tw
        have hHE := told_err HE.out HV.out hf0
        have hHC : (toldH s h).customers.length = h.customers.length := toldTo_len s h _
        have hHW : (toldH s h).writers.length = h.writers.length := rfl
        obtain ⟨L, hL⟩ : ∃ L, L = longTo s h x h.customers.length := ⟨_, rfl⟩
        have hLL : L.length = h.customers.length := by rw [hL, longTo_len]
        have HLB : Hid (∀ i (hi : i < L.length), 0 ≤ L[i] ∧ L[i] ≤ (customerAt (toldH s h) i).hi) := Lib.hid (by
          subst hL
          intro i hi
          have hi2 : i < h.customers.length := by rw [← hLL]; exact hi
          obtain ⟨h3, h4⟩ := longTo_at s h x hi2
          rw [h4, told_at s h hi2]
          have := let_how (x := x) (h := h) HV.out hf0 i
          show 0 ≤ _ ∧ _ ≤ 1 + howHi (tParts s h i)
          omega)
        rw [← hL] at ol il
        clear hL
        obtain ⟨H, hH⟩ : ∃ H, H = toldH s h := ⟨_, rfl⟩
        rw [← hH] at hHall tw hHE hHC hHW HLB
        have HTV : Hid (∀ W, Below V.heap.size V W → (W.cell? ⟨T, 0, none⟩ = some (.int .i64 H.wax) ∧ W.cell? ⟨T, 1, none⟩ = some (.slice aw H.writers.length kw) ∧ W.cell? ⟨T, 2, none⟩ = some (.slice a H.customers.length c) ∧ T < W.heap.size)) := Lib.hid (fun W h2 => by
          have k1 := (h2.block _ (lt_of_block tw)).trans tw
          exact ⟨blk_cell 0 k1 rfl, blk_cell 1 k1 rfl, blk_cell 2 k1 rfl, lt_of_block k1⟩)
        have HMV := Lib.hid (fun (W : World) (h2 : Below V.heap.size V W) => hHall.mono h2)
        have HLV := Lib.hid (fun (W : World) (h2 : Below V.heap.size V W) => il.mono h2)
        have hlc := ol.1
        have hac := hHall.okc.1
        have HDV := Lib.hid (deValid_of hHE)
        have HWV := Lib.hid (HWX.out.trans (hQV.mono HWX.out.size))
        have HBC := Lib.hid (best_cases hHE)
        have HHE := Lib.hid hHE
        have HXV := Lib.hid (fun (W : World) (h2 : Below V.heap.size V W) => MX.out W (q_on hQV h2))
        have HHC := Lib.hid hHC
        have HHW := Lib.hid hHW
        have HLL := Lib.hid hLL
        clear hH hHall tw hHE il hI hlt hk hcc hwc hHC hHW hLL
        have hV := Below.refl V.heap.size V
        obtain ⟨z0, z1, z2, zz⟩ := HTV.out _ hV
        rcases HBC.out with ⟨hb, hno⟩ | ⟨q, hb, hp, hd, -⟩
        · have BE := Lib.hid (DA_Best aw a kw c H [] 0 9 hb V (HMV.out V hV))
          clear hb hno HBC
          go_wp2_with (first
            | (go_at_call 7; (with_reducible refine (DAwake_any _).mono ?_); rintro e w8 ⟨rfl, hb⟩; replace hV := q_on hV hb; dsimp only)
            | (go_at_call 6; (with_reducible refine (LAwake_any _).mono ?_); rintro e w7 ⟨rfl, hb⟩; replace hV := q_on hV hb; dsimp only)
            | (go_at_call 12; (with_reducible refine BE.out.mono ?_); rintro e w6 ⟨aq, cq, rfl, oq, rq, hb⟩; replace hV := q_on hV hb; dsimp only [List.length_nil]))
          go_ret
          exact ⟨rfl, HWV.out.trans (hV.mono HWV.out.size)⟩
        · have BE := Lib.hid (DA_Best aw a kw c H q (deOver H q) 0 hb V (HMV.out V hV))
          have hqs := Nat.le_trans (plan_short HDV.out hp) (show 5 ≤ 1048576 by decide)
          have PL := fun (b : Option Addr) (d : Nat) (W : World) (h2 : Below V.heap.size V W) (ho : SlOk b q.length d) (hr : RowsC W b q) => DRPlan_any aw a kw c H b q d W (HMV.out W h2) ho hqs hr
          rw [plan_good HHE.out hp] at PL
          replace PL := Lib.hid PL
          have hql := Lib.hid hp.len
          have HIN := Lib.hid (fun v (hv : v < q.length) => (must_iff HDV.out hp).1 hd v q[v] (List.getElem?_eq_getElem hv))
          have HIX := Lib.hid (fun v (hv : v < q.length) => plan_idx hp q[v] (List.getElem_mem hv))
          generalize deOver H q = over at BE
          clear hb hp hd HBC
          go_upto_region 32 with (first
            | (go_at_call 13; (with_reducible refine (PL.out _ _ _ hV oq rq).mono ?_); rintro e w7 ⟨rfl, hb⟩; replace rq := rq.mono hb; replace hV := q_on hV hb; dsimp only)
            | (go_at_call 12; (with_reducible refine BE.out.mono ?_); rintro e w6 ⟨aq, cq, rfl, oq, rq, hb⟩; replace hV := q_on hV hb; obtain ⟨z0, z1, z2, zz⟩ := HTV.out _ hV; dsimp only))
          have HVZ := Lib.hid (fun (W : World) (h2 : Below w7.heap.size w7 W) => q_on hV h2)
          have HRQ := Lib.hid (fun (W : World) (h2 : Below w7.heap.size w7 W) => rq.mono h2)
          have hqc := oq.1
          have hq3 : q.length ≤ 3 := by have := hql.out; have := HDV.out.nw; omega
          clear z0 z1 z2 zz rq hb BE PL oq hV
          obtain ⟨Z, hZ⟩ : ∃ Z : World, Z = w7 := ⟨_, rfl⟩
          rw [← hZ] at HVZ HRQ ⊢
          clear hZ
          go_loopw [29] (fun i W => ∃ v : Nat, v ≤ q.length ∧ i = .int .i64 v ∧ Below Z.heap.size Z W) (fun i _ => q.length - (intOf i).toNat)
          case atStart => exact ⟨0, Nat.zero_le _, rfl, Below.refl _ _⟩
          case round =>
            rename World => W
            obtain ⟨v, hv, rfl, hbW⟩ := hrel
            by_cases hlv : v < q.length
            · have hvw : v < H.writers.length := by have := hql.out; omega
              obtain ⟨z0, z1, z2, zz⟩ := HTV.out W (HVZ.out W hbW)
              obtain ⟨bw, ow, ew, hbw, -, -, y2, y3⟩ := (HMV.out W (HVZ.out W hbW)).writers v hvw
              have hkw := (HMV.out W (HVZ.out W hbW)).okw.1
              obtain ⟨bq, oqq, ar, cr, eq, hbq, r0, ro, ri⟩ := HRQ.out W hbW v hlv
              have hwv := HDV.out.w v hvw
              have hin := HIN.out v hlv
              have hwr : writerAt H v = H.writers[v] := by unfold writerAt; rw [List.getElem?_eq_getElem hvw]; rfl
              rw [hwr] at hin
              have HIX2 := Lib.hid (HIX.out v hlv)
              generalize H.writers[v].lo = lo at *
              generalize H.writers[v].hi = hi at *
              generalize q[v] = l at *
              have HIN2 := Lib.hid hin
              have HROW := Lib.hid (show ∀ U, Below W.heap.size W U → (U.cell? ⟨bq, oqq + v, none⟩ = some (.slice ar l.length cr) ∧ bq < U.heap.size ∧ IntsC U ar l) from fun U h2 => ⟨cell_below h2 r0, Nat.lt_of_lt_of_le hbq h2.size, ri.mono h2⟩)
              have hrl := ro.1
              have hwl := ro.len
              have hvI : (v : Int) < (q.length : Int) := by omega
              have hvK : (v : Int) < (kw : Int) := by omega
              have hvW : (v : Int) < (H.writers.length : Int) := by omega
              subst ew
              subst eq
              clear hin hwr hkw r0 ri ro hbq
              go_upto_region 35 with (fail)
              obtain ⟨W1, hW1⟩ : ∃ W1 : World, W1 = W.alloc (.cells #[.int .i64 lo, .int .i64 hi] 37) := ⟨_, rfl⟩
              rw [← hW1]
              have hb1 : Below W.heap.size W W1 := by rw [hW1]; exact al_on W _
              have g1 : W1.heap[W.heap.size]? = some (.cells #[.int .i64 lo, .int .i64 hi] 37 (0, 0)) := by rw [hW1]; exact alloc_at _ _ rfl
              clear hW1
              have s0 := blk_cell 0 g1 rfl
              have s1 := blk_cell 1 g1 rfl
              have sz := lt_of_block g1
              simp only [List.getElem_toArray, List.getElem_cons_zero, List.getElem_cons_succ] at s0 s1
              clear z0 z1 z2 zz y2 y3 hbw g1
              go_upto_if 196 with (fail)
              go_cut [31] (fun u W2 => ∃ n0 : Int, u = .int .i64 n0 ∧ lo ≤ n0 ∧ n0 ≤ hi ∧ Below W.heap.size W W2)
              case first =>
                by_cases hx0 : x.length = 0
                · have hxn : ¬ (0 : Int) < (x.length : Int) := by omega
                  clear hx0
                  go_wp2
                  go_meet
                  case rel => exact ⟨lo, rfl, Int.le_refl _, by omega, hb1⟩
                · have hxn : (0 : Int) < (x.length : Int) := by omega
                  have hlt : v % x.length < x.length := Nat.mod_lt _ (by omega)
                  obtain ⟨bx, ox, ex, hbx, u0, u1, u2⟩ := HXV.out W1 (HVZ.out W1 (q_on hbW hb1)) _ hlt
                  have hxne : ((x.length : Int) == 0) = false := eqi_f (by omega)
                  have hne : (hi - lo + 1 == 0) = false := eqi_f (by omega)
                  generalize x[v % x.length] = y at *
                  have k1 := Int.emod_nonneg y (show hi - lo + 1 ≠ 0 by omega)
                  have k2 := Int.emod_lt_of_pos y (show 0 < hi - lo + 1 by omega)
                  subst ex
                  go_upto_region 37 with (fail)
                  go_quiet (fail)
                  go_wp2
                  go_meet
                  case rel => exact ⟨lo + y % (hi - lo + 1), rfl, by omega, by omega, q_on hb1 (below_draws _ _ _)⟩
              case rest =>
                obtain ⟨n0, rfl, h1, h2, hbW2⟩ := hcut
                rename World => W2
                clear s0 s1 sz hb1
                have hZ2 := q_on hbW hbW2
                go_upto_region 39 with (fail)
                go_loopw [31, 32] (fun u i U => ∃ (j : Nat) (nn t : Int), j ≤ l.length ∧ u = .int .i64 nn ∧ i = .int .i64 j ∧ 0 ≤ nn ∧ nn ≤ t ∧ t ≤ 240 ∧ Hid (inTime H t (l.drop j)) ∧ Below W2.heap.size W2 U) (fun _ i _ => l.length - (intOf i).toNat)
                case atStart => exact ⟨0, n0, hi, Nat.zero_le _, rfl, rfl, by omega, h2, by omega, Lib.hid (by rw [List.drop_zero]; exact HIN2.out), Below.refl _ _⟩
                case round =>
                  clear h1 h2
                  rename World => U
                  obtain ⟨j, nn, t, hj, rfl, rfl, g0, g1, g2, HT2, hbU⟩ := hrel
                  have hWU := q_on hbW2 hbU
                  have hZU := HVZ.out U (q_on hbW hWU)
                  obtain ⟨r0, rz, ri⟩ := HROW.out U hWU
                  by_cases hjl : j < l.length
                  · obtain ⟨hc0, hc1⟩ := HIX2.out l[j] (List.getElem_mem hjl)
                    obtain ⟨ci, hci⟩ : ∃ ci : Nat, l[j] = (ci : Int) := ⟨l[j].toNat, by omega⟩
                    have hcn : l[j].toNat = ci := by omega
                    have hcl2 : ci < H.customers.length := by omega
                    have hcL : ci < L.length := by rw [HLL.out, ← HHC.out]; exact hcl2
                    have hlb := HLB.out ci hcL
                    have hcw := HDV.out.c ci hcl2
                    have hec : customerAt H ci = H.customers[ci] := by unfold customerAt; rw [List.getElem?_eq_getElem hcl2]; rfl
                    rw [hec] at hlb
                    obtain ⟨t1, t2, t3, t4⟩ := dict_step (H := H) (v := L[ci]) hjl HT2.out g1 (by rw [hcn, hec]; exact hlb.2)
                    rw [hcn, hec] at t1 t2 t3 t4
                    obtain ⟨bl, ol2, el, hbl, v0⟩ := ri j hjl
                    rw [hci] at v0
                    have HCE : Hid (∀ W', Below U.heap.size U W' → ∃ ba oa, a = some ⟨ba, oa, none⟩ ∧ ba < W'.heap.size ∧ W'.cell? ⟨ba, oa + ci * 5 + 3 + 1, none⟩ = some (.int .i64 H.customers[ci].ship)) := Lib.hid (fun W' h2 => by
                      obtain ⟨ba, oa, e, z, -, -, -, -, k4⟩ := (HMV.out W' (q_on hZU h2)).custs ci hcl2
                      exact ⟨ba, oa, e, z, k4⟩)
                    obtain ⟨bL, oL, eL, hbL, vL⟩ := HLV.out U hZU ci hcL
                    have HRU := Lib.hid (show ∀ W', Below U.heap.size U W' → (W'.cell? ⟨bq, oqq + v, none⟩ = some (.slice ar l.length cr) ∧ bq < W'.heap.size ∧ W'.cell? ⟨bl, ol2 + j, none⟩ = some (.int .i64 (ci : Int)) ∧ bl < W'.heap.size) from fun W' h2 => ⟨cell_below h2 r0, Nat.lt_of_lt_of_le rz h2.size, cell_below h2 v0, Nat.lt_of_lt_of_le hbl h2.size⟩)
                    obtain ⟨z0, z1, z2, zz⟩ := HTV.out U hZU
                    have HT3 := Lib.hid t2
                    have hwx := HDV.out.wax
                    have hcnI : (ci : Int) < (h.customers.length : Int) := by have := HHC.out; omega
                    have hcnH : (ci : Int) < (H.customers.length : Int) := by omega
                    have hjI : (j : Int) < (l.length : Int) := by omega
                    have hccg : (ci : Int) < (cg : Int) := by have := HLL.out; omega
                    have hcc2 : (ci : Int) < (c : Int) := by omega
                    have hcr : (j : Int) < (cr : Int) := by omega
                    have hvq : (v : Int) < (cq : Int) := by omega
                    generalize L[ci] = vl at *
                    generalize H.customers[ci].ship = sh at *
                    generalize H.customers[ci].hi = ch at *
                    generalize H.wax = wx at *
                    subst el
                    subst eL
                    clear hec hcn hci hc0 hc1 t2 ri HT2
                    go_upto_region 41 with (fail)
                    go_cut [31] from 224 to 238 (fun u U2 => u = .int .i64 (nn + vl + wx) ∧ Below U.heap.size U U2)
                    case first =>
                      go_quiet (fail)
                      go_wp2
                      go_meet
                      case rel => exact ⟨rfl, below_draws _ _ _⟩
                    case rest =>
                      obtain ⟨rfl, hbU2⟩ := hcut
                      rename World => U2
                      clear r0 rz v0 hbl vL hbL z0 z1 z2 zz
                      obtain ⟨r0, rz, v0, hbl⟩ := HRU.out U2 hbU2
                      obtain ⟨z0, z1, z2, zz⟩ := HTV.out U2 (q_on hZU hbU2)
                      obtain ⟨ba, oa, ea, hba, k4⟩ := HCE.out U2 hbU2
                      have hns : ¬ sh < nn + vl + wx := by omega
                      subst ea
                      go_upto_region 42 with (fail)
                      go_quiet (fail)
                      go_wp2
                      go_roundw
                      case rel => exact ⟨j + 1, nn + vl + wx, t + ch + wx, by omega, rfl, by go_num, by omega, t3, by omega, HT3.out, q_on (q_on hbU hbU2) (below_draws _ _ _)⟩
                      case measure => simp [intOf]; omega
                  · obtain rfl : j = l.length := by omega
                    have hvq : (v : Int) < (cq : Int) := by omega
                    go_wp2
                    go_roundw
                    case rel => exact ⟨v + 1, by omega, by go_num, q_on hZ2 hbU⟩
                    case measure => simp [intOf]; omega
            · obtain rfl : v = q.length := by omega
              have hE := Lib.hid (HWV.out.trans ((HVZ.out W hbW).mono HWV.out.size))
              have hV := Below.refl W.heap.size W
              go_wp2_with (first
                | (go_at_call 7; (with_reducible refine (DAwake_any _).mono ?_); rintro e w9 ⟨rfl, hb⟩; replace hV := q_on hV hb; dsimp only)
                | (go_at_call 6; (with_reducible refine (LAwake_any _).mono ?_); rintro e w8 ⟨rfl, hb⟩; replace hV := q_on hV hb; dsimp only))
              go_ret
              exact ⟨rfl, hE.out.trans (hV.mono hE.out.size)⟩
end Go.Proofs.YtelmponkmmfffaaGreat
