/- What is proved here: contracts of the reference of layer 9: Later. Condition: the hall lies in memory. -/
import Derived.Test.YtchnpekgmkhacaaDrGC
set_option linter.unusedVariables false
set_option linter.unusedSimpArgs false
namespace Go.Proofs.Ytchnpekgmkhacaa
open Go Go.RowKit Go.Shelf

def laterTo (h : DeH) (c : Nat) (k : Nat) : Option Int := ((dePlans h).take k).foldl (laterStep h (shippedD h c 240) c) none
theorem laterTo_succ {h : DeH} {c k : Nat} (hk : k < (dePlans h).length) : laterTo h c (k + 1) = laterStep h (shippedD h c 240) c (laterTo h c k) (dePlans h)[k] := by
  unfold laterTo
  rw [List.take_succ_eq_append_getElem hk, List.foldl_append]
  rfl
theorem laterTo_all (h : DeH) (c : Nat) : laterTo h c (dePlans h).length = (dePlans h).foldl (laterStep h (shippedD h c 240) c) none := by
  unfold laterTo
  rw [List.take_length]
def laterV : Option Int → Int
  | none => -1
  | some n => n
theorem later_bad {h : DeH} {c : Int} (he : deErr h ≠ 0) : deLater h c = (0, deErr h) := by
  have e : laterErr h c = deErr h := by unfold laterErr; rw [if_neg he]
  unfold deLater
  rw [e, if_neg he]
theorem later_out {h : DeH} {c : Int} (he : deErr h = 0) (hb : inB c 0 ((h.customers.length : Int) - 1) = false) : deLater h c = (0, 4) := by
  have e : laterErr h c = 4 := by unfold laterErr; rw [if_pos he, hb]; rfl
  unfold deLater
  rw [e]
  rfl
theorem later_none {h : DeH} {c : Nat} (he : deErr h = 0) (hb : inB (c : Int) 0 ((h.customers.length : Int) - 1) = true) (hn : laterTo h c (dePlans h).length = none) : deLater h (c : Int) = (0, 9) := by
  have e : laterErr h (c : Int) = 0 := by unfold laterErr; rw [if_pos he, hb]; rfl
  rw [laterTo_all] at hn
  unfold deLater
  rw [e, if_pos rfl, Int.toNat_natCast, hn]
theorem later_some {h : DeH} {c : Nat} {n : Int} (he : deErr h = 0) (hb : inB (c : Int) 0 ((h.customers.length : Int) - 1) = true) (hn : laterTo h c (dePlans h).length = some n) : deLater h (c : Int) = (n, 0) := by
  have e : laterErr h (c : Int) = 0 := by unfold laterErr; rw [if_pos he, hb]; rfl
  rw [laterTo_all] at hn
  unfold deLater
  rw [e, if_pos rfl, Int.toNat_natCast, hn]
def laterN (h : DeH) (c : Nat) (p : List (List Int)) : Int := max 0 (((deSealed h p)[c]?.getD (0, 0)).2 - (customerAt h c).ship)
theorem ls_not {h last : DeH} {c : Nat} {b : Option Int} {p : List (List Int)} (hd : deDoes last p ≠ 1) : laterStep h last c b p = b := by unfold laterStep; rw [if_neg hd]
theorem ls_none {h last : DeH} {c : Nat} {p : List (List Int)} (hd : deDoes last p = 1) : laterStep h last c none p = some (laterN h c p) := by unfold laterStep; rw [if_pos hd]; rfl
theorem ls_some {h last : DeH} {c : Nat} {m : Int} {p : List (List Int)} (hd : deDoes last p = 1) : laterStep h last c (some m) p = if laterN h c p < m then some (laterN h c p) else some m := by unfold laterStep; rw [if_pos hd]; rfl
theorem laterN_ge (h : DeH) (c : Nat) (p : List (List Int)) : 0 ≤ laterN h c p := by unfold laterN; omega
theorem sealed_bd {h : DeH} (hv : DeValid h) {p : List (List Int)} (hp : PlanOk h h.customers.length p) {c : Nat} (hc : c < h.customers.length) (hs : c < (deSealed h p).length) : 0 ≤ (deSealed h p)[c].2 ∧ (deSealed h p)[c].2 ≤ 1000 := by
  obtain ⟨u, a, b, hu, e⟩ := plan_has hp hc
  have h1 := sealed_at hp e
  rw [Int.toNat_natCast, List.getElem?_eq_getElem hs] at h1
  rw [Option.some.inj h1]
  have hw := hv.w u hu
  have ew : writerAt h u = h.writers[u] := by unfold writerAt; rw [List.getElem?_eq_getElem hu]; rfl
  have hmem : a ++ (c : Int) :: b ∈ p := List.mem_of_getElem? e
  have hup : u < p.length := by rw [hp.len]; exact hu
  have hlen : (a ++ (c : Int) :: b).length ≤ 5 := by
    have e2 : p[u] = a ++ (c : Int) :: b := by rw [List.getElem?_eq_getElem hup] at e; exact Option.some.inj e
    rw [← e2]
    exact Nat.le_trans (row_short hup) (plan_short hv hp)
  have h2 := spanD_bd hv (a ++ [(c : Int)]) ((writerAt h u).lo, (writerAt h u).hi) (fun d hd => plan_idx hp _ hmem d (by
    rcases List.mem_append.1 hd with h9 | h9
    · exact List.mem_append.2 (.inl h9)
    · rw [List.mem_singleton.1 h9]; simp)) (by rw [ew]; simp only; omega) (by rw [ew]; simp only; omega)
  rw [ew] at h2 ⊢
  simp only [List.length_append, List.length_cons, List.length_nil] at h2 hlen
  omega
theorem laterN_eq {h : DeH} {c : Nat} {p : List (List Int)} (hc : c < h.customers.length) : ∃ hs : c < (deSealed h p).length, laterN h c p = max 0 ((deSealed h p)[c].2 - h.customers[c].ship) := by
  have hs : c < (deSealed h p).length := by rw [sealed_len]; exact hc
  refine ⟨hs, ?_⟩
  unfold laterN customerAt
  rw [List.getElem?_eq_getElem hs, List.getElem?_eq_getElem hc]
  rfl
set_option maxRecDepth 100000 in
set_option maxHeartbeats 8000000 in
theorem DRLater_any (aw ac : Option Addr) (kw kc : Nat) (h : DeH) (c : Int) (w : World) (hm : HallC w aw ac kw kc h) :
    Calls Try.prog 35 #[(.agg #[.int .i64 h.wax, .slice aw h.writers.length kw, .slice ac h.customers.length kc]), .int .i64 c] w fun e w' => e = .returned (.tuple #[.int .i64 (deLater h c).1, .int .i64 (deLater h c).2]) ∧ Below w.heap.size w w' := by
  have hB := Below.refl (w.heap.size + 1) (w.alloc (.cells #[.int .i64 h.wax, .slice aw h.writers.length kw, .slice ac h.customers.length kc] 25))
  have HCL := Lib.hid (fun (V : World) (hq : Below (w.heap.size + 1) (w.alloc (.cells #[.int .i64 h.wax, .slice aw h.writers.length kw, .slice ac h.customers.length kc] 25)) V) => box_hall hq)
  have HBN := Lib.hid (fun (V V' : World) (hq : Below (w.heap.size + 1) (w.alloc (.cells #[.int .i64 h.wax, .slice aw h.writers.length kw, .slice ac h.customers.length kc] 25)) V) (hq2 : Below V.heap.size V V') => hq.trans (hq2.mono (by have := hq.size; simp at this; omega)))
  obtain ⟨x0, x1, x2, z0⟩ := box_hall hB
  have CK := DRCheck_any aw ac kw kc h (w.alloc (.cells #[.int .i64 h.wax, .slice aw h.writers.length kw, .slice ac h.customers.length kc] 25)) (hm.mono (box_old hB))
  have HV := Lib.hid (fun h : deErr h = 0 => deValid_of h)
  have HNO := Lib.hid (fun (e : deErr h ≠ 0) => later_bad (c := c) e)
  have HOU := Lib.hid (fun (e : deErr h = 0) hb => later_out (c := c) e hb)
  have HL0 := Lib.hid (fun (e : deErr h = 0) (cn : Nat) hb hn => later_none (c := cn) e hb hn)
  have HL1 := Lib.hid (fun (e : deErr h = 0) (cn : Nat) (n : Int) hb hn => later_some (c := cn) (n := n) e hb hn)
  have e0 : (deCheck h).2.2 = deErr h := rfl
  rw [e0] at CK
  generalize (deCheck h).1 = q1 at CK
  generalize (deCheck h).2.1 = q2 at CK
  generalize deErr h = er at CK HV HNO HOU HL0 HL1
  clear e0
  replace CK := Lib.hid CK
  have hlc := hm.okc.len
  by_cases her : er = 0
  · have hv := HV.out her
    have g0 := eqi_t her
    replace HOU := Lib.hid (HOU.out her)
    replace HL0 := Lib.hid (HL0.out her)
    replace HL1 := Lib.hid (HL1.out her)
    clear HV HNO
    have hnc := hv.nc
    have C1 := fun W => In_any c 0 ((h.customers.length : Int) - 1) W
    cases hin : inB c 0 ((h.customers.length : Int) - 1) with
    | false =>
      have hr := HOU.out hin
      rw [hin] at C1
      rw [hr]
      replace C1 := Lib.hid C1
      clear her hr HOU HL0 HL1 hin
      go_enter Try.func35, Try.ntmps35
      go_wp2_with (first
        | (go_at_call 41; go_must ((with_reducible refine (C1.out _).mono ?_); rintro e w' ⟨rfl, rfl⟩; dsimp only))
        | (go_at_call 17; go_must ((with_reducible refine CK.out.mono ?_); rintro e w1 ⟨rfl, hb1⟩; have hB1 := HBN.out _ _ hB hb1; (obtain ⟨x0, x1, x2, z0⟩ := HCL.out _ hB1); dsimp only)))
      go_ret2
      exact ⟨rfl, box_old hB1⟩
    | true =>
      rw [hin] at C1
      obtain ⟨hc0, hc1⟩ := inB_iff.1 hin
      obtain ⟨c, rfl⟩ := Int.eq_ofNat_of_zero_le hc0
      have hcn : c < h.customers.length := by omega
      replace HL0 := Lib.hid (HL0.out c hin)
      replace HL1 := Lib.hid (fun n => HL1.out c n hin)
      replace C1 := Lib.hid C1
      clear her HOU hin hc0 hc1
      generalize deLater h (c : Int) = res at HL0 HL1 ⊢
      have PL := Lib.hid (fun (W : World) (hb : Below w.heap.size w W) => DRPlans_any aw ac kw kc h W (hm.mono hb) hv)
      have SH := Lib.hid (fun (W : World) (hb : Below w.heap.size w W) => DRShipped_any aw ac kw kc h c 240 W (hm.mono hb) hnc hcn)
      have hmany : (dePlans h).length ≤ 759375 := plans_few hv _ hv.nc
      have hOK := Lib.hid (fun (k : Nat) (hk : k < (dePlans h).length) => show PlanOk h h.customers.length (dePlans h)[k] from mem_plans.1 (List.getElem_mem hk))
      have HST := Lib.hid (fun k hk => laterTo_succ (h := h) (c := c) (k := k) hk)
      have hv2 : DeValid (shippedD h c 240) := ship_valid (c := c) hv (by omega) (by omega)
      generalize dePlans h = L at *
      go_enter Try.func35, Try.ntmps35
      go_upto_region 7 with (first
        | (go_at_call 52; have hh := hB1; go_must ((with_reducible refine (SH.out _ (box_old hB1)).mono ?_); rintro e w2 ⟨a5, d5, rfl, hC5, hb2⟩; have hB2 := HBN.out _ _ hB1 hb2; dsimp only))
        | (go_at_call 41; go_must ((with_reducible refine (C1.out _).mono ?_); rintro e w' ⟨rfl, rfl⟩; dsimp only))
        | (go_at_call 17; go_must ((with_reducible refine CK.out.mono ?_); rintro e w1 ⟨rfl, hb1⟩; have hB1 := HBN.out _ _ hB hb1; (obtain ⟨x0, x1, x2, z0⟩ := HCL.out _ hB1); dsimp only)))
      obtain ⟨Y, hY⟩ : ∃ Y : World, Y = w2.alloc (.cells #[.int .i64 h.wax, .slice aw h.writers.length kw, .slice a5 (shippedD h c 240).customers.length d5] 25) := ⟨_, rfl⟩
      rw [← hY]
      have h2Y : Below w2.heap.size w2 Y := by rw [hY]; exact (by (repeat' (first | assumption | exact Below.refl _ _ | refine below_drew' ?_ | refine Below.setCell ?_ (by first | omega | (simp <;> omega)) _ | refine Below.alloc ?_ (by first | omega | (simp <;> omega)) _)))
      have hY9 : Y.heap[w2.heap.size]? = some (.cells #[.int .i64 h.wax, .slice aw h.writers.length kw, .slice a5 (shippedD h c 240).customers.length d5] 25 (0, 0)) := by rw [hY]; exact alloc_at _ _ rfl
      have hBY := HBN.out _ _ hB2 h2Y
      have hCY := hC5.mono h2Y
      clear hY x0 x1 x2 z0 hC5
      obtain ⟨x0, x1, x2, z0⟩ := HCL.out _ hBY
      go_wp2_with (go_at_call 78; go_must ((with_reducible refine (PL.out _ (box_old hBY)).mono ?_); rintro e w4 ⟨ao, ko, rfl, hso, hPL, hb4⟩; dsimp only))
      have hB4 := HBN.out _ _ hBY hb4
      have h49 := (hb4.block _ (lt_of_block hY9)).trans hY9
      have hC4 := hCY.mono hb4
      have hsl := hso.len
      have hs1 := hso.1
      clear hY9 hCY hb4 h2Y
      go_loopw [11, 12] (fun vb i wr => ∃ k : Nat, k ≤ L.length ∧ i = .int .i64 k ∧ vb = .int .i64 (laterV (laterTo h c k)) ∧ Hid (∀ n, laterTo h c k = some n → 0 ≤ n) ∧ Below w4.heap.size w4 wr) (fun _ i _ => L.length - (intOf i).toNat)
      case atStart => exact ⟨0, Nat.zero_le _, rfl, rfl, Lib.hid (fun n e => by cases e), Below.refl _ _⟩
      case round =>
        clear x0 x1 x2 z0
        obtain ⟨k, hk, rfl, rfl, HGE, hb⟩ := hrel
        have hBr := HBN.out _ _ hB4 hb
        by_cases hlt : k < L.length
        · obtain ⟨b, off, vp, eo, hlb, hcp, hpv⟩ := hPL k hlt
          have hst := HST.out k hlt
          have hok := hOK.out k hlt
          have hrw := hpv.rows
          generalize L[k] = p at hst hok hrw hpv
          obtain ⟨ap, cp, rfl, hsp, hrc⟩ := hrw
          have hkk : (k : Int) < ko := by omega
          have DC := Lib.hid (fun (V : World) (hq : Below w4.heap.size w4 V) => show Calls Try.prog 43 #[.agg #[.int .i64 h.wax, .slice aw h.writers.length kw, .slice a5 (shippedD h c 240).customers.length d5], .slice ap p.length cp] V (fun e w' => e = .returned (.int .i64 (deDoes (shippedD h c 240) p)) ∧ Below V.heap.size V w') from DRDoes_any aw a5 kw d5 (shippedD h c 240) ap p cp V (hC4.mono hq) hv2 (by rw [ship_len]; exact ship_ok.2 hok) hsp (hrc.mono hq))
          have SC := Lib.hid (fun (V : World) (hq : Below w4.heap.size w4 V) => DRSealed_any aw ac kw kc h ap p cp V (hm.mono (box_old (HBN.out _ _ hB4 hq))) hv hok hsp (hrc.mono hq))
          have hS0 := Lib.hid (fun hd => hst.trans (ls_not (h := h) (last := shippedD h c 240) (c := c) (b := laterTo h c k) (p := p) hd))
          have hS1 := Lib.hid (fun hd (e : laterTo h c k = none) => hst.trans ((congrArg (fun b => laterStep h (shippedD h c 240) c b p) e).trans (ls_none (h := h) (p := p) hd)))
          have hS2 := Lib.hid (fun hd m (e : laterTo h c k = some m) => hst.trans ((congrArg (fun b => laterStep h (shippedD h c 240) c b p) e).trans (ls_some (h := h) (p := p) hd)))
          obtain ⟨hsc, hNE⟩ := laterN_eq (h := h) (p := p) hcn
          have hNG := laterN_ge h c p
          have hSB := sealed_bd hv hok hcn hsc
          have hSHB := hv.c c hcn
          obtain ⟨bc, oc, ec, hbc, -, -, -, -, gc⟩ := hm.custs c hcn
          have hkcc : (c : Int) < kc := by have := hm.okc.1; omega
          have HEC := Lib.hid ec
          clear ec
          generalize h.customers[c].ship = sh at gc hNE hSHB
          generalize deSealed h p = SL at SC hsc hNE hSB
          have hsb := HGE
          generalize laterN h c p = N at hS1 hS2 hNE hNG
          generalize laterTo h c k = bk at *
          have r1 := cell_below hb hcp
          have rz := lt_of_cell r1
          have h9r := (hb.block _ (lt_of_block h49)).trans h49
          have u0 := blk_cell 0 h9r rfl
          have u1 := blk_cell 1 h9r rfl
          have u2 := blk_cell 2 h9r rfl
          have uz := lt_of_block h9r
          simp only [List.getElem_toArray, List.getElem_cons_zero, List.getElem_cons_succ] at u0 u1 u2
          have HM9 := Lib.hid hm
          have hpll := Lib.hid hok.len
          clear hst hpv hPL hm hok
          subst eo
          go_upto_region 12 with (fail)
          apply wp_mid _ (fun V => Below wr.heap.size wr V)
          · (focus go_region_with (go_at_call 43; ((with_reducible refine (DC.out _ (below_drew' hb)).mono ?_); rintro e w5 ⟨rfl, hb5⟩; dsimp only)))
            all_goals exact ⟨rfl, ((by (repeat' (first | assumption | exact Below.refl _ _ | refine below_drew' ?_ | refine Below.setCell ?_ (by first | omega | (simp <;> omega)) _ | refine Below.alloc ?_ (by first | omega | (simp <;> omega)) _))) : Below wr.heap.size wr wr.drew).trans (hb5.mono (Nat.le_refl _))⟩
          intro V hbV
          have hbn := hb.trans (hbV.mono hb.size)
          generalize deDoes (shippedD h c 240) p = d at hS0 hS1 hS2
          by_cases hd : d = 1
          · have e1 := nei_f hd
            replace hS1 := Lib.hid (hS1.out hd)
            replace hS2 := Lib.hid (hS2.out hd)
            clear hS0 hd r1 rz u0 u1 u2 uz h9r
            have hBV := HBN.out _ _ hB4 hbn
            obtain ⟨x0, x1, x2, z0⟩ := HCL.out _ hBV
            have r1 := cell_below hbn hcp
            have rz := lt_of_cell r1
            have gx := cell_below (box_old hBV) gc
            have gz := lt_of_cell gx
            have SC2 := Lib.hid (fun (W : World) (hq : Below V.heap.size V W) => SC.out W (hbn.trans (hq.mono hbn.size)))
            have KE : Hid (∀ W, Below V.heap.size V W → (Below V.heap.size V W ∧ W.cell? ⟨w.heap.size, 0, none⟩ = some (.int .i64 h.wax) ∧ W.cell? ⟨w.heap.size, 1, none⟩ = some (.slice aw h.writers.length kw) ∧ W.cell? ⟨w.heap.size, 2, none⟩ = some (.slice ac h.customers.length kc) ∧ W.cell? ⟨b, off + k, none⟩ = some (.slice ap p.length cp) ∧ W.cell? ⟨bc, oc + c * 5 + 4, none⟩ = some (.int .i64 sh) ∧ w.heap.size < W.heap.size ∧ b < W.heap.size ∧ bc < W.heap.size)) := Lib.hid (fun W hq => ⟨hq, cell_below hq x0, cell_below hq x1, cell_below hq x2, cell_below hq r1, cell_below hq gx, Nat.lt_of_lt_of_le z0 hq.size, Nat.lt_of_lt_of_le rz hq.size, Nat.lt_of_lt_of_le gz hq.size⟩)
            have hBd : Below V.heap.size V V.drew := below_drew' (Below.refl _ _)
            clear x0 x1 x2 z0 r1 rz gx gz
            rw [HEC.out] at KE SC2 ⊢
            go_upto_region 13 with (fail)
            refine wp_region_held_drew (S := (fun W => Below V.heap.size V W ∧ W.cell? ⟨w.heap.size, 0, none⟩ = some (.int .i64 h.wax) ∧ W.cell? ⟨w.heap.size, 1, none⟩ = some (.slice aw h.writers.length kw) ∧ W.cell? ⟨w.heap.size, 2, none⟩ = some (.slice (some ⟨bc, oc, none⟩) h.customers.length kc) ∧ W.cell? ⟨b, off + k, none⟩ = some (.slice ap p.length cp) ∧ W.cell? ⟨bc, oc + c * 5 + 4, none⟩ = some (.int .i64 sh) ∧ w.heap.size < W.heap.size ∧ b < W.heap.size ∧ bc < W.heap.size)) (by kernel_rfl) (KE.out _ hBd) (fun hHeld => ?_)
            (refine wpAnyH_take (i := 0) (v := ?_) rfl (by kernel_rfl) (by kernel_rfl) (by kernel_rfl) (fun _ _ _ h => h) (Or.inl ⟨by kernel_rfl, ?_⟩) (by assumption) ?_; rotate_left 1; (focus (intro w hSw; (try dsimp only at hSw); go_simp; first | done | with_reducible rfl)); simp only [Act.put, List.getElem_toArray, List.getElem_cons_succ, List.getElem_cons_zero, List.setIfInBounds_toArray, List.set_cons_succ, List.set_cons_zero])
            (refine wpAnyH_take (i := 1) (v := ?_) rfl (by kernel_rfl) (by kernel_rfl) (by kernel_rfl) (fun _ _ _ h => h) (Or.inl ⟨by kernel_rfl, ?_⟩) (by assumption) ?_; rotate_left 1; (focus (intro w hSw; (try dsimp only at hSw); go_simp; first | done | with_reducible rfl)); simp only [Act.put, List.getElem_toArray, List.getElem_cons_succ, List.getElem_cons_zero, List.setIfInBounds_toArray, List.set_cons_succ, List.set_cons_zero])
            (refine wpAnyH_take (i := 2) (v := ?_) rfl (by kernel_rfl) (by kernel_rfl) (by kernel_rfl) (fun _ _ _ h => h) (Or.inl ⟨by kernel_rfl, ?_⟩) (by assumption) ?_; rotate_left 1; (focus (intro w hSw; (try dsimp only at hSw); go_simp; first | done | with_reducible rfl)); simp only [Act.put, List.getElem_toArray, List.getElem_cons_succ, List.getElem_cons_zero, List.setIfInBounds_toArray, List.set_cons_succ, List.set_cons_zero])
            (refine wpAnyH_take (i := 3) (v := ?_) rfl (by kernel_rfl) (by kernel_rfl) (by kernel_rfl) (fun _ _ _ h => h) (Or.inl ⟨by kernel_rfl, ?_⟩) (by assumption) ?_; rotate_left 1; (focus (intro w hSw; (try dsimp only at hSw); go_simp; first | done | with_reducible rfl)); simp only [Act.put, List.getElem_toArray, List.getElem_cons_succ, List.getElem_cons_zero, List.setIfInBounds_toArray, List.set_cons_succ, List.set_cons_zero])
            (refine wpAnyH_take (i := 4) (v := ?_) rfl (by kernel_rfl) (by kernel_rfl) (by kernel_rfl) (fun _ _ _ h => h) (Or.inl ⟨by kernel_rfl, ?_⟩) (by assumption) ?_; rotate_left 1; (focus (intro w hSw; (try dsimp only at hSw); go_simp; first | done | with_reducible rfl)); simp only [Act.put, List.getElem_toArray, List.getElem_cons_succ, List.getElem_cons_zero, List.setIfInBounds_toArray, List.set_cons_succ, List.set_cons_zero])
            (refine wpAnyH_take (i := 6) (v := ?_) rfl (by kernel_rfl) (by kernel_rfl) (by kernel_rfl) (fun _ _ _ h => h) (Or.inl ⟨by kernel_rfl, ?_⟩) (by assumption) ?_; rotate_left 1; (focus (intro w hSw; (try dsimp only at hSw); go_simp; first | done | with_reducible rfl)); simp only [Act.put, List.getElem_toArray, List.getElem_cons_succ, List.getElem_cons_zero, List.setIfInBounds_toArray, List.set_cons_succ, List.set_cons_zero])
            (refine wpAnyH_take (i := 10) (v := ?_) rfl (by kernel_rfl) (by kernel_rfl) (by kernel_rfl) (fun _ _ _ h => h) (Or.inl ⟨by kernel_rfl, ?_⟩) (by assumption) ?_; rotate_left 1; (focus (intro w hSw; (try dsimp only at hSw); go_simp; first | done | with_reducible rfl)); simp only [Act.put, List.getElem_toArray, List.getElem_cons_succ, List.getElem_cons_zero, List.setIfInBounds_toArray, List.set_cons_succ, List.set_cons_zero])
            (refine wpAnyH_take (i := 11) (v := ?_) rfl (by kernel_rfl) (by kernel_rfl) (by kernel_rfl) (fun _ _ _ h => h) (Or.inl ⟨by kernel_rfl, ?_⟩) (by assumption) ?_; rotate_left 1; (focus (intro w hSw; (try dsimp only at hSw); go_simp; first | done | with_reducible rfl)); simp only [Act.put, List.getElem_toArray, List.getElem_cons_succ, List.getElem_cons_zero, List.setIfInBounds_toArray, List.set_cons_succ, List.set_cons_zero])
            (refine wpAnyH_take (i := 12) (v := ?_) rfl (by kernel_rfl) (by kernel_rfl) (by kernel_rfl) (fun _ _ _ h => h) (Or.inl ⟨by kernel_rfl, ?_⟩) (by assumption) ?_; rotate_left 1; (focus (intro w hSw; (try dsimp only at hSw); go_simp; first | done | with_reducible rfl)); simp only [Act.put, List.getElem_toArray, List.getElem_cons_succ, List.getElem_cons_zero, List.setIfInBounds_toArray, List.set_cons_succ, List.set_cons_zero])
            (refine wpAnyH_take (i := 13) (v := ?_) rfl (by kernel_rfl) (by kernel_rfl) (by kernel_rfl) (fun _ _ _ h => h) (Or.inl ⟨by kernel_rfl, ?_⟩) (by assumption) ?_; rotate_left 1; (focus (intro w hSw; (try dsimp only at hSw); go_simp; first | done | with_reducible rfl)); simp only [Act.put, List.getElem_toArray, List.getElem_cons_succ, List.getElem_cons_zero, List.setIfInBounds_toArray, List.set_cons_succ, List.set_cons_zero])
            (refine wpAnyH_take (i := 14) (v := ?_) rfl (by kernel_rfl) (by kernel_rfl) (by kernel_rfl) (fun _ _ _ h => h) (Or.inl ⟨by kernel_rfl, ?_⟩) (by assumption) ?_; rotate_left 1; (focus (intro w hSw; (try dsimp only at hSw); go_simp; first | done | with_reducible rfl)); simp only [Act.put, List.getElem_toArray, List.getElem_cons_succ, List.getElem_cons_zero, List.setIfInBounds_toArray, List.set_cons_succ, List.set_cons_zero])
            (refine wpAnyH_take (i := 15) (v := ?_) rfl (by kernel_rfl) (by kernel_rfl) (by kernel_rfl) (fun _ _ _ h => h) (Or.inl ⟨by kernel_rfl, ?_⟩) (by assumption) ?_; rotate_left 1; (focus (intro w hSw; (try dsimp only at hSw); go_simp; first | done | with_reducible rfl)); simp only [Act.put, List.getElem_toArray, List.getElem_cons_succ, List.getElem_cons_zero, List.setIfInBounds_toArray, List.set_cons_succ, List.set_cons_zero])
            (refine wpAnyH_ready (rs := [5]) (by kernel_rfl) (by simp) ?_; refine AllReadyH.cons rfl (fun K hK => ?_) AllReadyH.nil; go_simp)
            refine (SC2.out _ hBd).mono ?_
            rintro e w6 ⟨v6, rfl, ⟨a6, c6, rfl, o6, hS6⟩, hb6⟩
            dsimp only
            have hB6 := hBd.trans (hb6.mono hBd.size)
            refine hK.out _ _ (KE.out _ hB6) (fun hHeld => ?_)
            (try simp only [Act.put, List.getElem_toArray, List.getElem_cons_succ, List.getElem_cons_zero, List.setIfInBounds_toArray, List.set_cons_succ, List.set_cons_zero])
            clear hK
            obtain ⟨b7, o7, e7, hb7, -, q7⟩ := hS6 c hsc
            have hc6 : (c : Int) < c6 := by have := o6.1; omega
            have hcs6 : (c : Int) < SL.length := by omega
            have hbn6 := hbn.trans (hB6.mono hbn.size)
            generalize SL[c].2 = hi at q7 hNE hSB
            clear hS6
            subst e7
            (refine wpAnyH_take (i := 7) (v := ?_) rfl (by kernel_rfl) (by kernel_rfl) (by kernel_rfl) (fun _ _ _ h => h) (Or.inl ⟨by kernel_rfl, ?_⟩) (by assumption) ?_; rotate_left 1; (focus (intro w hSw; (try dsimp only at hSw); go_simp; first | done | with_reducible rfl)); simp only [Act.put, List.getElem_toArray, List.getElem_cons_succ, List.getElem_cons_zero, List.setIfInBounds_toArray, List.set_cons_succ, List.set_cons_zero])
            (refine wpAnyH_take (i := 8) (v := ?_) rfl (by kernel_rfl) (by kernel_rfl) (by kernel_rfl) (fun _ _ _ h => h) (Or.inl ⟨by kernel_rfl, ?_⟩) (by assumption) ?_; rotate_left 1; (focus (intro w hSw; (try dsimp only at hSw); go_simp; first | done | with_reducible rfl)); simp only [Act.put, List.getElem_toArray, List.getElem_cons_succ, List.getElem_cons_zero, List.setIfInBounds_toArray, List.set_cons_succ, List.set_cons_zero])
            (refine wpAnyH_ready (rs := [9]) (by kernel_rfl) (by simp) ?_; refine AllReadyH.cons rfl (fun K hK => ?_) AllReadyH.nil; go_simp)
            refine hK.out _ _ (KE.out _ hB6) (fun hHeld => ?_)
            (try simp only [Act.put, List.getElem_toArray, List.getElem_cons_succ, List.getElem_cons_zero, List.setIfInBounds_toArray, List.set_cons_succ, List.set_cons_zero])
            clear hK
            (refine wpAnyH_take (i := 16) (v := ?_) rfl (by kernel_rfl) (by kernel_rfl) (by kernel_rfl) (fun _ _ _ h => h) (Or.inl ⟨by kernel_rfl, ?_⟩) (by assumption) ?_; rotate_left 1; (focus (intro w hSw; (try dsimp only at hSw); go_simp; first | done | with_reducible rfl)); simp only [Act.put, List.getElem_toArray, List.getElem_cons_succ, List.getElem_cons_zero, List.setIfInBounds_toArray, List.set_cons_succ, List.set_cons_zero])
            (refine wpAnyH_take (i := 17) (v := ?_) rfl (by kernel_rfl) (by kernel_rfl) (by kernel_rfl) (fun _ _ _ h => h) (Or.inl ⟨by kernel_rfl, ?_⟩) (by assumption) ?_; rotate_left 1; (focus (intro w hSw; (try dsimp only at hSw); go_simp; first | done | with_reducible rfl)); simp only [Act.put, List.getElem_toArray, List.getElem_cons_succ, List.getElem_cons_zero, List.setIfInBounds_toArray, List.set_cons_succ, List.set_cons_zero])
            (refine wpAnyH_take (i := 18) (v := ?_) rfl (by kernel_rfl) (by kernel_rfl) (by kernel_rfl) (fun _ _ _ h => h) (Or.inl ⟨by kernel_rfl, ?_⟩) (by assumption) ?_; rotate_left 1; (focus (intro w hSw; (try dsimp only at hSw); go_simp; first | done | with_reducible rfl)); simp only [Act.put, List.getElem_toArray, List.getElem_cons_succ, List.getElem_cons_zero, List.setIfInBounds_toArray, List.set_cons_succ, List.set_cons_zero])
            refine wpAnyH_done (by kernel_rfl) ?_ _
            rw [← HEC.out]
            have hw9 : IntKind.i64.wrap (hi - sh) = hi - sh := by first | go_num | (rw [IntKind.wrap_of_inRange]; omega) | (simp [IntKind.wrap, IntKind.bits, IntKind.signed]; omega)
            have hval : (if 0 < hi - sh then hi - sh else 0) = N := by rw [hNE]; split <;> omega
            rw [hw9, hval]
            clear hw9 hval hNE KE SC2 DC SC q7 hb7 hHeld hBd hSB hSHB
            cases bk with
            | none =>
              have hS := Lib.hid (hS1.out rfl)
              have hm1 : (-1 : Int) < 0 := by omega
              simp only [laterV]
              go_wp2
              go_roundw
              case rel => exact ⟨k + 1, by omega, by go_num, by rw [hS.out]; rfl, fun n e => by rw [hS.out] at e; rw [← Option.some.inj e]; exact hNG⟩
              case measure => simp [intOf]; omega
            | some m =>
              have hm0 := HGE.out m rfl
              have hm1 : ¬ (m < 0) := by omega
              have hS := Lib.hid (hS2.out m rfl)
              simp only [laterV]
              by_cases hlt9 : N < m
              · replace hS := Lib.hid (hS.out.trans (if_pos hlt9))
                go_wp2
                go_roundw
                case rel => exact ⟨k + 1, by omega, by go_num, by rw [hS.out]; rfl, fun n e => by rw [hS.out] at e; rw [← Option.some.inj e]; exact hNG⟩
                case measure => simp [intOf]; omega
              · replace hS := Lib.hid (hS.out.trans (if_neg hlt9))
                go_wp2
                go_roundw
                case rel => exact ⟨k + 1, by omega, by go_num, by rw [hS.out]; rfl, fun n e => by rw [hS.out] at e; rw [← Option.some.inj e]; exact hm0⟩
                case measure => simp [intOf]; omega
          · have e1 := nei_t hd
            have hS := Lib.hid (hS0.out hd)
            go_wp2
            go_roundw
            case rel => exact ⟨k + 1, by omega, by go_num, by rw [hS.out], fun n e => HGE.out n (by rw [← hS.out]; exact e)⟩
            case measure => simp [intOf]; omega
        · obtain rfl : k = L.length := by omega
          cases hlt9 : laterTo h c L.length with
          | none =>
            have hr := HL0.out hlt9
            subst hr
            have hm1 : (-1 : Int) < 0 := by omega
            simp only [laterV]
            go_wp2
            go_ret2
            exact ⟨rfl, box_old hBr⟩
          | some n =>
            have hr := HL1.out n hlt9
            have hn0 := HGE.out n hlt9
            subst hr
            have hm1 : ¬ (n < 0) := by omega
            simp only [laterV]
            go_wp2
            go_ret2
            exact ⟨rfl, box_old hBr⟩
  · have hr := HNO.out her
    have g0 := eqi_f her
    have g1 := nei_t her
    rw [hr]
    clear her hr HV HOU HL0 HL1 HNO
    go_enter Try.func35, Try.ntmps35
    go_wp2_with (go_at_call 17; go_must ((with_reducible refine CK.out.mono ?_); rintro e w1 ⟨rfl, hb1⟩; have hB1 := HBN.out _ _ hB hb1; dsimp only))
    go_ret2
    exact ⟨rfl, box_old hB1⟩
end Go.Proofs.Ytchnpekgmkhacaa
