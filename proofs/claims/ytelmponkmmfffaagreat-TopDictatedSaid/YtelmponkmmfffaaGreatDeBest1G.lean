/- What is proved here: the contract of over, which remembers, from its contract at the stands that can follow. Conditions: the hall is looked at and valid. -/
/- What is proved here: what the search for Best's plan lays in memory, and how it stays; plain facts on it. No condition. -/
import Derived.Test.YtelmponkmmfffaaGreatDeOver1G
import Derived.BigRegion
import Derived.Test.YtelmponkmmfffaaGreatDeEnterG
import Derived.Stop.RegionWithIn
import Derived.Lib.OwnKind
set_option linter.unusedVariables false
set_option linter.unusedSimpArgs false
namespace Go.Proofs.YtelmponkmmfffaaGreat
open Go Go.RowKit Go.Shelf
attribute [local go_sem] Oper.semAt_some

/-- A stand that is not remembered. -/
def NotMemo (W : World) (bo : Nat) (z : DeSt) : Prop := ∃ T, MapV W Tryz.prog 115 bo T ∧ ∀ p ∈ T, p.1 ≠ standV z
theorem MapV.uniq {W : World} {P : Program} {k : TypeId} {b : Nat} {T U : List (Value × Value)} (h : MapV W P k b T) (g : MapV W P k b U) : T = U := by
  obtain ⟨es, c, h1, _, _, rfl⟩ := h
  obtain ⟨es', c', g1, _, _, rfl⟩ := g
  rw [h1] at g1
  cases g1
  rfl
theorem NotMemo.same {W W' : World} {bo : Nat} {z : DeSt} (h : NotMemo W bo z) (e : W'.heap[bo]? = W.heap[bo]?) : NotMemo W' bo z := by
  obtain ⟨T, hT, hn⟩ := h
  exact ⟨T, hT.same e, hn⟩
/-- over's contract at a stand. -/
def OverC (bm bo : Nat) (aw ac : Option Addr) (kw kc : Nat) (h : DeH) (wm cm : Nat) (x : DeSt) : Prop := ∀ W : World, HallW W bm bo aw ac kw kc h wm cm → Calls Tryz.prog 55 #[.pointer (some ⟨bm, 0, none⟩), standV x] W fun e w' => e = .returned (.int .i64 (ovD h wm cm x)) ∧ W.grownBy w' (some bo) ∧ HallW w' bm bo aw ac kw kc h wm cm ∧ ∀ z, StOk h z → leftD h x < leftD h z → NotMemo W bo z → NotMemo w' bo z
/-- What lies in memory while over goes through the stands that can follow. -/
structure OvI (w W : World) (bm bo : Nat) (h : DeH) (wm cm : Nat) (x : DeSt) (bb nb : Nat) (best : Int) : Prop where
  g : HallG w W bo h wm cm
  b : BlkI W bb 3 [best]
  r0 : W.heap[w.heap.size]? = some (.cells #[.pointer (some ⟨bm, 0, none⟩)] 109 (0, 0))
  x0 : StB W (w.heap.size + 1) x
  r : W.heap[nb]? = some (.cells #[.pointer (some ⟨bm, 0, none⟩)] 109 (0, 0))
  x1 : StB W (nb + 1) x
  no : NotMemo W bo x
  nz : ∀ z, StOk h z → leftD h x < leftD h z → NotMemo w bo z → NotMemo W bo z
section
variable {w W W' : World} {bm bo : Nat} {aw ac : Option Addr} {kw kc : Nat} {h : DeH} {wm cm : Nat} {x : DeSt} {bb nb : Nat} {best : Int}
theorem OvI.below (k : OvI w W bm bo h wm cm x bb nb best) {B : Nat} (hb : Below B W W') (h0 : w.heap.size + 1 < B) (h1 : bo < B) (h2 : bb < B) (h3 : nb + 1 < B) : OvI w W' bm bo h wm cm x bb nb best :=
  ⟨k.g.below hb (by omega) h1, k.b.same (hb.block _ h2), (hb.block _ (by omega)).trans k.r0, k.x0.same (hb.block _ h0), (hb.block _ (by omega)).trans k.r, k.x1.same (hb.block _ h3), k.no.same (hb.block _ h1), fun z g1 g2 g3 => (k.nz z g1 g2 g3).same (hb.block _ h1)⟩
theorem OvI.step (k : OvI w W bm bo h wm cm x bb nb best) (hm : HallW w bm bo aw ac kw kc h wm cm) (hx : StOk h x) (hg : W.grownBy W' (some bo)) (hR : HallW W' bm bo aw ac kw kc h wm cm) (hz : ∀ z, StOk h z → leftD h x ≤ leftD h z → NotMemo W bo z → NotMemo W' bo z) : OvI w W' bm bo h wm cm x bb nb best := by
  have hW := k.g.room hm
  exact ⟨k.g.step hg hR, grown_keep hg k.b (hW.other k.b), grown_keep hg k.r0 (hW.other k.r0), grown_keep hg k.x0 (hW.other k.x0), grown_keep hg k.r (hW.other k.r), grown_keep hg k.x1 (hW.other k.x1), hz x hx (Nat.le_refl _) k.no, fun z g1 g2 g3 => hz z g1 (by omega) (k.nz z g1 g2 g3)⟩
theorem OvI.store (k : OvI w W bm bo h wm cm x bb nb best) (v : Int) (h0 : w.heap.size + 1 < bb) (h1 : bo < bb) (h2 : bb < nb) : OvI w (W.setCell ⟨bb, 0, none⟩ (.int .i64 v)) bm bo h wm cm x bb nb v := by
  have e : ∀ b, b ≠ bb → (W.setCell ⟨bb, 0, none⟩ (.int .i64 v)).heap[b]? = W.heap[b]? := fun b hb => Below.heap_setCell _ _ _ _ hb
  exact ⟨k.g.set bb 0 _ (by omega) (by omega), k.b.set 0 v, (e _ (by omega)).trans k.r0, k.x0.same (e _ (by omega)), (e _ (by omega)).trans k.r, k.x1.same (e _ (by omega)), k.no.same (e _ (by omega)), fun z g1 g2 g3 => (k.nz z g1 g2 g3).same (e _ (by omega))⟩
end
theorem HallW.old {w W : World} {bm bo : Nat} {aw ac : Option Addr} {kw kc : Nat} {h : DeH} {wm cm : Nat} (hm : HallW w bm bo aw ac kw kc h wm cm) (hb : Below w.heap.size w W) : w.grownBy W (some bo) ∧ HallW W bm bo aw ac kw kc h wm cm := ⟨grown_below hb, hm.below hb⟩

set_option maxRecDepth 100000 in
set_option maxHeartbeats 4000000 in
theorem DOver_hit (aw ac : Option Addr) (kw kc : Nat) (h : DeH) (bm bo wm cm : Nat) (x : DeSt) (hv : DeValid h) (hx : StOk h x) (w : World) (hm : HallW w bm bo aw ac kw kc h wm cm) (T : List (Value × Value)) (hT : MapV w Tryz.prog 115 bo T) (hM : MemoD h wm cm T) (hn : ∃ p ∈ T, p.1 = standV x) :
    Calls Tryz.prog 55 #[.pointer (some ⟨bm, 0, none⟩), standV x] w fun e w' => e = .returned (.int .i64 (ovD h wm cm x)) ∧ w.grownBy w' (some bo) ∧ HallW w' bm bo aw ac kw kc h wm cm ∧ ∀ z, StOk h z → leftD h x < leftD h z → NotMemo w bo z → NotMemo w' bo z := by
  obtain ⟨kl, hkey⟩ := key_stV hv hx
  have hlo := hm.bo_lt
  obtain ⟨d, hd⟩ : ∃ d, d = ovD h wm cm x := ⟨_, rfl⟩
  rw [← hd]
  have HD := Lib.hid hd
  clear hd
  obtain ⟨Y, hY⟩ : ∃ Y : World, Y = (w.alloc (.cells #[.pointer (some ⟨bm, 0, none⟩)] 109)).alloc (.cells #[.int .i64 (x.writer : Int), .int .i64 (x.done : Int), .int .i64 (minuteAt x 0), .int .i64 (minuteAt x 1), .int .i64 (minuteAt x 2)] 115) := ⟨_, rfl⟩
  have hYb : Below w.heap.size w Y := by rw [hY]; exact ((Below.refl _ w).alloc (Nat.le_refl _) _).alloc (by simp) _
  have hYr : Y.heap[w.heap.size]? = some (.cells #[.pointer (some ⟨bm, 0, none⟩)] 109 (0, 0)) := by rw [hY]; exact (heap_alloc_old _ _ (by simp)).trans (alloc_at _ _ rfl)
  have hYx : StB Y (w.heap.size + 1) x := by rw [hY]; exact alloc_at _ _ (by simp)
  go_enter Tryz.func55, Tryz.ntmps55
  go_upto_region 1 with (fail)
  rw [← hY]
  clear hY
  have hl1 := ((hT.below hYb hlo).below (below_drew' (Below.refl Y.heap.size Y)) (Nat.lt_of_lt_of_le hlo hYb.size)).lookup_yes key_stand key_map hkey (zero_int _) hn (v := .int .i64 d) (fun v' h => by rw [HD.out]; exact hM.get hx h)
  obtain ⟨y0, y1, y2, y3, y4, y5, y6⟩ := (hm.below hYb).blk.cells
  obtain ⟨x0, x1, x2, x3, x4, xz⟩ := StB.cells hYx
  have r0 := blk_cell 0 hYr rfl
  simp only [List.getElem_toArray, List.getElem_cons_zero] at r0
  have rz := lt_of_block hYr
  clear hn hT hM hkey hYr hYx
  dsimp only [standV] at hl1
  (focus go_region)
  all_goals
    go_wp2
    go_ret
    exact (fun hb => ⟨rfl, (hm.old hb).1, (hm.old hb).2, fun z _ _ hz => hz.same (hb.block _ hlo)⟩ : Below w.heap.size w _ → _) (by (repeat' (first | assumption | exact Below.refl _ _ | refine below_drew' ?_ | refine Below.setCell ?_ (by first | omega | (simp <;> omega)) _ | refine Below.alloc ?_ (by first | omega | (simp <;> omega)) _)))

theorem blkI_one {W : World} {b : Nat} {t : TypeId} {u v : Int} (h : BlkI W b t [u]) (e : u = v) : BlkI W b t [v] := e ▸ h
def partD (h : DeH) (wm cm : Nat) (x : DeSt) (pre : List (Int × DeSt)) : Int := pre.foldl (fun b y => betterD b (ovD h wm cm y.2)) (baseD h cm x)
theorem part_snoc (h : DeH) (wm cm : Nat) (x : DeSt) (pre : List (Int × DeSt)) (y : Int × DeSt) : partD h wm cm x (pre ++ [y]) = betterD (partD h wm cm x pre) (ovD h wm cm y.2) := by
  unfold partD; rw [List.foldl_append]; rfl
theorem fin_cases (h : DeH) (cm : Nat) (x : DeSt) : finB h cm x = (decide (x.writer = h.writers.length) && decide (x.done = cm)) := rfl
theorem base_no {h : DeH} {cm : Nat} {x : DeSt} (e : finB h cm x = false) : baseD h cm x = -1 := by unfold baseD; rw [e]; rfl
theorem base_yes {h : DeH} {cm : Nat} {x : DeSt} (e : finB h cm x = true) : baseD h cm x = fvTo h x 3 := by unfold baseD; rw [e]; rfl
set_option maxRecDepth 100000 in
set_option maxHeartbeats 8000000 in
theorem DOver_miss (aw ac : Option Addr) (kw kc : Nat) (h : DeH) (bm bo wm cm : Nat) (x : DeSt) (hv : DeValid h) (hwm : wm < 8) (hcm : cm < 32) (hx : StOk h x) (IH : ∀ y ∈ nextD h wm cm x, OverC bm bo aw ac kw kc h wm cm y.2) (w : World) (hm : HallW w bm bo aw ac kw kc h wm cm) (T : List (Value × Value)) (hT : MapV w Tryz.prog 115 bo T) (hn : ∀ p ∈ T, p.1 ≠ standV x) :
    Calls Tryz.prog 55 #[.pointer (some ⟨bm, 0, none⟩), standV x] w fun e w' => e = .returned (.int .i64 (ovD h wm cm x)) ∧ w.grownBy w' (some bo) ∧ HallW w' bm bo aw ac kw kc h wm cm ∧ ∀ z, StOk h z → leftD h x < leftD h z → NotMemo w bo z → NotMemo w' bo z := by
  obtain ⟨kl, hkey⟩ := key_stV hv hx
  have hlo := hm.bo_lt
  have l1 := hm.hall.okw.len
  have hnw := hv.nw
  have hxw := hx.w
  obtain ⟨Y, hY⟩ : ∃ Y : World, Y = (w.alloc (.cells #[.pointer (some ⟨bm, 0, none⟩)] 109)).alloc (.cells #[.int .i64 (x.writer : Int), .int .i64 (x.done : Int), .int .i64 (minuteAt x 0), .int .i64 (minuteAt x 1), .int .i64 (minuteAt x 2)] 115) := ⟨_, rfl⟩
  have hYb : Below w.heap.size w Y := by rw [hY]; exact ((Below.refl _ w).alloc (Nat.le_refl _) _).alloc (by simp) _
  have hYs : Y.heap.size = w.heap.size + 1 + 1 := by rw [hY]; simp
  have hYr : Y.heap[w.heap.size]? = some (.cells #[.pointer (some ⟨bm, 0, none⟩)] 109 (0, 0)) := by rw [hY]; exact (heap_alloc_old _ _ (by simp)).trans (alloc_at _ _ rfl)
  have hYx : StB Y (w.heap.size + 1) x := by rw [hY]; exact alloc_at _ _ (by simp)
  refine (callsIn_wide (n := 0)).1 ?_
  refine callsIn_of_wp_marks Tryz.func55 rfl trivial ?_ rfl
  simp only [Tryz.ntmps55, List.size_toArray, List.length_cons, List.length_nil, Nat.reduceAdd, Nat.reduceSub, Array.replicate_succ, Array.replicate_zero, List.push_toArray, List.append_toArray, List.nil_append, List.cons_append]
  refine (wpIn_wide (n := 0)).2 ?_
  go_upto_region 1 with (fail)
  rw [← hY]
  clear hY
  replace hYs := Lib.hid hYs
  go_cut [5, 6] from 15 to 22 (fun u v W => u = .int .i64 0 ∧ v = .bool false ∧ Below Y.heap.size Y W)
  case first =>
    have hl1 := ((hT.below hYb hlo).below (below_drew' (Below.refl Y.heap.size Y)) (Nat.lt_of_lt_of_le hlo hYb.size)).lookup_no key_stand key_map hkey (zero_int _) hn
    obtain ⟨y0, y1, y2, y3, y4, y5, y6⟩ := (hm.below hYb).blk.cells
    obtain ⟨x0, x1, x2, x3, x4, xz⟩ := StB.cells hYx
    have r0 := blk_cell 0 hYr rfl
    simp only [List.getElem_toArray, List.getElem_cons_zero] at r0
    have rz := lt_of_block hYr
    clear hn hT hkey hYr hYx
    dsimp only [standV] at hl1
    (focus go_region)
    all_goals
      go_wp2
      go_meet
      case rel => exact ⟨rfl, rfl, (by (repeat' (first | assumption | exact Below.refl _ _ | refine below_drew' ?_ | refine Below.setCell ?_ (by first | omega | (simp <;> omega)) _ | refine Below.alloc ?_ (by first | omega | (simp <;> omega)) _)))⟩
  case rest =>
    obtain ⟨rfl, rfl, hb1⟩ := hcut
    rename World => V
    have hVb : Below w.heap.size w V := hYb.trans (hb1.mono hYb.size)
    have hVr := (hb1.block _ (lt_of_block hYr)).trans hYr
    have hVx : StB V (w.heap.size + 1) x := hYx.same (hb1.block _ hYx.lt)
    have hVs : w.heap.size + 1 + 1 ≤ V.heap.size := by have := hb1.size; have := hYs.out; omega
    clear hYb hYr hYx hYs hb1 Y
    obtain ⟨Z, hZ⟩ : ∃ Z : World, Z = V.alloc (.cells #[.int .i64 (-1)] 3) := ⟨_, rfl⟩
    have hZb : Below V.heap.size V Z := by rw [hZ]; exact (Below.refl _ _).alloc (Nat.le_refl _) _
    have hZB : BlkI Z V.heap.size 3 [-1] := by rw [hZ]; exact alloc_at _ _ rfl
    have hZw : Below w.heap.size w Z := hVb.trans (hZb.mono hVb.size)
    go_upto_region 5 with (fail)
    rw [← hZ]
    clear hZ
    have hZr := (hZb.block _ (lt_of_block hVr)).trans hVr
    have hZx : StB Z (w.heap.size + 1) x := hVx.same (hZb.block _ hVx.lt)
    obtain ⟨fb, hfb⟩ : ∃ fb, fb = finB h cm x := ⟨_, rfl⟩
    have HFB := Lib.hid hfb
    rw [fin_cases] at hfb
    go_cut [42] from 25 to 42 (fun v W => v = .bool fb ∧ Below Z.heap.size Z W)
    case first =>
      obtain ⟨y0, y1, y2, y3, y4, y5, y6⟩ := (hm.below hZw).blk.cells
      obtain ⟨x0, x1, x2, x3, x4, xz⟩ := StB.cells hZx
      have r0 := blk_cell 0 hZr rfl
      simp only [List.getElem_toArray, List.getElem_cons_zero] at r0
      have rz := lt_of_block hZr
      by_cases e1 : x.writer = h.writers.length
      · by_cases e2 : x.done = cm
        · have g1 := eqn_t e1
          have g2 := eqn_t e2
          have hfb2 : fb = true := by rw [hfb, decide_eq_true e1, decide_eq_true e2]; rfl
          subst hfb2
          clear e1 e2 hfb
          go_quiet (fail)
          go_wp2
          go_meet
          case rel => exact ⟨rfl, below_draws _ _ _⟩
        · have g1 := eqn_t e1
          have g2 := eqn_f e2
          have hfb2 : fb = false := by rw [hfb, decide_eq_false e2, Bool.and_false]
          subst hfb2
          clear e1 e2 hfb
          go_quiet (fail)
          go_wp2
          go_meet
          case rel => exact ⟨rfl, below_draws _ _ _⟩
      · have g1 := eqn_f e1
        have hfb2 : fb = false := by rw [hfb, decide_eq_false e1, Bool.false_and]
        subst hfb2
        clear e1 hfb
        go_quiet (fail)
        go_wp2
        go_meet
        case rel => exact ⟨rfl, below_draws _ _ _⟩
    case rest =>
      obtain ⟨rfl, hb1⟩ := hcut
      rename World => V1
      have hB1 : BlkI V1 V.heap.size 3 [-1] := hZB.same (hb1.block _ hZB.lt)
      have hV1w : Below w.heap.size w V1 := hZw.trans (hb1.mono hZw.size)
      have hV1r := (hb1.block _ (lt_of_block hZr)).trans hZr
      have hV1x : StB V1 (w.heap.size + 1) x := hZx.same (hb1.block _ hZx.lt)
      have HBN := Lib.hid (fun e => base_no (h := h) (cm := cm) (x := x) e)
      have HBY := Lib.hid (fun e => base_yes (h := h) (cm := cm) (x := x) e)
      clear hZb hZB hZw hZr hZx hb1 hfb hVb hVr hVx Z
      go_upto_if 42 with (fail)
      go_cut [43] from 43 to 67 (fun _ W => BlkI W V.heap.size 3 [baseD h cm x] ∧ Below V.heap.size V1 W)
      case first =>
        cases fb
        · have hb := HBN.out HFB.out.symm
          go_wp2
          go_meet
          case rel => rw [hb]; exact ⟨hB1, Below.refl _ _⟩
        · have hb := HBY.out HFB.out.symm
          have HB := Lib.hid hb
          clear HBN HBY HFB hb hn hT hkey IH
          have f0 := hB1.free 0
          have d0 := hB1.cell 0 (by simp)
          have dz := hB1.lt
          obtain ⟨A1, hA1⟩ : ∃ A1 : World, A1 = V1.setCell ⟨V.heap.size, 0, none⟩ (.int .i64 0) := ⟨_, rfl⟩
          have hVw : w.heap.size ≤ V.heap.size := by omega
          have hA1w : Below w.heap.size w A1 := by rw [hA1]; exact hV1w.setCell hVw _
          have hA1b : Below V.heap.size V1 A1 := by rw [hA1]; exact below_set _ _ _ _ _ (Nat.le_refl _)
          have hA1B : BlkI A1 V.heap.size 3 [fvTo h x 0] := by rw [hA1]; exact hB1.set 0 0
          have hA1r := (hA1b.block _ (show w.heap.size < V.heap.size by omega)).trans hV1r
          have hA1x : StB A1 (w.heap.size + 1) x := hV1x.same (hA1b.block _ (by omega))
          have BG := DBegin_any aw ac kw kc h bm bo wm cm A1 (hm.below hA1w) hv
          have hbst := begin_ok hv
          have HFS := Lib.hid (fun k => fvTo_succ h x k)
          have HFD := Lib.hid (fun k => fvTo_bd hx k)
          have HF3 := Lib.hid hx.m
          have hbm := Lib.hid hbst.m
          generalize beginD h = st at BG HFS hbm
          replace BG := Lib.hid BG
          go_upto_region 7 with (fail)
          rw [← hA1]
          clear hA1 f0 d0 dz hB1 hV1w hV1x hbst
          have r0 := blk_cell 0 hA1r rfl
          simp only [List.getElem_toArray, List.getElem_cons_zero] at r0
          have rz := lt_of_block hA1r
          go_upto_region 8 with (go_at_call 54; go_must ((with_reducible refine BG.out.mono ?_); rintro e w2 ⟨rfl, hb2⟩; dsimp only))
          obtain ⟨A2, hA2⟩ : ∃ A2 : World, A2 = w2.alloc (.cells #[.int .i64 (st.writer : Int), .int .i64 (st.done : Int), .int .i64 (minuteAt st 0), .int .i64 (minuteAt st 1), .int .i64 (minuteAt st 2)] 115) := ⟨_, rfl⟩
          rw [← hA2]
          have hb2z := hb2.size
          have hA2b : Below A1.heap.size A1 A2 := by rw [hA2]; exact hb2.alloc hb2z _
          have hA2t : StB A2 w2.heap.size st := by rw [hA2]; exact alloc_at _ _ rfl
          have hA2B : BlkI A2 V.heap.size 3 [fvTo h x 0] := hA1B.same (hA2b.block _ hA1B.lt)
          have hA2x : StB A2 (w.heap.size + 1) x := hA1x.same (hA2b.block _ hA1x.lt)
          have hA1z := hA1b.size
          have hA1l := hA1B.lt
          have hA2V : Below V.heap.size V1 A2 := hA1b.trans (hA2b.mono (by omega))
          have hxl := hA1x.lt
          have htb : V.heap.size < w2.heap.size := by omega
          clear hA2 hA2b hA1B hA1x hA1b hA1w hA1r r0 rz hb2 BG
          obtain ⟨x0, x1, x2, x3, x4, xz⟩ := StB.cells hA2x
          go_wp2
          go_loopw [47] (fun i wr => ∃ k : Nat, k ≤ 3 ∧ i = .int .i64 k ∧ BlkI wr V.heap.size 3 [fvTo h x k] ∧ StB wr w2.heap.size st ∧ Below V.heap.size V1 wr ∧ StB wr (w.heap.size + 1) x) (fun i _ => 3 - (intOf i).toNat)
          case atStart => exact ⟨0, Nat.zero_le _, rfl, hA2B, hA2t, hA2V, hA2x⟩
          case round =>
            clear hA2B hA2t hA2V hA2x x0 x1 x2 x3 x4 xz
            obtain ⟨k, hk, rfl, hB, ht, hV, hX⟩ := hrel
            by_cases hlt : k < 3
            · have hix := min_index (minuteAt x 0) (minuteAt x 1) (minuteAt x 2) (minuteAt x) ⟨rfl, rfl, rfl⟩ k hlt
              have hxk := HF3.out k
              have hx0 := HF3.out 0
              have hx1 := HF3.out 1
              have hx2 := HF3.out 2
              have hs0 := hbm.out 0
              have hs1 := hbm.out 1
              have hs2 := hbm.out 2
              have hsk := hbm.out k
              have hne := min_eq (minuteAt x 0) (minuteAt x 1) (minuteAt x 2) (minuteAt st 0) (minuteAt st 1) (minuteAt st 2) (by omega) (by omega) (by omega) (by omega) (by omega) (by omega)
              have HFK := HFS.out k
              have hfd := HFD.out k
              obtain ⟨x0, x1, x2, x3, x4, xz⟩ := StB.cells hX
              obtain ⟨t0, t1, t2, t3, t4, tz⟩ := StB.cells ht
              have tk := ht.minute k hlt
              have HEQ : minuteAt x 0 = minuteAt st 0 ∧ minuteAt x 1 = minuteAt st 1 ∧ minuteAt x 2 = minuteAt st 2 → minuteAt x k = minuteAt st k := fun ⟨a, b, c⟩ => by
                obtain rfl | rfl | rfl : k = 0 ∨ k = 1 ∨ k = 2 := by omega
                · exact a
                · exact b
                · exact c
              generalize minuteAt x k = xk at hix hxk HFK HEQ
              generalize minuteAt st k = sk at tk hsk HFK HEQ
              generalize fvTo h x k = fv at hB HFK hfd
              have f0 := hB.free 0
              have d0 := hB.cell 0 (by simp)
              simp only [List.getElem_cons_zero] at d0
              have dz := hB.lt
              have hk3 : (k : Int) < 3 := by omega
              by_cases heq : minuteAt x 0 = minuteAt st 0 ∧ minuteAt x 1 = minuteAt st 1 ∧ minuteAt x 2 = minuteAt st 2
              · rw [decide_eq_true heq] at hne
                have hl : ¬ sk < xk := by have := HEQ heq; omega
                rw [if_neg hl] at HFK
                replace HFK := Lib.hid HFK
                clear heq HEQ hx0 hx1 hx2 hs0 hs1 hs2
                go_wp2
                go_roundw
                case rel => exact ⟨k + 1, by omega, by go_num, by rw [HFK.out]; exact hB, ht, hV, hX⟩
                case measure => simp [intOf]; omega
              · rw [decide_eq_false heq] at hne
                clear heq HEQ hx0 hx1 hx2 hs0 hs1 hs2
                by_cases hl : sk < xk
                · rw [if_pos hl] at HFK
                  replace HFK := Lib.hid HFK
                  have HSET := Lib.hid (fun v => hB.set 0 v)
                  go_wp2
                  all_goals
                    go_roundw
                    case rel => exact ⟨k + 1, by omega, by go_num, by rw [HFK.out]; exact blkI_one (HSET.out _) (by omega), ht.same (Below.heap_setCell _ _ _ _ (by simp only; omega)), hV.setCell (Nat.le_refl _) _, hX.same (Below.heap_setCell _ _ _ _ (by simp only; omega))⟩
                    case measure => simp [intOf]; omega
                · rw [if_neg hl] at HFK
                  replace HFK := Lib.hid HFK
                  go_wp2
                  go_roundw
                  case rel => exact ⟨k + 1, by omega, by go_num, by rw [HFK.out]; exact hB, ht, hV, hX⟩
                  case measure => simp [intOf]; omega
            · obtain rfl : k = 3 := by omega
              go_wp2
              go_meet
              case rel => rw [HB.out]; exact ⟨hB, hV⟩
      case rest =>
        obtain ⟨hB2, hb2⟩ := hcut
        rename World => V2
        have hV2w : Below w.heap.size w V2 := hV1w.trans (hb2.mono (by have := hV1w.size; omega))
        have hV2r := (hb2.block _ (show w.heap.size < V.heap.size by omega)).trans hV1r
        have hV2x : StB V2 (w.heap.size + 1) x := hV1x.same (hb2.block _ (by omega))
        clear hB1 hV1w hV1r hV1x hb2 HBN HBY HFB V1
        obtain ⟨x0, x1, x2, x3, x4, xz⟩ := StB.cells hV2x
        have r0 := blk_cell 0 hV2r rfl
        simp only [List.getElem_toArray, List.getElem_cons_zero] at r0
        have rz := lt_of_block hV2r
        have hbl := hB2.lt
        have NX := Lib.hid (fun W : World => DNext_any bm x W)
        go_wp2_with (go_at_call 57; go_must ((with_reducible refine (NX.out _).mono ?_); rintro e w3 ⟨rfl, rfl⟩; dsimp only))
        obtain ⟨N, hN⟩ : ∃ N : World, N = (V2.alloc (.cells #[.pointer (some ⟨bm, 0, none⟩)] 109)).alloc (.cells ((stL x).map (Value.int .i64)).toArray 115) := ⟨_, rfl⟩
        rw [← hN]
        have hNs : N.heap.size = V2.heap.size + 1 + 1 := by rw [hN]; simp
        have hNb : Below V2.heap.size V2 N := by rw [hN]; exact ((Below.refl _ _).alloc (Nat.le_refl _) _).alloc (by simp) _
        have hNr : N.heap[V2.heap.size]? = some (.cells #[.pointer (some ⟨bm, 0, none⟩)] 109 (0, 0)) := by rw [hN]; exact (heap_alloc_old _ _ (by simp)).trans (alloc_at _ _ rfl)
        have hNx : StB N (V2.heap.size + 1) x := by rw [hN]; exact alloc_at _ _ (by simp)
        have hNB : BlkI N V.heap.size 3 [baseD h cm x] := hB2.same (hNb.block _ hbl)
        have hNr0 : N.heap[w.heap.size]? = some (.cells #[.pointer (some ⟨bm, 0, none⟩)] 109 (0, 0)) := (hNb.block _ rz).trans hV2r
        have hNx0 : StB N (w.heap.size + 1) x := hV2x.same (hNb.block _ xz)
        have hNw : Below w.heap.size w N := hV2w.trans (hNb.mono (by omega))
        have hG0 : HallG w N bo h wm cm := hm.start.below hNw (Nat.le_refl _) hlo
        have hNM : NotMemo N bo x := NotMemo.same (W := w) ⟨T, hT, hn⟩ (hNw.block _ hlo)
        clear hN hNb x0 x1 x2 x3 x4 r0 hB2 hV2r hV2x hV2w hT hn
        have hSE := DNext_seq aw ac kw kc h bm bo wm cm (V2.heap.size + 1) V2.heap.size x hv hwm hcm hx N
        have hovx : ovD h wm cm x = partD h wm cm x (nextD h wm cm x) := ovD_eq (h := h) (wm := wm) (cm := cm) (x := x) hx.w
        have hgm := fun (y : Int × DeSt) hy => over_ge (h := h) (wm := wm) (cm := cm) (x := y.2) (next_ok hv hx (wm := wm) (cm := cm) (y := y) hy).w
        have hgu := fun (y : Int × DeSt) hy => over_le hv (wm := wm) (cm := cm) (leftD h y.2) y.2 (next_ok hv hx (wm := wm) (cm := cm) (y := y) hy) (Nat.le_refl _)
        have hgl := fun (y : Int × DeSt) hy => next_left (h := h) (wm := wm) (cm := cm) (x := x) (y := y) hx.w hy
        have hneb : bo ≠ V.heap.size := by have := hm.bo_lt; omega
        have hbse : -1 ≤ baseD h cm x ∧ baseD h cm x ≤ 240 := by
          cases e : finB h cm x with
          | false => rw [base_no e]; omega
          | true => rw [base_yes e]; have := fvTo_bd hx 3; omega
        refine (wpIn_wide (n := 0)).1 ?_
        refine wpIn_rangeFunc_X (gf := 109) (lb := #[.pointer (some ⟨V2.heap.size + 1, 0, none⟩), .pointer (some ⟨V2.heap.size, 0, none⟩)]) (by go_simp) (enters_of Tryz.func109 (by kernel_rfl) rfl) hSE (Below.refl _ _) (Nat.le_refl _) (fun _ => rfl)
          (fun pre W => OvI w W bm bo h wm cm x V.heap.size V2.heap.size (partD h wm cm x pre))
          (fun _ _ _ => False)
          (fun s A A' k hb => k.below hb (by omega) (by omega) (by omega) (by omega))
          (fun _ _ _ _ _ k _ => k.elim)
          (fun s A k => ⟨k.g.room hm, k.x1, k.r⟩)
          ⟨hG0, hNB, hNr0, hNx0, hNr, hNx, hNM, fun z _ _ g => g.same (hNw.block _ hlo)⟩ ?round ?done ?stop
        case stop =>
          intro D c pre W hD hI hK
          exact hI.elim
        case round =>
          intro l pre y W hl1 hl2 hI hpre
          gi_wp2
          have hWN : N.heap.size ≤ W.heap.size := by omega
          have hal := (Below.refl W.heap.size W).alloc (Nat.le_refl _) (.cells #[.int .i64 (y.2.writer : Int), .int .i64 (y.2.done : Int), .int .i64 (minuteAt y.2 0), .int .i64 (minuteAt y.2 1), .int .i64 (minuteAt y.2 2)] 115)
          have hYa : StB (W.alloc (.cells #[.int .i64 (y.2.writer : Int), .int .i64 (y.2.done : Int), .int .i64 (minuteAt y.2 0), .int .i64 (minuteAt y.2 1), .int .i64 (minuteAt y.2 2)] 115)) W.heap.size y.2 := alloc_at _ _ rfl
          refine ⟨Above.of_below hal, hI.below hal (by omega) (by omega) (by omega) (by omega), ?_⟩
          intro Wb hs2 hblk hIb
          have hYb : StB Wb W.heap.size y.2 := hYa.same (hblk _ (by omega))
          clear hYa hal hblk hI
          have hmem : y ∈ nextD h wm cm x := hpre.subset (by simp)
          have hC := IH y hmem Wb (hIb.g.room hm)
          have hge := hgm y hmem
          have hle := hgu y hmem
          have hlf := (hgl y hmem).1
          have HF := Lib.hid (part_snoc h wm cm x pre y)
          generalize partD h wm cm x pre = bst at hIb HF
          generalize ovD h wm cm y.2 = n at hC hge hle HF
          generalize hy2 : y.2 = y2 at hC hlf hYb
          replace hC := Lib.hid hC
          have hIH := Lib.hid hIb
          obtain ⟨t0, t1, t2, t3, t4, tz⟩ := StB.cells hYb
          have r0 := blk_cell 0 hIb.r0 rfl
          simp only [List.getElem_toArray, List.getElem_cons_zero] at r0
          have rz := lt_of_block hIb.r0
          clear hIb hYb
          gi_wp2
          refine ⟨trivial, rfl, ((CallsIn.inRound l (callsIn_wide.2 hC.out)).mono ?_)⟩
          rintro e w2 ⟨rfl, hg2, hR2, hz2⟩
          have hI2 := hIH.out.step hm hx hg2 hR2 (fun z g1 g2 g3 => hz2 z g1 (by omega) g3)
          have hab : Above N.heap.size Wb w2 := Above.of_grown hg2 (fun r e => by have := Option.some.inj e; omega)
          have b0 := hI2.b.cell 0 (by simp)
          simp only [List.getElem_cons_zero] at b0
          have f0 := hI2.b.free 0
          have bz := hI2.b.lt
          clear t0 t1 t2 t3 t4 tz r0 rz hIH hC hg2 hR2 hz2
          have HI2 := Lib.hid hI2
          clear hI2
          by_cases h0 : 0 ≤ n
          · by_cases h1 : bst < 0
            · have hF := HF.out
              unfold betterD at hF
              rw [if_pos ⟨h0, .inl h1⟩] at hF
              replace HF := Lib.hid hF
              clear hF
              gi_wp2
              exact ⟨hab.trans (above_set _ _ _ _ _ (by omega)), by show OvI w _ bm bo h wm cm x V.heap.size V2.heap.size (partD h wm cm x (pre ++ [y])); rw [HF.out]; exact HI2.out.store n (by omega) (by omega) (by omega)⟩
            · by_cases h2 : n < bst
              · have hF := HF.out
                unfold betterD at hF
                rw [if_pos ⟨h0, .inr h2⟩] at hF
                replace HF := Lib.hid hF
                clear hF
                gi_wp2
                exact ⟨hab.trans (above_set _ _ _ _ _ (by omega)), by show OvI w _ bm bo h wm cm x V.heap.size V2.heap.size (partD h wm cm x (pre ++ [y])); rw [HF.out]; exact HI2.out.store n (by omega) (by omega) (by omega)⟩
              · have hF := HF.out
                unfold betterD at hF
                rw [if_neg (by omega)] at hF
                replace HF := Lib.hid hF
                clear hF
                gi_wp2
                exact ⟨(by first | exact hab | (have h9 := hab; rw [hNs] at h9; exact h9)), by show OvI w _ bm bo h wm cm x V.heap.size V2.heap.size (partD h wm cm x (pre ++ [y])); rw [HF.out]; exact HI2.out⟩
          · have hF := HF.out
            unfold betterD at hF
            rw [if_neg (by omega)] at hF
            replace HF := Lib.hid hF
            clear hF
            gi_wp2
            exact ⟨(by first | exact hab | (have h9 := hab; rw [hNs] at h9; exact h9)), by show OvI w _ bm bo h wm cm x V.heap.size V2.heap.size (partD h wm cm x (pre ++ [y])); rw [HF.out]; exact HI2.out⟩
        case done =>
          intro D W hD hI hK
          rw [← hovx] at hI
          have hov := over_le hv (wm := wm) (cm := cm) (leftD h x) x hx (Nat.le_refl _)
          have hog := over_ge (h := h) (wm := wm) (cm := cm) (x := x) hx.w
          have HOV : Hid (ovD h wm cm x = ovD h wm cm x) := Lib.hid rfl
          obtain ⟨T2, hT2, hn2⟩ := hI.no
          obtain ⟨hgw, T3, hT3, hM3⟩ := hI.g
          have e3 := hT3.uniq hT2
          subst e3
          have hM4 := Lib.hid (hM3.more hx hn2)
          have hlen := hM3.len hv
          generalize hove : ovD h wm cm x = ov at hI hov hog hM4
          have HOVE := Lib.hid hove.symm
          clear hove
          have hK2 : W.heap[D]? = some (.deferred (some [])) := hK
          obtain ⟨W2, hrun, hMV2, hg2, hs2⟩ := (hT3.same (w' := W.drew) rfl).update key_stand key_map (by have hmx : maxLen = 9223372036854775807 := rfl; omega) hkey hn2 (val := .int .i64 ov)
          have hWm := hm.learn hgw hT3 hM3
          have hDb : D ≠ bo := by have := hm.bo_lt; omega
          have hDB : V.heap.size ≠ bo := by omega
          have HFIN : Hid (w.grownBy (W2.putObj D (.deferred none)) (some bo) ∧ HallW (W2.putObj D (.deferred none)) bm bo aw ac kw kc h wm cm ∧ ∀ z, StOk h z → leftD h x < leftD h z → NotMemo w bo z → NotMemo (W2.putObj D (.deferred none)) bo z) := Lib.hid (by
            have g1 : w.grownBy W2 (some bo) := hgw.andThen ⟨hg2.os, hg2.tape, hg2.output, hg2.size, hg2.block⟩ (fun j e => .inr (by simpa using e))
            have g2 : w.grownBy (W2.putObj D (.deferred none)) (some bo) := ⟨g1.os, g1.tape, g1.output, by simpa [World.putObj] using g1.size, fun i hi hr => (World.putObj_heap_other (by omega)).trans (g1.block i hi hr)⟩
            have hMV3 := hMV2.same (w' := W2.putObj D (.deferred none)) (World.putObj_heap_other (Ne.symm hDb))
            refine ⟨g2, hm.learn g2 hMV3 hM4.out, fun z hz hlz hnz => ⟨_, hMV3, fun p hp => ?_⟩⟩
            rcases List.mem_append.1 hp with hp | hp
            · obtain ⟨U, hU, hnU⟩ := hI.nz z hz hlz hnz
              rw [hT3.uniq hU] at hp
              exact hnU p hp
            · rw [List.mem_singleton] at hp
              subst hp
              intro e
              rw [stand_inj hx hz e] at hlz
              omega)
          have hKs : W2.heap[D]? = some (.deferred (some [])) := (hg2.block _ (lt_of_block hK2) (fun e => hDb (Option.some.inj e))).trans hK2
          have hBs : BlkI W2 V.heap.size 3 [ov] := hI.b.same (hg2.block _ hI.b.lt (fun e => hDB (Option.some.inj e)))
          obtain ⟨y0, y1, y2, y3, y4, y5, y6⟩ := hWm.blk.cells
          obtain ⟨x0, x1, x2, x3, x4, xz⟩ := StB.cells hI.x0
          have r0 := blk_cell 0 hI.r0 rfl
          simp only [List.getElem_toArray, List.getElem_cons_zero] at r0
          have rz := lt_of_block hI.r0
          have b0 := hI.b.cell 0 (by simp)
          have c0 := hBs.cell 0 (by simp)
          simp only [List.getElem_cons_zero] at b0 c0
          have bz := hI.b.lt
          have cz := hBs.lt
          dsimp only [standV] at hrun
          clear hMV2 hg2 hs2 hT3 hn2 hM3 hWm hI hK hK2 hSE hgm hgu hgl IH hovx hM4 hT2 hBs
          go_wp2
          (focus go_region)
          all_goals
            clear hrun
            go_wp2
            refine ⟨by simp, .inl ⟨_, _, rfl, run_takeDeferred hKs, ?_⟩⟩
            refine ⟨_, results_tmp rfl _ _ _, ?_, HFIN.out⟩
            exact ret_int HOVE.out
/-- over. -/
theorem DOver_step (aw ac : Option Addr) (kw kc : Nat) (h : DeH) (bm bo wm cm : Nat) (x : DeSt) (hv : DeValid h) (hwm : wm < 8) (hcm : cm < 32) (hx : StOk h x) (IH : ∀ y ∈ nextD h wm cm x, OverC bm bo aw ac kw kc h wm cm y.2) : OverC bm bo aw ac kw kc h wm cm x := fun W hW => by
  obtain ⟨T, hT, hM⟩ := hW.map
  by_cases hn : ∃ p ∈ T, p.1 = standV x
  · exact DOver_hit aw ac kw kc h bm bo wm cm x hv hx W hW T hT hM hn
  · exact DOver_miss aw ac kw kc h bm bo wm cm x hv hwm hcm hx IH W hW T hT (fun p hp e => hn ⟨p, hp, e⟩)
theorem DOver_any (aw ac : Option Addr) (kw kc : Nat) (h : DeH) (bm bo wm cm : Nat) (hv : DeValid h) (hwm : wm < 8) (hcm : cm < 32) : ∀ (n : Nat) (x : DeSt), leftD h x ≤ n → StOk h x → OverC bm bo aw ac kw kc h wm cm x
  | 0, x, hl, hx => DOver_step aw ac kw kc h bm bo wm cm x hv hwm hcm hx fun y hy => absurd (next_left hx.w hy).1 (by have := hl; omega)
  | n + 1, x, hl, hx => DOver_step aw ac kw kc h bm bo wm cm x hv hwm hcm hx fun y hy => DOver_any aw ac kw kc h bm bo wm cm hv hwm hcm n y.2 (by have := (next_left hx.w hy).1; omega) (next_ok hv hx hy)
end Go.Proofs.YtelmponkmmfffaaGreat
namespace Go.Proofs.YtelmponkmmfffaaGreat
open Go Go.RowKit Go.Shelf

theorem find_congr {α : Type} {p q : α → Bool} : ∀ (l : List α), (∀ x ∈ l, p x = q x) → l.find? p = l.find? q
  | [], _ => rfl
  | x :: l, h => by
    rw [List.find?_cons, List.find?_cons, h x (by simp), find_congr l fun y hy => h y (List.mem_cons_of_mem _ hy)]
theorem find_fuel {h : DeH} {wm cm : Nat} {over : Int} : ∀ (f g : Nat) (x : DeSt), x.writer ≤ h.writers.length → leftD h x ≤ f → leftD h x ≤ g → findF h wm cm over f x = findF h wm cm over g x
  | 0, 0, _, _, _, _ => rfl
  | 0, g + 1, x, hx, hf, _ => by
    have hw : x.writer = h.writers.length := by unfold leftD at hf; omega
    have hn : nextD h wm cm x = [] := by unfold nextD; rw [if_pos hw]
    rw [findF, findF, hn]; rfl
  | f + 1, 0, x, hx, _, hg => by
    have hw : x.writer = h.writers.length := by unfold leftD at hg; omega
    have hn : nextD h wm cm x = [] := by unfold nextD; rw [if_pos hw]
    rw [findF, findF, hn]; rfl
  | f + 1, g + 1, x, hx, hf, hg => by
    rw [findF, findF]
    have e : (nextD h wm cm x).find? (fun y => overF h wm cm f y.2 == over) = (nextD h wm cm x).find? (fun y => overF h wm cm g y.2 == over) := find_congr _ fun y hy => by
      have := next_left hx hy
      rw [over_fuel (f := f) (g := g) this.2 (by omega) (by omega)]
    rw [e]
    cases hn : (nextD h wm cm x).find? (fun y => overF h wm cm g y.2 == over) with
    | none => rfl
    | some y =>
      have hy := List.mem_of_find?_eq_some hn
      have := next_left hx hy
      show y.1 :: _ = y.1 :: _
      rw [find_fuel f g y.2 this.2 (by omega) (by omega)]
def fD (h : DeH) (wm cm : Nat) (over : Int) (x : DeSt) : List Int := findF h wm cm over (leftD h x) x
theorem fD_eq {h : DeH} {wm cm : Nat} {over : Int} {x : DeSt} (hx : x.writer ≤ h.writers.length) : fD h wm cm over x = match (nextD h wm cm x).find? (fun y => ovD h wm cm y.2 == over) with | some y => y.1 :: fD h wm cm over y.2 | none => [] := by
  unfold fD
  cases e : leftD h x with
  | zero =>
    have hw : x.writer = h.writers.length := by unfold leftD at e; omega
    have hn : nextD h wm cm x = [] := by unfold nextD; rw [if_pos hw]
    rw [hn]; rfl
  | succ f =>
    rw [findF]
    have e2 : (nextD h wm cm x).find? (fun y => overF h wm cm f y.2 == over) = (nextD h wm cm x).find? (fun y => ovD h wm cm y.2 == over) := find_congr _ fun y hy => by
      have := next_left hx hy
      unfold ovD
      rw [over_fuel (f := f) (g := leftD h y.2) this.2 (by omega) (Nat.le_refl _)]
    rw [e2]
    cases hn : (nextD h wm cm x).find? (fun y => ovD h wm cm y.2 == over) with
    | none => rfl
    | some y =>
      have hy := List.mem_of_find?_eq_some hn
      have := next_left hx hy
      show y.1 :: _ = y.1 :: _
      rw [find_fuel f (leftD h y.2) y.2 this.2 (by omega) (Nat.le_refl _)]
theorem fD_some {h : DeH} {wm cm : Nat} {over : Int} {x : DeSt} (hx : x.writer ≤ h.writers.length) {pre : List (Int × DeSt)} {y : Int × DeSt} (hp : pre ++ [y] <+: nextD h wm cm x) (hn : ∀ z ∈ pre, ovD h wm cm z.2 ≠ over) (ho : ovD h wm cm y.2 = over) : fD h wm cm over x = y.1 :: fD h wm cm over y.2 := by
  rw [fD_eq hx]
  obtain ⟨t, ht⟩ := hp
  have e : (nextD h wm cm x).find? (fun y => ovD h wm cm y.2 == over) = some y := by
    rw [← ht, List.append_assoc, List.find?_append, List.find?_eq_none.2 (fun z hz => by simpa using hn z hz)]
    simp [ho]
  rw [e]
theorem fD_none {h : DeH} {wm cm : Nat} {over : Int} {x : DeSt} (hx : x.writer ≤ h.writers.length) (hn : ∀ z ∈ nextD h wm cm x, ovD h wm cm z.2 ≠ over) : fD h wm cm over x = [] := by
  rw [fD_eq hx, List.find?_eq_none.2 (fun z hz => by simpa using hn z hz)]
theorem fD_len {h : DeH} {wm cm : Nat} {over : Int} : ∀ (n : Nat) (x : DeSt), x.writer ≤ h.writers.length → leftD h x ≤ n → (fD h wm cm over x).length ≤ leftD h x
  | n, x, hx, hl => by
    rw [fD_eq hx]
    cases hn : (nextD h wm cm x).find? (fun y => ovD h wm cm y.2 == over) with
    | none => simp
    | some y =>
      have hy := List.mem_of_find?_eq_some hn
      have h1 := next_left hx hy
      cases n with
      | zero => omega
      | succ n =>
        have := fD_len (h := h) (wm := wm) (cm := cm) (over := over) n y.2 h1.2 (by omega)
        show (fD h wm cm over y.2).length + 1 ≤ _
        omega

/-- The blocks of the search. -/
structure FiB where
  cb : Nat
  op : Nat
  bm : Nat
  bo : Nat
  hp : Nat
  ap : Nat
  fp : Nat
def FiB.caps (B : FiB) : Array Value := #[.pointer (some ⟨B.cb, 0, none⟩), .pointer (some ⟨B.hp, 0, none⟩), .pointer (some ⟨B.op, 0, none⟩), .pointer (some ⟨B.ap, 0, none⟩), .pointer (some ⟨B.fp, 0, none⟩)]
def FiB.ok (B : FiB) (b0 base : Nat) : Prop := b0 ≤ B.cb ∧ b0 ≤ B.op ∧ b0 ≤ B.bm ∧ b0 ≤ B.bo ∧ B.cb < B.hp ∧ B.op < B.hp ∧ B.bm < B.hp ∧ B.bo < B.hp ∧ B.hp < B.ap ∧ B.ap < B.fp ∧ B.fp < base
structure FindI (w0 W : World) (B : FiB) (base : Nat) (aw ac : Option Addr) (kw kc : Nat) (h : DeH) (over : Int) (v : Value) (L : List Int) : Prop where
  ord : B.ok w0.heap.size base
  below : Below w0.heap.size w0 W
  map : ∃ T, MapV W Tryz.prog 115 B.bo T ∧ MemoD h (fullW h) (fullC h) T
  blk : HBlk W B.bm B.bo aw ac kw kc h (fullW h) (fullC h)
  c : W.heap[B.cb]? = some (.cells #[.int .i64 h.wax, .slice aw h.writers.length kw, .slice ac h.customers.length kc] 28 (0, 0))
  hc : W.heap[B.hp]? = some (.cells #[.pointer (some ⟨B.bm, 0, none⟩)] 109 (0, 0))
  oc : W.heap[B.op]? = some (.cells #[.int .i64 over] 3 (0, 0))
  ac : W.heap[B.ap]? = some (.cells #[v] 35 (0, 0))
  fc : W.heap[B.fp]? = some (.cells #[.func (.func 56) #[] B.caps] 111 (0, 0))
  own : W.ownsRow base 3 1 v L.length (L.map (Value.int .i64))
section
variable {w0 W W' : World} {B : FiB} {base : Nat} {aw ac : Option Addr} {kw kc : Nat} {h : DeH} {over : Int} {v : Value} {L : List Int}
theorem FindI.hall (k : FindI w0 W B base aw ac kw kc h over v L) (hm : HallC w0 aw ac kw kc h) : HallW W B.bm B.bo aw ac kw kc h (fullW h) (fullC h) := ⟨hm.mono k.below, k.blk, k.map⟩
theorem FindI.base_le (k : FindI w0 W B base aw ac kw kc h over v L) : B.fp < W.heap.size := lt_of_block k.fc
/-- What is turned are blocks of no cells and no map of the search. -/
theorem FindI.turn (k : FindI w0 W B base aw ac kw kc h over v L) (hb : Below w0.heap.size w0 W') (hz : W.heap.size ≤ W'.heap.size) (he : ∀ b, b < W.heap.size → b < base ∨ v.ownBlock = some b → W'.heap[b]? = W.heap[b]?) : FindI w0 W' B base aw ac kw kc h over v L := by
  have ho := k.ord
  unfold FiB.ok at ho
  have hl := k.base_le
  obtain ⟨T, hT, hM⟩ := k.map
  refine ⟨k.ord, hb, ⟨T, hT.same (he _ hT.lt (.inl (by omega))), hM⟩, k.blk.same (he _ (lt_of_block k.blk) (.inl (by omega))), (he _ (lt_of_block k.c) (.inl (by omega))).trans k.c, (he _ (lt_of_block k.hc) (.inl (by omega))).trans k.hc, (he _ (lt_of_block k.oc) (.inl (by omega))).trans k.oc, (he _ (lt_of_block k.ac) (.inl (by omega))).trans k.ac, (he _ hl (.inl (by omega))).trans k.fc, ?_⟩
  refine ⟨k.own.1, ?_⟩
  rcases k.own.2 with e | ⟨g, cap, cur, e1, e2, e3, e4⟩
  · exact .inl e
  · subst e1
    exact .inr ⟨g, cap, cur, rfl, e2, (he g (Array.getElem?_eq_some_iff.1 e3).1 (.inr rfl)).trans e3, e4⟩
theorem FindI.grow (k : FindI w0 W B base aw ac kw kc h over v L) (hb : Below W.heap.size W W') : FindI w0 W' B base aw ac kw kc h over v L :=
  k.turn (k.below.trans (hb.mono k.below.size)) hb.size fun b hlt _ => hb.block b hlt
theorem FindI.belowB (k : FindI w0 W B base aw ac kw kc h over v L) {C : Nat} (hb : Below C W W') (hC : base ≤ C) (hv : ∀ b, v.ownBlock = some b → b < C) : FindI w0 W' B base aw ac kw kc h over v L := by
  have ho := k.ord
  unfold FiB.ok at ho
  exact k.turn (k.below.trans (hb.mono (by omega))) hb.size fun b hlt e => hb.block b (e.elim (fun e => by omega) (fun e => hv b e))
theorem FindI.step (k : FindI w0 W B base aw ac kw kc h over v L) (hm : HallC w0 aw ac kw kc h) (hg : W.grownBy W' (some B.bo)) (hR : HallW W' B.bm B.bo aw ac kw kc h (fullW h) (fullC h)) : FindI w0 W' B base aw ac kw kc h over v L := by
  have ho := k.ord
  unfold FiB.ok at ho
  have hW := k.hall hm
  have hb : Below w0.heap.size w0 W' := k.below.grown hg k.below.size (fun j e => by have := Option.some.inj e; omega)
  refine ⟨k.ord, hb, hR.map, hR.blk, grown_keep hg k.c (hW.other k.c), grown_keep hg k.hc (hW.other k.hc), grown_keep hg k.oc (hW.other k.oc), grown_keep hg k.ac (hW.other k.ac), grown_keep hg k.fc (hW.other k.fc), ?_⟩
  refine ⟨k.own.1, ?_⟩
  rcases k.own.2 with e | ⟨g, cap, cur, e1, e2, e3, e4⟩
  · exact .inl e
  · exact .inr ⟨g, cap, cur, e1, e2, grown_keep hg e3 (hW.other e3), e4⟩
theorem FindI.put (k : FindI w0 W B base aw ac kw kc h over v L) {l : Nat} {o : Obj} (hl : ∀ cs t x, W.heap[l]? ≠ some (.cells cs t x)) (hl2 : ∀ es c, W.heap[l]? ≠ some (.map es c)) (h0 : w0.heap.size ≤ l) : FindI w0 (W.putObj l o) B base aw ac kw kc h over v L := by
  have key : ∀ {b : Nat} {cs : Array Value} {t : TypeId} {x : Nat × Nat}, W.heap[b]? = some (.cells cs t x) → (W.putObj l o).heap[b]? = some (.cells cs t x) := fun {b cs t x} hb => (World.putObj_heap_other (fun e => hl cs t x (by rw [← e]; exact hb))).trans hb
  obtain ⟨T, hT, hM⟩ := k.map
  have hbo : B.bo ≠ l := fun e => by
    obtain ⟨es, c, hb, _⟩ := hT
    exact hl2 es c (by rw [← e]; exact hb)
  refine ⟨k.ord, k.below.trans (below_put W _ l o h0), ⟨T, hT.same (World.putObj_heap_other hbo), hM⟩, ?_, key k.c, key k.hc, key k.oc, key k.ac, key k.fc, ?_⟩
  · exact key k.blk
  · refine ⟨k.own.1, ?_⟩
    rcases k.own.2 with e | ⟨g, cap, cur, e1, e2, e3, e4⟩
    · exact .inl e
    · exact .inr ⟨g, cap, cur, e1, e2, key e3, e4⟩
/-- What the search leaves of other memory: all above its cells but the plan's own row. -/
def FindFr (base : Nat) (v : Value) (W W' : World) : Prop := W.heap.size ≤ W'.heap.size ∧ W'.os = W.os ∧ W'.tape = W.tape ∧ W'.output = W.output ∧ ∀ b, base ≤ b → b < W.heap.size → v.ownBlock ≠ some b → W'.heap[b]? = W.heap[b]?
theorem FindFr.refl (base : Nat) (v : Value) (W : World) : FindFr base v W W := ⟨Nat.le_refl _, rfl, rfl, rfl, fun _ _ _ _ => rfl⟩
theorem FindFr.of_below {base : Nat} {v : Value} {A C : World} (h : Below A.heap.size A C) : FindFr base v A C := ⟨h.size, h.os, h.tape, h.output, fun b _ h2 _ => h.block b h2⟩
theorem FindFr.of_grown {base bo : Nat} {v : Value} {A C : World} (h : A.grownBy C (some bo)) (hb : bo < base) : FindFr base v A C := ⟨h.size, h.os, h.tape, h.output, fun b h1 h2 _ => h.block b h2 (fun e => by have := Option.some.inj e; omega)⟩
theorem FindFr.of_row {base : Nat} {v : Value} {A C : World} (h : A.grownBy C v.ownBlock) : FindFr base v A C := ⟨h.size, h.os, h.tape, h.output, fun b h1 h2 h3 => h.block b h2 (fun e => h3 e.symm)⟩
theorem FindFr.of_set {base : Nat} {v : Value} {A C : World} {a : Addr} {u : Value} (h : a.block < base) (hC : C = A.setCell a u) : FindFr base v A C := by
  subst hC
  have hb := below_set A a.block a.block a.off u (Nat.le_refl _)
  exact ⟨by simp, hb.os, hb.tape, hb.output, fun b h1 h2 h3 => Below.heap_setCell _ _ _ _ (by omega)⟩
theorem FindFr.trans {base : Nat} {v u : Value} {A C D : World} (h : FindFr base v A C) (k : FindFr base u C D) (hu : u.ownBlock = v.ownBlock ∨ ∀ b, u.ownBlock = some b → A.heap.size ≤ b) : FindFr base v A D :=
  ⟨Nat.le_trans h.1 k.1, k.2.1.trans h.2.1, k.2.2.1.trans h.2.2.1, k.2.2.2.1.trans h.2.2.2.1, fun b h1 h2 h3 => (k.2.2.2.2 b h1 (Nat.lt_of_lt_of_le h2 h.1) (fun e => by
    rcases hu with hu | hu
    · exact h3 (hu ▸ e)
    · have := hu b e; omega)).trans (h.2.2.2.2 b h1 h2 h3)⟩
theorem FindFr.keep {base : Nat} {v : Value} {A C : World} (h : FindFr base v A C) {b : Nat} (hb : base ≤ b) (hv : v.ownBlock ≠ some b) {o : Obj} (e : A.heap[b]? = some o) : C.heap[b]? = some o :=
  (h.2.2.2.2 b hb (Array.getElem?_eq_some_iff.1 e).1 hv).trans e
theorem FindFr.below {base C : Nat} {v : Value} {W A A' : World} (h : FindFr base v W A) (k : Below C A A') (hC : W.heap.size ≤ C) : FindFr base v W A' :=
  ⟨Nat.le_trans h.1 k.size, k.os.trans h.2.1, k.tape.trans h.2.2.1, k.output.trans h.2.2.2.1, fun b h1 h2 h3 => (k.block _ (by omega)).trans (h.2.2.2.2 b h1 h2 h3)⟩
theorem FindFr.put {base l : Nat} {v : Value} {W A : World} {o : Obj} (h : FindFr base v W A) (hl : W.heap.size ≤ l) : FindFr base v W (A.putObj l o) :=
  h.below (below_put A W.heap.size l o hl) (Nat.le_refl _)
theorem FindFr.above {base C : Nat} {v : Value} {A D : World} (h : FindFr base v A D) (hb : base ≤ C) (hv : ∀ b, v.ownBlock = some b → b < C) : Above C A D :=
  ⟨h.2.1, h.2.2.1, h.2.2.2.1, h.1, fun b h1 h2 => h.2.2.2.2 b (by omega) h2 (fun e => by have := hv b e; omega)⟩
theorem FindI.set (k : FindI w0 W B base aw ac kw kc h over v L) {c : Nat} {cs : Array Value} {t : TypeId} {z : Nat × Nat} (hc : base ≤ c) (hcell : W.heap[c]? = some (.cells cs t z)) (ht : t ≠ 3) (u : Value) : FindI w0 (W.setCell ⟨c, 0, none⟩ u) B base aw ac kw kc h over v L := by
  have ho := k.ord
  unfold FiB.ok at ho
  refine k.turn (k.below.setCell (by show w0.heap.size ≤ c; omega) _) (by simp) (fun b _ e => Below.heap_setCell _ _ _ _ (fun e2 => ?_))
  have e2 : b = c := e2
  subst e2
  rcases e with e | e
  · omega
  · obtain ⟨c2, fz, e3⟩ := Lib.ownsRow_kind k.own b e
    rw [hcell] at e3
    injection e3 with e3
    injection e3 with _ e4 _
    exact ht e4
/-- One letter more stands at the plan's end. -/
theorem FindI.app {A C : World} {v' : Value} {e : Int} {o : Obj} (k : FindI w0 W B base aw ac kw kc h over v L) (hA : A = W.alloc o) (hn : C.ownsRow base 3 1 v' (L.length + 1) (L.map (Value.int .i64) ++ [.int .i64 e])) (hg : A.grownBy C v.ownBlock) : FindI w0 (C.setCell ⟨B.ap, 0, none⟩ v') B base aw ac kw kc h over v' (L ++ [e]) := by
  have ho := k.ord
  unfold FiB.ok at ho
  have hl := k.base_le
  have hAb : Below W.heap.size W A := by rw [hA]; exact (Below.refl _ _).alloc (Nat.le_refl _) _
  have hAs := hAb.size
  have hvl : ∀ b, v.ownBlock = some b → base ≤ b := fun b e => (k.own.lt b e).1
  have hC : ∀ b, b < W.heap.size → b < base → C.heap[b]? = W.heap[b]? := fun b h1 h2 => (hg.block b (by omega) (fun e => by have := hvl b e.symm; omega)).trans (hAb.block b h1)
  have hD : ∀ b, b < W.heap.size → b < base → b ≠ B.ap → (C.setCell ⟨B.ap, 0, none⟩ v').heap[b]? = W.heap[b]? := fun b h1 h2 h3 => (Below.heap_setCell _ _ _ _ h3).trans (hC b h1 h2)
  have hCa : C.heap[B.ap]? = some (.cells #[v] 35 (0, 0)) := (hC _ (by omega) (by omega)).trans k.ac
  obtain ⟨T, hT, hM⟩ := k.map
  have hb1 : Below w0.heap.size w0 C := (k.below.trans (hAb.mono (k.below.size))).grown hg (by have := k.below.size; omega) (fun j e => by have := hvl j e; omega)
  have hb2 : Below w0.heap.size w0 (C.setCell ⟨B.ap, 0, none⟩ v') := hb1.setCell (by show w0.heap.size ≤ B.ap; omega) _
  refine ⟨k.ord, hb2, ⟨T, hT.same (hD _ hT.lt (by omega) (by omega)), hM⟩, k.blk.same (hD _ (lt_of_block k.blk) (by omega) (by omega)), (hD _ (lt_of_block k.c) (by omega) (by omega)).trans k.c, (hD _ (lt_of_block k.hc) (by omega) (by omega)).trans k.hc, (hD _ (lt_of_block k.oc) (by omega) (by omega)).trans k.oc, blk_set 0 _ hCa, (hD _ hl (by omega) (by omega)).trans k.fc, ?_⟩
  rw [List.length_append, List.map_append]
  exact ownsRow_setCell_other hn (fun e => by have := (hn.lt _ e).1; simp only at this; omega) _
end
end Go.Proofs.YtelmponkmmfffaaGreat
