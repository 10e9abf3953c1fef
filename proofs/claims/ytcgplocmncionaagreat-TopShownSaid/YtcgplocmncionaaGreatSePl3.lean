/- What is proved here: the contract of the search for a plan. Conditions: the search lies in memory. -/
import Derived.Test.YtcgplocmncionaaGreatSePlG
set_option linter.unusedVariables false
set_option linter.unusedSimpArgs false
namespace Go.Proofs.YtcgplocmncionaaGreat
open Go Go.RowKit Go.Shelf

theorem bits_full (m : Nat) : bitsList (2 ^ m - 1) m = (List.range m).map fun (i : Nat) => (i : Int) := by
  unfold bitsList
  congr 1
  refine List.filter_eq_self.2 fun i hi => ?_
  rw [Nat.testBit_two_pow_sub_one]
  simpa using hi
theorem take_get {L p : List Int} (h : L.take p.length = p) (i : Nat) (hi : i < p.length) : L[i]? = p[i]? := by
  rw [← h, List.getElem?_take, if_pos hi]
theorem take_set {L p : List Int} (h : L.take p.length = p) (hl : p.length < L.length) (x : Int) : (L.set p.length x).take (p ++ [x]).length = p ++ [x] := by
  rw [List.length_append, List.length_singleton, List.take_succ_eq_append_getElem (by simpa using hl)]
  congr 1
  · rw [List.take_set_of_le (Nat.le_refl _)]; exact h
  · simp
theorem take_keep {L p : List Int} {x : Int} (h : L.take (p ++ [x]).length = p ++ [x]) : L.take p.length = p := by
  have := congrArg (List.take p.length) h
  rw [List.take_take, List.length_append, List.length_singleton, Nat.min_eq_left (by omega), List.take_left'] at this
  · exact this
  · rfl
def foldW (r : SeRoom) (j : Nat) (p : List Int) (best : Option (List Int)) (u : Nat) : Option (List Int) := (List.range u).foldl (fun b (w : Nat) => tryW r (seTruths r []) (dfs r (seTruths r []) j) p (w : Int) b) best
theorem foldW_succ (r : SeRoom) (j : Nat) (p : List Int) (best : Option (List Int)) (u : Nat) : foldW r j p best (u + 1) = tryW r (seTruths r []) (dfs r (seTruths r []) j) p (u : Int) (foldW r j p best u) := by
  unfold foldW; rw [List.range_succ, List.foldl_append]; rfl
theorem foldW_yes {r : SeRoom} {j : Nat} {p : List Int} {best : Option (List Int)} {u : Nat} (h : fitsAt r (seTruths r []) (p ++ [(u : Int)]) p.length = true) : foldW r j p best (u + 1) = dfs r (seTruths r []) j (p ++ [(u : Int)]) (foldW r j p best u) := by
  rw [foldW_succ, tryW, if_pos h]
theorem foldW_no {r : SeRoom} {j : Nat} {p : List Int} {best : Option (List Int)} {u : Nat} (h : fitsAt r (seTruths r []) (p ++ [(u : Int)]) p.length = false) : foldW r j p best (u + 1) = foldW r j p best u := by
  rw [foldW_succ, tryW, if_neg (by simp [h])]
theorem dfs_yes {r : SeRoom} {j : Nat} {p : List Int} {best : Option (List Int)} (h : noBetter best (waitingOf p) = false) (h2 : fitsAt r (seTruths r []) (p ++ [-1]) p.length = true) : dfs r (seTruths r []) (j + 1) p best = dfs r (seTruths r []) j (p ++ [-1]) (foldW r j p best r.writers.length) := by
  rw [dfs, if_neg (by simp [h]), tryW, if_pos h2]; rfl
theorem dfs_no {r : SeRoom} {j : Nat} {p : List Int} {best : Option (List Int)} (h : noBetter best (waitingOf p) = false) (h2 : fitsAt r (seTruths r []) (p ++ [-1]) p.length = false) : dfs r (seTruths r []) (j + 1) p best = foldW r j p best r.writers.length := by
  rw [dfs, if_neg (by simp [h]), tryW, if_neg (by simp [h2])]; rfl
/-- next, j letters from the end. -/
def NextJ (w0 : World) (B : PlB) (a1 a2 a3 a4 a5 : Option Addr) (k1 k2 k3 k4 k5 : Nat) (r : SeRoom) (j : Nat) : Prop := ∀ (p L : List Int) (best : Option (List Int)) (W : World), p.length + j = r.letters.length → PlanC w0 W B a1 a2 a3 a4 a5 k1 k2 k3 k4 k5 r L best → L.take p.length = p →
    Calls Tryz.prog 69 #[.int .i64 (p.length : Int), .int .i64 (waitingOf p : Int), .pointer (some ⟨B.bf, 0, none⟩), .pointer (some ⟨B.bwt, 0, none⟩), .pointer (some ⟨B.bp, 0, none⟩), .pointer (some ⟨B.bwr, 0, none⟩), .pointer (some ⟨B.bx, 0, none⟩), .pointer (some ⟨B.bmy, 0, none⟩), .pointer (some ⟨B.bn, 0, none⟩)] W (NextPost w0 W B a1 a2 a3 a4 a5 k1 k2 k3 k4 k5 r p (dfs r (seTruths r []) j p best))
theorem waiting_le (p : List Int) : waitingOf p ≤ p.length := List.countP_le_length

theorem less_one : ∀ n : Nat, n ≤ 4 → wrap64 (wrap64 (2 ^ n) - 1) = ((2 ^ n - 1 : Nat) : Int) := by decide +kernel
theorem SList_full (m : Nat) (hm : m ≤ 4) (w : World) : Calls Tryz.prog 70 #[.int .i64 (wrap64 (wrap64 (2 ^ m) - 1)), .int .i64 (m : Int)] w fun e w' => ∃ ad c, e = .returned (.slice ad m c) ∧ SlOk ad m c ∧ IntsC w' ad ((List.range m).map fun (i : Nat) => (i : Int)) ∧ Below w.heap.size w w' := by
  have := two_pow_le4 m hm
  rw [less_one m hm]
  refine (MNumbers_any (2 ^ m - 1) m (by omega) (by omega) w).mono ?_
  rintro e w' ⟨v, rfl, ⟨ad, c, rfl, h1, h2⟩, hb⟩
  rw [bits_full] at h1 h2
  have e : ((List.range m).map fun (i : Nat) => (i : Int)).length = m := by simp
  rw [bits_full, e]
  rw [e] at h1
  exact ⟨ad, c, rfl, h1, h2, hb⟩
theorem letterAt_day (r : SeRoom) (k : Nat) (h : k < r.letters.length) : (letterAt r k).day = r.letters[k].day := by
  unfold letterAt; rw [List.getElem?_eq_getElem h]; rfl
theorem STaken {w0 Z : World} {B : PlB} {a1 a2 a3 a4 a5 : Option Addr} {k1 k2 k3 k4 k5 : Nat} {r : SeRoom} {L' p : List Int} {best : Option (List Int)} {u bX bU : Nat} {day sec wri : Int} (hm : RoomC w0 a1 a2 a3 a4 a5 k1 k2 k3 k4 k5 r) (hn : r.letters.length ≤ 4) (h : PlanC w0 Z B a1 a2 a3 a4 a5 k1 k2 k3 k4 k5 r L' best) (hL : L'.take p.length = p) (hp : p.length < r.letters.length)
    (hx : Z.heap[bX]? = some (.cells #[.int .i64 day, .int .i64 sec, .int .i64 wri] 43 (0, 0))) (hu : Z.heap[bU]? = some (.cells #[.int .i64 (u : Int)] 3 (0, 0))) (ad : Option Addr) (c : Nat) (V : World) (hb : Below Z.heap.size Z V) (hI : IntsC V ad ((List.range p.length).map fun (i : Nat) => (i : Int))) :
    Calls Tryz.prog 50 #[.slice ad p.length c, .func (.func 71) #[] #[.pointer (some ⟨B.bp, 0, none⟩), .pointer (some ⟨bU, 0, none⟩), .pointer (some ⟨B.bx, 0, none⟩), .pointer (some ⟨bX, 0, none⟩)]] V fun e w' => e = .returned (.bool (takenB r p u day)) ∧ Below V.heap.size V w' := by
  refine SContainsP_any ad p.length c _ (fun k => decide (p[k]?.getD 0 = (u : Int)) && decide ((letterAt r k).day = day)) V (by omega) hI (fun i W hi hb2 => ?_)
  have hb3 : Below Z.heap.size Z W := hb.trans (hb2.mono hb.size)
  have hP := h.below hm hb3
  have e := take_get hL i hi
  have hl : i < L'.length := by rw [h.len]; omega
  have hg : L'[i] = p[i]?.getD 0 := by rw [← e, List.getElem?_eq_getElem hl]; rfl
  have ep := hP.arr.cell i hl
  rw [hg] at ep
  rw [letterAt_day r i (by omega)]
  exact SPlan11_any i r.letters.length k4 B.pb B.bp bU B.bx bX a4 r.letters _ (u : Int) day W rfl (by omega) hP.keep.1.room.ok4 hP.keep.1.room.letters hn (blk_cell 0 hP.p rfl) ep (blk_cell 0 ((hb3.block _ (lt_of_block hu)).trans hu) rfl) (blk_cell 3 hP.x rfl) (blk_cell 0 ((hb3.block _ (lt_of_block hx)).trans hx) rfl)

set_option maxRecDepth 100000 in
set_option maxHeartbeats 4000000 in
theorem SNext_step {w0 : World} {B : PlB} {a1 a2 a3 a4 a5 : Option Addr} {k1 k2 k3 k4 k5 : Nat} {r : SeRoom} (hm : RoomC w0 a1 a2 a3 a4 a5 k1 k2 k3 k4 k5 r) (hv : SeValid r) (j : Nat) (IH : NextJ w0 B a1 a2 a3 a4 a5 k1 k2 k3 k4 k5 r j) (p L : List Int) (best : Option (List Int)) (W : World) (hp : p.length + (j + 1) = r.letters.length) (h : PlanC w0 W B a1 a2 a3 a4 a5 k1 k2 k3 k4 k5 r L best) (hL : L.take p.length = p) (hq : noBetter best (waitingOf p) = false) :
    Calls Tryz.prog 69 #[.int .i64 (p.length : Int), .int .i64 (waitingOf p : Int), .pointer (some ⟨B.bf, 0, none⟩), .pointer (some ⟨B.bwt, 0, none⟩), .pointer (some ⟨B.bp, 0, none⟩), .pointer (some ⟨B.bwr, 0, none⟩), .pointer (some ⟨B.bx, 0, none⟩), .pointer (some ⟨B.bmy, 0, none⟩), .pointer (some ⟨B.bn, 0, none⟩)] W (NextPost w0 W B a1 a2 a3 a4 a5 k1 k2 k3 k4 k5 r p (dfs r (seTruths r []) (j + 1) p best)) := by
  have vt := hv.nt
  have vw := hv.nw
  have hpl : p.length < r.letters.length := by omega
  have l1 := hm.ok1.len
  have l4 := hm.ok4.len
  have l4c := hm.ok4.1
  have hwl := waiting_le p
  have HDY := Lib.hid (fun h2 => dfs_yes (r := r) (j := j) hq h2)
  have HDN := Lib.hid (fun h2 => dfs_no (r := r) (j := j) hq h2)
  have HFN := fits_nobody r (seTruths r []) p hpl
  have hx := hv.letters p.length hpl
  have HFW := fun (u : Nat) (hu : u < r.writers.length) => fits_writer r p u hpl hu (by omega)
  have MYA := fun (u : Nat) (hu : u < r.writers.length) (V : World) (hV : RoomW V B.bm B.bo a1 a2 a3 a4 a5 k1 k2 k3 k4 k5 r 0) => SMay_any a1 a2 a3 a4 a5 k1 k2 k3 k4 k5 r B.bm B.bo p.length u V hV hv hpl hu
  obtain ⟨res, hres⟩ : ∃ res, res = dfs r (seTruths r []) (j + 1) p best := ⟨_, rfl⟩
  rw [← hres] at HDY HDN ⊢
  clear hres
  have f0 : W.cell? ⟨B.bf, 0, none⟩ = some (.bool best.isSome) := blk_cell 0 h.f rfl
  have t0 : W.cell? ⟨B.bwt, 0, none⟩ = some (.int .i64 (waitCell best : Int)) := blk_cell 0 h.wt rfl
  have p0 : W.cell? ⟨B.bp, 0, none⟩ = some (.slice (some ⟨B.pb, 0, none⟩) r.letters.length r.letters.length) := blk_cell 0 h.p rfl
  have x3 : W.cell? ⟨B.bx, 3, none⟩ = some (.slice a4 r.letters.length k4) := blk_cell 3 h.x rfl
  have x0 : W.cell? ⟨B.bx, 0, none⟩ = some (.slice a1 r.writers.length k1) := blk_cell 0 h.x rfl
  have zf := lt_of_cell f0
  have zt := lt_of_cell t0
  have zp := lt_of_cell p0
  have zx := lt_of_cell x3
  have hcase : best.isSome = false ∨ (best.isSome = true ∧ waitingOf p < waitCell best) := by
    cases best with
    | none => exact .inl rfl
    | some q => exact .inr ⟨rfl, by have h2 : ¬ waitingOf q ≤ waitingOf p := of_decide_eq_false hq; show waitingOf p < waitingOf q; omega⟩
  clear hq
  obtain ⟨b4, o4, ha4, hb4, h1, h2, h3⟩ := h.keep.1.room.letters p.length hpl
  rw [ha4] at x3
  have HA4 := Lib.hid ha4
  clear ha4
  generalize hxx : r.letters[p.length] = x at h1 h2 h3 hx HFN HFW MYA
  have HXX := Lib.hid hxx
  clear hxx
  obtain ⟨day, sec, wri⟩ := x
  simp only at h1 h2 h3 hx HFN HFW MYA
  replace HFN := Lib.hid HFN
  replace HFW := Lib.hid HFW
  replace MYA := Lib.hid MYA
  have H := Lib.hid h
  have HL := Lib.hid hL
  have HPJ := Lib.hid hp
  have HIH := Lib.hid IH
  clear h hL hp IH
  have hpk : (p.length : Int) < k4 := by omega
  have hpli : (p.length : Int) < r.letters.length := by omega
  rcases hcase with hs | ⟨hs, hlt⟩
  all_goals
    rw [hs] at f0
    clear hs
    generalize waitCell best = wc at *
    go_enter Tryz.func69, Tryz.ntmps69
    go_upto_region 5 with (fail)
    obtain ⟨Y, hY⟩ : ∃ Y : World, Y = W.alloc (.cells #[.int .i64 day, .int .i64 sec, .int .i64 wri] 43) := ⟨_, rfl⟩
    rw [← hY]
    have hYs : W.heap.size + 1 = Y.heap.size := by rw [hY]; simp
    have hYb : Below W.heap.size W Y := by rw [hY]; exact (Below.refl _ _).alloc (Nat.le_refl _) _
    have hYx : Y.heap[W.heap.size]? = some (.cells #[.int .i64 day, .int .i64 sec, .int .i64 wri] 43 (0, 0)) := by rw [hY]; exact alloc_at _ _ rfl
    clear hY f0 t0 p0 x3 x0 zf zt zp zx h1 h2 h3 hb4
    have HY := Lib.hid (H.out.below hm hYb)
    have x0 : Y.cell? ⟨B.bx, 0, none⟩ = some (.slice a1 r.writers.length k1) := blk_cell 0 HY.out.x rfl
    have zx := lt_of_cell x0
    replace hYs := Lib.hid hYs
    go_wp2
    go_loopw [39] (fun i wr => ∃ u : Nat, u ≤ r.writers.length ∧ i = .int .i64 u ∧ ∃ L', PlanC w0 wr B a1 a2 a3 a4 a5 k1 k2 k3 k4 k5 r L' (foldW r j p best u) ∧ L'.take p.length = p ∧ wr.heap[W.heap.size]? = some (.cells #[.int .i64 day, .int .i64 sec, .int .i64 wri] 43 (0, 0)) ∧ Fr B.bn W wr) (fun i _ => r.writers.length - (intOf i).toNat)
    case atStart => exact ⟨0, Nat.zero_le _, rfl, L, HY.out, HL.out, hYx, Fr.of_below hYb⟩
    case round =>
      clear x0 zx hYx
      obtain ⟨u, hu, rfl, L', hP, hL', hX, hF⟩ := hrel
      have hbn := hP.lt
      by_cases hlt : u < r.writers.length
      · obtain ⟨Z, hZ⟩ : ∃ Z : World, Z = wr.alloc (.cells #[.int .i64 (u : Int)] 3) := ⟨_, rfl⟩
        go_upto_region 8 with (fail)
        rw [← hZ]
        have hZb : Below wr.heap.size wr Z := by rw [hZ]; exact (Below.refl _ _).alloc (Nat.le_refl _) _
        have hZu : Z.heap[wr.heap.size]? = some (.cells #[.int .i64 (u : Int)] 3 (0, 0)) := by rw [hZ]; exact alloc_at _ _ rfl
        clear hZ
        have hZX := (hZb.block _ (lt_of_block hX)).trans hX
        have hPZ := hP.below hm hZb
        have TK := fun ad c V hb hI => STaken (u := u) hm hv.nt hPZ hL' hpl hZX hZu ad c V hb hI
        have HNY := Lib.hid (fun h => foldW_yes (r := r) (j := j) (p := p) (best := best) (u := u) h)
        have HNN := Lib.hid (fun h => foldW_no (r := r) (j := j) (p := p) (best := best) (u := u) h)
        have HFWu := HFW.out u hlt
        have MYu := fun V hV => MYA.out u hlt V hV
        rw [HFWu] at HNY HNN
        clear HFWu
        generalize takenB r p u day = tk at TK HNY HNN
        generalize mayB r ⟨day, sec, wri⟩ u = mb at MYu HNY HNN
        have NU := SList_full p.length (by omega)
        have HPZ := Lib.hid hPZ
        replace hZX := Lib.hid hZX
        replace hZu := Lib.hid hZu
        replace hP := Lib.hid hP
        replace hX := Lib.hid hX
        replace TK := Lib.hid TK
        replace MYu := Lib.hid MYu
        replace NU := Lib.hid NU
        clear hPZ
        go_upto_region 9 with (first | (go_at_call 50; go_must (have hb3 := hb2; (with_reducible refine (TK.out ad c w2 hb2 hI).mono ?_); rintro e w3 ⟨rfl, hb4⟩; dsimp only)) | (go_at_call 70; go_must ((with_reducible refine (NU.out Z).mono ?_); rintro e w2 ⟨ad, c, rfl, hok, hI, hb2⟩; dsimp only)))
        have hB : Below wr.heap.size wr w3 := hZb.trans ((hb3.trans (hb4.mono hb3.size)).mono hZb.size)
        have hP3 := hP.out.below hm hB
        have hX3 := (hB.block _ (lt_of_block hX.out)).trans hX.out
        have hU3 := ((hb3.trans (hb4.mono hb3.size)).block _ (lt_of_block hZu.out)).trans hZu.out
        have hF3 := Lib.hid (hF.trans (Fr.of_below hB))
        have c2 : w3.cell? ⟨W.heap.size, 2, none⟩ = some (.int .i64 wri) := blk_cell 2 hX3 rfl
        have cu : w3.cell? ⟨wr.heap.size, 0, none⟩ = some (.int .i64 (u : Int)) := blk_cell 0 hU3 rfl
        have cm : w3.cell? ⟨B.bmy, 0, none⟩ = some (.func (.func 47) #[.pointer (some ⟨B.bm, 0, none⟩)] #[]) := blk_cell 0 hP3.my rfl
        have z2 := lt_of_cell c2
        have zu := lt_of_cell cu
        have zm := lt_of_cell cm
        clear hok hI hb2 hb3 hb4 hZb hF hB
        have HNOW : Hid (∀ V, PlanC w0 V B a1 a2 a3 a4 a5 k1 k2 k3 k4 k5 r L' (foldW r j p best u) → Fr B.bn w3 V → foldW r j p best (u + 1) = foldW r j p best u → ∃ L', PlanC w0 V B a1 a2 a3 a4 a5 k1 k2 k3 k4 k5 r L' (foldW r j p best (u + 1)) ∧ L'.take p.length = p ∧ V.heap[W.heap.size]? = some (.cells #[.int .i64 day, .int .i64 sec, .int .i64 wri] 43 (0, 0)) ∧ Fr B.bn W V) := Lib.hid (fun V h1 h2 e => ⟨L', by rw [e]; exact h1, hL', (h2.2 _ H.out.lt z2).trans hX3, hF3.out.trans h2⟩)
        replace hP3 := Lib.hid hP3
        replace hX3 := Lib.hid hX3
        replace hU3 := Lib.hid hU3
        cases tk
        · have hcs : wri = -1 ∨ (wri ≠ -1 ∧ wri = u) ∨ (wri ≠ -1 ∧ wri ≠ u) := by omega
          have MY := Lib.hid (MYu.out w3 hP3.out.keep.1)
          rcases hcs with hc | ⟨hc, hd⟩ | ⟨hc, hd⟩
          · have g1 := eqi_t hc
            have HOWN := Lib.hid (show (decide (wri = -1) || decide (wri = (u : Int))) = true by simp [hc])
            clear hc
            cases mb
            · have hno := Lib.hid (HNN.out (by simp))
              clear HNY HNN
              go_wp2_with (go_at_call 47; go_must ((with_reducible refine MY.out.mono ?_); rintro e w4 ⟨rfl, hg4, hR4⟩; dsimp only))
              go_roundw
              case rel => exact ⟨u + 1, by omega, by go_num, HNOW.out _ (hP3.out.step hg4 hR4) (Fr.of_grown hg4 (by have := hP3.out.ok; unfold PlB.ok at this; omega)) hno.out⟩
              case measure => simp [intOf]; omega
            · have hyes := Lib.hid (HNY.out (by rw [HOWN.out]; rfl))
              clear HNY HNN
              go_upto_region 10 with (go_at_call 47; go_must ((with_reducible refine MY.out.mono ?_); rintro e w4 ⟨rfl, hg4, hR4⟩; dsimp only))
              have hP4 := hP3.out.step hg4 hR4
              have cu : w4.cell? ⟨wr.heap.size, 0, none⟩ = some (.int .i64 (u : Int)) := blk_cell 0 ((hg4.block wr.heap.size zu (fun e => by have e2 : wr.heap.size = B.bo := Option.some.inj e; have ho := hP4.ok; unfold PlB.ok at ho; omega)).trans hU3.out) rfl
              have zu := lt_of_cell cu
              have zw := hg4.size
              have hno5 : B.bn < W.heap.size := H.out.lt
              have ho := hP4.ok
              unfold PlB.ok at ho
              have cp : w4.cell? ⟨B.bp, 0, none⟩ = some (.slice (some ⟨B.pb, 0, none⟩) r.letters.length r.letters.length) := blk_cell 0 hP4.p rfl
              have gf := hP4.arr.free p.length
              have ep := hP4.arr.cell p.length (by rw [hP4.len]; exact hpl)
              have zp := lt_of_cell cp
              have ze := lt_of_cell ep
              have hFV0 := Lib.hid (hF3.out.trans (Fr.of_grown hg4 (by omega)))
              have hXV0 := Lib.hid ((hg4.block W.heap.size z2 (fun e => by have e2 : W.heap.size = B.bo := Option.some.inj e; omega)).trans hX3.out)
              have hV1 : W.heap.size ≠ B.pb := by omega
              have hpn : B.pb ≤ B.bn := by omega
              clear ho
              go_upto_region 11 with (fail)
              obtain ⟨V, hV⟩ : ∃ V : World, V = w4.setCell ⟨B.pb, p.length, none⟩ (.int .i64 ((u : Int))) := ⟨_, rfl⟩
              rw [← hV]
              have hPV : PlanC w0 V B a1 a2 a3 a4 a5 k1 k2 k3 k4 k5 r (L'.set p.length ((u : Int))) (foldW r j p best u) := by rw [hV]; exact hP4.setp hm _ _
              have hXV : V.heap[W.heap.size]? = some (.cells #[.int .i64 day, .int .i64 sec, .int .i64 wri] 43 (0, 0)) := by rw [hV]; exact (Below.heap_setCell _ _ _ _ hV1).trans hXV0.out
              have hFV := Lib.hid (show Fr B.bn W V by rw [hV]; exact hFV0.out.trans (Fr.set _ _ hpn))
              have hI := HIH.out (p ++ [(u : Int)]) (L'.set p.length ((u : Int))) _ V (by rw [List.length_append, List.length_singleton]; have := HPJ.out; omega) hPV (take_set hL' (by rw [hP4.len]; exact hpl) ((u : Int)))
              have e1 : (((p ++ [(u : Int)]).length : Nat) : Int) = (p.length : Int) + 1 := by simp
              have e2 : ((waitingOf (p ++ [(u : Int)]) : Nat) : Int) = (waitingOf p : Int) := by rw [waiting_snoc]; rw [if_neg (by omega)]; simp
              rw [e1, e2] at hI
              clear e1 e2
              have cn : V.cell? ⟨B.bn, 0, none⟩ = some (.func (.func 69) #[] B.caps) := blk_cell 0 hPV.n rfl
              have zn := lt_of_cell cn
              unfold PlB.caps at cn
              have hzx := lt_of_block hXV
              replace hXV := Lib.hid hXV
              replace hPV := Lib.hid hPV
              replace hI := Lib.hid hI
              clear hV
              go_wp2_with (go_at_call 69; go_must ((with_reducible refine hI.out.mono ?_); rintro e w5 ⟨⟨v5, rfl⟩, ⟨L5, hP5, hL5⟩, hF5⟩; dsimp only))
              go_roundw
              case rel => exact ⟨u + 1, by omega, by go_num, L5, by rw [hyes.out]; exact hP5, take_keep hL5, (hF5.2 _ hno5 hzx).trans hXV.out, hFV.out.trans hF5⟩
              case measure => simp [intOf]; omega
          · have g1 := eqi_f hc
            have g2 := eqi_t hd
            have HOWN := Lib.hid (show (decide (wri = -1) || decide (wri = (u : Int))) = true by simp [hd])
            clear hc hd
            cases mb
            · have hno := Lib.hid (HNN.out (by simp))
              clear HNY HNN
              go_wp2_with (go_at_call 47; go_must ((with_reducible refine MY.out.mono ?_); rintro e w4 ⟨rfl, hg4, hR4⟩; dsimp only))
              go_roundw
              case rel => exact ⟨u + 1, by omega, by go_num, HNOW.out _ (hP3.out.step hg4 hR4) (Fr.of_grown hg4 (by have := hP3.out.ok; unfold PlB.ok at this; omega)) hno.out⟩
              case measure => simp [intOf]; omega
            · have hyes := Lib.hid (HNY.out (by rw [HOWN.out]; rfl))
              clear HNY HNN
              go_upto_region 10 with (go_at_call 47; go_must ((with_reducible refine MY.out.mono ?_); rintro e w4 ⟨rfl, hg4, hR4⟩; dsimp only))
              have hP4 := hP3.out.step hg4 hR4
              have cu : w4.cell? ⟨wr.heap.size, 0, none⟩ = some (.int .i64 (u : Int)) := blk_cell 0 ((hg4.block wr.heap.size zu (fun e => by have e2 : wr.heap.size = B.bo := Option.some.inj e; have ho := hP4.ok; unfold PlB.ok at ho; omega)).trans hU3.out) rfl
              have zu := lt_of_cell cu
              have zw := hg4.size
              have hno5 : B.bn < W.heap.size := H.out.lt
              have ho := hP4.ok
              unfold PlB.ok at ho
              have cp : w4.cell? ⟨B.bp, 0, none⟩ = some (.slice (some ⟨B.pb, 0, none⟩) r.letters.length r.letters.length) := blk_cell 0 hP4.p rfl
              have gf := hP4.arr.free p.length
              have ep := hP4.arr.cell p.length (by rw [hP4.len]; exact hpl)
              have zp := lt_of_cell cp
              have ze := lt_of_cell ep
              have hFV0 := Lib.hid (hF3.out.trans (Fr.of_grown hg4 (by omega)))
              have hXV0 := Lib.hid ((hg4.block W.heap.size z2 (fun e => by have e2 : W.heap.size = B.bo := Option.some.inj e; omega)).trans hX3.out)
              have hV1 : W.heap.size ≠ B.pb := by omega
              have hpn : B.pb ≤ B.bn := by omega
              clear ho
              go_upto_region 11 with (fail)
              obtain ⟨V, hV⟩ : ∃ V : World, V = w4.setCell ⟨B.pb, p.length, none⟩ (.int .i64 ((u : Int))) := ⟨_, rfl⟩
              rw [← hV]
              have hPV : PlanC w0 V B a1 a2 a3 a4 a5 k1 k2 k3 k4 k5 r (L'.set p.length ((u : Int))) (foldW r j p best u) := by rw [hV]; exact hP4.setp hm _ _
              have hXV : V.heap[W.heap.size]? = some (.cells #[.int .i64 day, .int .i64 sec, .int .i64 wri] 43 (0, 0)) := by rw [hV]; exact (Below.heap_setCell _ _ _ _ hV1).trans hXV0.out
              have hFV := Lib.hid (show Fr B.bn W V by rw [hV]; exact hFV0.out.trans (Fr.set _ _ hpn))
              have hI := HIH.out (p ++ [(u : Int)]) (L'.set p.length ((u : Int))) _ V (by rw [List.length_append, List.length_singleton]; have := HPJ.out; omega) hPV (take_set hL' (by rw [hP4.len]; exact hpl) ((u : Int)))
              have e1 : (((p ++ [(u : Int)]).length : Nat) : Int) = (p.length : Int) + 1 := by simp
              have e2 : ((waitingOf (p ++ [(u : Int)]) : Nat) : Int) = (waitingOf p : Int) := by rw [waiting_snoc]; rw [if_neg (by omega)]; simp
              rw [e1, e2] at hI
              clear e1 e2
              have cn : V.cell? ⟨B.bn, 0, none⟩ = some (.func (.func 69) #[] B.caps) := blk_cell 0 hPV.n rfl
              have zn := lt_of_cell cn
              unfold PlB.caps at cn
              have hzx := lt_of_block hXV
              replace hXV := Lib.hid hXV
              replace hPV := Lib.hid hPV
              replace hI := Lib.hid hI
              clear hV
              go_wp2_with (go_at_call 69; go_must ((with_reducible refine hI.out.mono ?_); rintro e w5 ⟨⟨v5, rfl⟩, ⟨L5, hP5, hL5⟩, hF5⟩; dsimp only))
              go_roundw
              case rel => exact ⟨u + 1, by omega, by go_num, L5, by rw [hyes.out]; exact hP5, take_keep hL5, (hF5.2 _ hno5 hzx).trans hXV.out, hFV.out.trans hF5⟩
              case measure => simp [intOf]; omega
          · have g1 := eqi_f hc
            have g2 := eqi_f hd
            have hno := Lib.hid (HNN.out (by simp [hc, hd]))
            clear hc hd
            go_wp2
            go_roundw
            case rel => exact ⟨u + 1, by omega, by go_num, HNOW.out _ hP3.out (Fr.refl _ _) hno.out⟩
            case measure => simp [intOf]; omega
        · have hno := Lib.hid (HNN.out rfl)
          go_wp2
          go_roundw
          case rel => exact ⟨u + 1, by omega, by go_num, HNOW.out _ hP3.out (Fr.refl _ _) hno.out⟩
          case measure => simp [intOf]; omega
      · obtain rfl : u = r.writers.length := by omega
        have c2 : wr.cell? ⟨W.heap.size, 2, none⟩ = some (.int .i64 wri) := blk_cell 2 hX rfl
        have z2 := lt_of_cell c2
        by_cases hc : wri = -1
        · have g1 := eqi_t hc
          have hyes := Lib.hid (HDY.out (HFN.out.trans (by simp [hc])))
          clear hc
          have hno5 : B.bn < W.heap.size := H.out.lt
          have ho := hP.ok
          unfold PlB.ok at ho
          have cp : wr.cell? ⟨B.bp, 0, none⟩ = some (.slice (some ⟨B.pb, 0, none⟩) r.letters.length r.letters.length) := blk_cell 0 hP.p rfl
          have gf := hP.arr.free p.length
          have ep := hP.arr.cell p.length (by rw [hP.len]; exact hpl)
          have zp := lt_of_cell cp
          have ze := lt_of_cell ep
          have hFV0 := Lib.hid (hF)
          have hXV0 := Lib.hid (hX)
          have hV1 : W.heap.size ≠ B.pb := by omega
          have hpn : B.pb ≤ B.bn := by omega
          clear ho
          go_upto_region 15 with (fail)
          obtain ⟨V, hV⟩ : ∃ V : World, V = wr.setCell ⟨B.pb, p.length, none⟩ (.int .i64 (-1)) := ⟨_, rfl⟩
          rw [← hV]
          have hPV : PlanC w0 V B a1 a2 a3 a4 a5 k1 k2 k3 k4 k5 r (L'.set p.length (-1)) (foldW r j p best r.writers.length) := by rw [hV]; exact hP.setp hm _ _
          have hXV : V.heap[W.heap.size]? = some (.cells #[.int .i64 day, .int .i64 sec, .int .i64 wri] 43 (0, 0)) := by rw [hV]; exact (Below.heap_setCell _ _ _ _ hV1).trans hXV0.out
          have hFV := Lib.hid (show Fr B.bn W V by rw [hV]; exact hFV0.out.trans (Fr.set _ _ hpn))
          have hI := HIH.out (p ++ [-1]) (L'.set p.length (-1)) _ V (by rw [List.length_append, List.length_singleton]; have := HPJ.out; omega) hPV (take_set hL' (by rw [hP.len]; exact hpl) (-1))
          have e1 : (((p ++ [-1]).length : Nat) : Int) = (p.length : Int) + 1 := by simp
          have e2 : ((waitingOf (p ++ [-1]) : Nat) : Int) = (waitingOf p : Int) + 1 := by rw [waiting_snoc]; simp
          rw [e1, e2] at hI
          clear e1 e2
          have cn : V.cell? ⟨B.bn, 0, none⟩ = some (.func (.func 69) #[] B.caps) := blk_cell 0 hPV.n rfl
          have zn := lt_of_cell cn
          unfold PlB.caps at cn
          have hzx := lt_of_block hXV
          replace hXV := Lib.hid hXV
          replace hPV := Lib.hid hPV
          replace hI := Lib.hid hI
          clear hV
          go_wp2_with (go_at_call 69; go_must ((with_reducible refine hI.out.mono ?_); rintro e w5 ⟨⟨v5, rfl⟩, ⟨L5, hP5, hL5⟩, hF5⟩; dsimp only))
          go_end0
          exact ⟨⟨_, rfl⟩, ⟨L5, by rw [hyes.out]; exact hP5, take_keep hL5⟩, hFV.out.trans hF5⟩
        · have g1 := eqi_f hc
          have hno := Lib.hid (HDN.out (HFN.out.trans (by simp [hc])))
          clear hc
          go_wp2
          go_end0
          exact ⟨⟨_, rfl⟩, ⟨L', by rw [hno.out]; exact hP, hL'⟩, hF⟩
end Go.Proofs.YtcgplocmncionaaGreat
