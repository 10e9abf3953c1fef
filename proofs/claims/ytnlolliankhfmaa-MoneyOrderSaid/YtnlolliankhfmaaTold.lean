/- What is proved here: the contract of the laws' Told. Conditions: the list lies in memory and is valid; the bytes lie in memory. -/
import Derived.Test.YtnlolliankhfmaaLwP
import Derived.Test.YtnlolliankhfmaaEnd
set_option linter.unusedVariables false
set_option linter.unusedSimpArgs false
namespace Go.Proofs.Ytnlolliankhfmaa
open Go Go.RowKit
/-- Claimants by turns. -/
def tellTo (n : Nat) (xs : List Int) : Nat → List Int
  | 0 => []
  | j + 1 => tellTo n xs j ++ [turnOf xs j % (n : Int)]
theorem tellTo_len (n : Nat) (xs : List Int) : ∀ j, (tellTo n xs j).length = j
  | 0 => rfl
  | j + 1 => by rw [tellTo, List.length_append, tellTo_len n xs j]; rfl
theorem tellTo_at (n : Nat) (xs : List Int) {k : Nat} : ∀ {j : Nat}, k < j → (tellTo n xs j)[k]?.getD 0 = turnOf xs k % (n : Int)
  | 0, h => absurd h (Nat.not_lt_zero _)
  | j + 1, h => by
    have hl := tellTo_len n xs j
    rw [tellTo]
    by_cases e : k < j
    · rw [List.getElem?_append_left (by omega)]
      exact tellTo_at n xs e
    · have : k = j := by omega
      subst this
      rw [List.getElem?_append_right (by omega), hl, Nat.sub_self]
      rfl
def tell (m : MoList) (xs : List Int) : List Int := tellTo m.claimants.length xs m.sums.length
theorem tell_turns {m : MoList} (hv : Valid m) {xs : List Int} (hx : ∀ x ∈ xs, 0 ≤ x ∧ x ≤ 255) : TurnsOf m (tell m xs) := by
  refine ⟨tellTo_len _ _ _, fun j hj => ?_⟩
  have hl : (tell m xs).length = m.sums.length := tellTo_len _ _ _
  have hj2 : j < m.sums.length := by omega
  have hn : 0 < m.claimants.length := by
    have := (hv.sums j hj2).2
    by_cases h0 : m.claimants.length = 0
    · rw [h0] at this
      simp [allBits] at this
      omega
    · omega
  have e := tellTo_at m.claimants.length xs hj2
  have e2 : (tell m xs)[j]?.getD 0 = (tell m xs)[j] := by rw [List.getElem?_eq_getElem hj]; rfl
  rw [← e2]
  have e3 : (tell m xs)[j]?.getD 0 = turnOf xs j % (m.claimants.length : Int) := e
  rw [e3]
  have hb := turnOf_bd hx j
  exact ⟨Int.emod_nonneg _ (show (m.claimants.length : Int) ≠ 0 by omega), Int.emod_lt_of_pos _ (show (0 : Int) < m.claimants.length by omega)⟩
def toldS (m : MoList) (t : List Int) : List MoSum := m.sums.mapIdx (toldSum t)
theorem toldS_len (m : MoList) (t : List Int) : (toldS m t).length = m.sums.length := by simp [toldS]
theorem toldS_succ (m : MoList) (t : List Int) (k : Nat) (h : k < m.sums.length) : (toldS m t).take (k + 1) = (toldS m t).take k ++ [toldSum t k m.sums[k]] := by
  rw [List.take_succ_eq_append_getElem (by rw [toldS_len]; exact h)]
  simp [toldS]
def toldW (m : MoList) (t : List Int) : List MoWord := m.words.map (toldWord t)
theorem toldW_len (m : MoList) (t : List Int) : (toldW m t).length = m.words.length := by simp [toldW]
theorem toldW_succ (m : MoList) (t : List Int) (k : Nat) (h : k < m.words.length) : (toldW m t).take (k + 1) = (toldW m t).take k ++ [toldWord t m.words[k]] := by
  rw [List.take_succ_eq_append_getElem (by rw [toldW_len]; exact h)]
  simp [toldW]

theorem st_old {w X V : World} {P : Prop} (hB : Below w.heap.size w X) (h : Below X.heap.size X V ∧ P) : Below w.heap.size w V := hB.trans (h.1.mono hB.size)
theorem st_next {X V V' : World} {P : Prop} (h : Below X.heap.size X V ∧ P) (hb : Below V.heap.size V V') : Below X.heap.size X V' := h.1.trans (hb.mono h.1.size)
theorem one_keep {Y V : World} {b o : Nat} {v : Value} (h : Below Y.heap.size Y V) (s : Y.cell? ⟨b, o, none⟩ = some v) : Below Y.heap.size Y V ∧ V.cell? ⟨b, o, none⟩ = some v ∧ b < V.heap.size := ⟨h, cell_below h s, lt_of_cell (cell_below h s)⟩
def TOut (W : World) (bm : Nat) (v0 v1 v2 v3 : Value) : Prop := W.heap[bm]? = some (.cells #[v0, v1, v2, v3] 27 (0, 0))

set_option maxRecDepth 100000 in
set_option maxHeartbeats 4000000 in
theorem Told_any (ac az aw ap : Option Addr) (cc cz cw cp : Nat) (m : MoList) (ab : Option Addr) (xs : List Int) (cb : Nat) (w : World) (hm : ListC w ac az aw ap cc cz cw cp m) (hv : Valid m) (hob : SlOk ab xs.length cb) (hib : BytesC w ab xs) (hbb : ∀ x ∈ xs, 0 ≤ x ∧ x ≤ 255) : Calls Try.prog 51 #[(.agg #[.slice ac m.claimants.length cc, .slice az m.sums.length cz, .slice aw m.words.length cw, .slice ap m.paid.length cp]), .slice ab xs.length cb] w fun e w' => ∃ az' aw' cz' cw' at_ ct, e = .returned (.tuple #[listV ac az' aw' ap cc cz' cw' cp (told m (tell m xs) m.paid), .slice at_ (tell m xs).length ct]) ∧
    ListC w' ac az' aw' ap cc cz' cw' cp (told m (tell m xs) m.paid) ∧ SlOk at_ (tell m xs).length ct ∧ IntsC w' at_ (tell m xs) ∧ Below w.heap.size w w' := by
  have l1 := hm.okc.len
  have l2 := hm.okz.len
  have l3 := hm.okw.len
  have n4 := hv.nc
  have n5 := hv.nz
  have n6 := hv.nw
  obtain ⟨W1, hW1⟩ : ∃ W1 : World, W1 = (((w.alloc (.cells #[.slice ac m.claimants.length cc, .slice az m.sums.length cz, .slice aw m.words.length cw, .slice ap m.paid.length cp] 27))).alloc (.cells #[.slice none 0 0, .slice none 0 0, .slice none 0 0, .slice none 0 0] 27)).alloc (.cells #[.slice ac m.claimants.length cc, .slice none 0 0, .slice none 0 0, .slice ap m.paid.length cp] 27) := ⟨_, rfl⟩
  have hz1 : W1.heap.size = w.heap.size + 3 := by rw [hW1]; simp
  have hA1 : Below w.heap.size w W1 := by rw [hW1]; exact (((Below.refl _ _).alloc (Nat.le_refl _) _).alloc (by simp) _).alloc (by simp <;> omega) _
  have hS0 : TOut W1 w.heap.size (.slice ac m.claimants.length cc) (.slice az m.sums.length cz) (.slice aw m.words.length cw) (.slice ap m.paid.length cp) := by rw [hW1]; exact (heap_alloc_old _ _ (by simp <;> omega)).trans ((heap_alloc_old _ _ (by simp)).trans (alloc_at _ _ rfl))
  have hS1 : TOut W1 (w.heap.size + 1) (.slice none 0 0) (.slice none 0 0) (.slice none 0 0) (.slice none 0 0) := by rw [hW1]; exact (heap_alloc_old _ _ (by simp)).trans (alloc_at _ _ (by simp))
  have hS2 : TOut W1 (w.heap.size + 1 + 1) (.slice ac m.claimants.length cc) (.slice none 0 0) (.slice none 0 0) (.slice ap m.paid.length cp) := by rw [hW1]; exact alloc_at _ _ (by simp)
  have HW1 := Lib.hid hW1
  clear hW1
  obtain ⟨T, hT⟩ : ∃ T, T = tell m xs := ⟨_, rfl⟩
  have hTat : Hid (∀ k, k < m.sums.length → T[k]?.getD 0 = turnOf xs k % (m.claimants.length : Int)) := Lib.hid (fun k hk => by rw [hT]; exact tellTo_at _ _ hk)
  have TB := Lib.hid (turnOf_bd hbb)
  rw [← hT]
  replace hT := Lib.hid hT
  go_enter Try.func51, Try.ntmps51
  go_upto_region 4 with (fail)
  rw [← HW1.out]
  go_wp2
  go_loopw [6, 8] (fun o i wr => ∃ (k : Nat) (az' : Option Addr) (cz' : Nat), k ≤ m.sums.length ∧ i = .int .i64 k ∧ wr.ownsRow W1.heap.size 3 1 o (tellTo m.claimants.length xs k).length ((tellTo m.claimants.length xs k).map (Value.int .i64)) ∧
    TOut wr w.heap.size (.slice ac m.claimants.length cc) (.slice az m.sums.length cz) (.slice aw m.words.length cw) (.slice ap m.paid.length cp) ∧ TOut wr (w.heap.size + 1) (.slice none 0 0) (.slice none 0 0) (.slice none 0 0) (.slice none 0 0) ∧
    TOut wr (w.heap.size + 1 + 1) (.slice ac m.claimants.length cc) (.slice az' ((toldS m T).take k).length cz') (.slice none 0 0) (.slice ap m.paid.length cp) ∧ SlOk az' ((toldS m T).take k).length cz' ∧ SumsC wr az' ((toldS m T).take k) ∧ (∀ ad, az' = some ad → some ad.block ≠ o.ownBlock) ∧ Below w.heap.size w wr ∧ W1.heap.size ≤ wr.heap.size) (fun _ i _ => m.sums.length - (intOf i).toNat)
  case atStart => exact ⟨0, none, 0, Nat.zero_le _, rfl, World.ownsRow_nil _ _ _ _, hS0, hS1, hS2, ⟨Nat.le_refl _, by omega, fun _ => rfl⟩, fun i hi => absurd hi (Nat.not_lt_zero i), fun ad e => (by cases e), hA1, Nat.le_refl _⟩
  case round =>
    clear hS0 hS1 hS2 hA1
    obtain ⟨k, az', cz', hk, rfl, ho, hS0, hS1, hS2, hsz, hzc, hap, hB, hZ⟩ := hrel
    have b1 : wr.cell? ⟨w.heap.size, 1, none⟩ = some (.slice az m.sums.length cz) := blk_cell 1 hS0 rfl
    have b0 : wr.cell? ⟨w.heap.size, 0, none⟩ = some (.slice ac m.claimants.length cc) := blk_cell 0 hS0 rfl
    have zb := lt_of_block hS0
    by_cases hlt : k < m.sums.length
    · have hn : 0 < m.claimants.length := by
        have := (hv.sums k hlt).2
        by_cases h0 : m.claimants.length = 0
        · rw [h0] at this; simp [allBits] at this; omega
        · omega
      have htb := TB.out k
      have hTk := hTat.out k hlt
      have TC := Lib.hid (fun (W : World) (h : Below w.heap.size w W) => Turn_any ab xs cb k W hob.len (by omega) (hib.mono h))
      have hts : Hid (tellTo m.claimants.length xs (k + 1) = tellTo m.claimants.length xs k ++ [turnOf xs k % (m.claimants.length : Int)]) := rfl
      generalize turnOf xs k = tv at htb hTk TC hts
      obtain ⟨y, rfl⟩ := Int.eq_ofNat_of_zero_le htb.1
      have hyn : ((y : Int) % (m.claimants.length : Int)) = ((y % m.claimants.length : Nat) : Int) := (Int.natCast_emod _ _).symm
      have hc4 : y % m.claimants.length < m.claimants.length := Nat.mod_lt _ hn
      rw [hyn] at hTk hts
      replace hts := Lib.hid hts
      replace hTk := Lib.hid hTk
      have hne : ((m.claimants.length : Int) == 0) = false := eqi_f (by omega)
      have hn1 : ¬ ((m.claimants.length : Int) = 0) := by omega
      have hn2 : (0 : Int) < (m.claimants.length : Int) := by omega
      have hn3 : m.claimants.length ≠ 0 := by omega
      go_upto_region 7 with (fail)
      go_cut [9] (fun v W => v = .int .i64 ((y % m.claimants.length : Nat) : Int) ∧ Below wr.heap.size wr W)
      case first =>
        have hBd := below_drew' (Below.refl wr.heap.size wr)
        go_region_held3 (fun V => Below wr.heap.size wr V ∧ V.cell? ⟨w.heap.size, 0, none⟩ = some (.slice ac m.claimants.length cc) ∧ w.heap.size < V.heap.size) (exact ⟨by assumption, cell_below (by assumption) b0, lt_of_cell (cell_below (by assumption) b0)⟩) (first
          | (go_at_call 93; refine (TC.out _ (st_old hB (by assumption))).mono ?_; rintro e w2 ⟨rfl, hb⟩; have hB2 := st_next (by assumption) hb; dsimp only))
        go_wp2
        go_meet
        case rel => exact ⟨by rw [Int.natCast_emod, Int.tmod_eq_emod_of_nonneg (by omega)], hB2⟩
      case rest =>
        obtain ⟨rfl, hB7⟩ := hcut
        rename World => X
        have hBX := hB.trans (hB7.mono hB.size)
        replace ho := own_below ho hB7
        replace hS0 : TOut X _ _ _ _ _ := blk_below hB7 (lt_of_block hS0) hS0
        replace hS1 : TOut X _ _ _ _ _ := blk_below hB7 (lt_of_block hS1) hS1
        replace hS2 : TOut X _ _ _ _ _ := blk_below hB7 (lt_of_block hS2) hS2
        replace hzc := hzc.mono hB7
        replace hZ : W1.heap.size ≤ X.heap.size := Nat.le_trans hZ hB7.size
        clear b0 b1 zb TC hyn
        have b1 : X.cell? ⟨w.heap.size, 1, none⟩ = some (.slice az m.sums.length cz) := blk_cell 1 hS0 rfl
        have zb := lt_of_block hS0
        have htk := Lib.hid (toldS_succ m T k hlt)
        obtain ⟨bz, oz, haz, hbz, g0, g1, g2⟩ := (hm.mono hBX).sums k hlt
        have hsv := (hv.sums k hlt).2
        have htw : Hid (toldSum T k m.sums[k] = { m.sums[k] with for_ := if bitB m.sums[k].for_ (y % m.claimants.length) then m.sums[k].for_ else m.sums[k].for_ + 2 ^ (y % m.claimants.length) }) := Lib.hid (by unfold toldSum; rw [hTk.out, Int.toNat_natCast])
        generalize toldSum T k m.sums[k] = sv at htk htw
        have hfb : allBits m.claimants.length ≤ 15 := by
          rw [allBits_cast]
          have : 2 ^ m.claimants.length ≤ 2 ^ 4 := Nat.pow_le_pow_right (by omega) n4
          omega
        generalize m.sums[k] = s0 at g0 g1 g2 hsv htw
        obtain ⟨name, pence, fo⟩ := s0
        simp only at g0 g1 g2 hsv htw
        subst haz
        generalize hc : y % m.claimants.length = c at htw hts hTk hc4
        go_upto_region 9 with (fail)
        obtain ⟨Y, hY⟩ : ∃ Y : World, Y = X.alloc (.cells #[.string name, .int .i64 pence, .int .i64 fo] 73) := ⟨_, rfl⟩
        rw [← hY]
        have HbY : Below X.heap.size X Y := by rw [hY]; exact (Below.refl _ _).alloc (Nat.le_refl _) _
        have hYs : Y.heap[X.heap.size]? = some (.cells #[.string name, .int .i64 pence, .int .i64 fo] 73 (0, 0)) := by rw [hY]; exact alloc_at _ _ rfl
        clear hY
        have s2 : Y.cell? ⟨X.heap.size, 2, none⟩ = some (.int .i64 fo) := blk_cell 2 hYs rfl
        have zy := lt_of_block hYs
        have BC := Lib.hid (fun (W : World) => Bit_any fo (c : Int) W (by omega) (by omega) (by omega) (by omega))
        simp only [Int.toNat_natCast] at BC
        go_upto_if 39 with (go_at_call 46; (with_reducible refine (BC.out _).mono ?_); rintro e w4 ⟨rfl, hw4⟩; obtain rfl := hw4.symm; dsimp only)
        obtain ⟨fo2, hfo2⟩ : ∃ fo2, fo2 = (if bitB fo c then fo else fo + 2 ^ c) := ⟨_, rfl⟩
        rw [← hfo2] at htw
        go_cut [] (fun W => Below X.heap.size X W ∧ W.heap[X.heap.size]? = some (.cells #[.string name, .int .i64 pence, .int .i64 fo2] 73 (0, 0)))
        case first =>
          cases hbit : bitB fo c
          · rw [hbit] at hfo2
            simp only [Bool.false_eq_true, if_false] at hfo2
            go_upto_region 10 with (fail)
            have f2 := blk_free 2 hYs
            have hc' : c = 0 ∨ c = 1 ∨ c = 2 ∨ c = 3 := by omega
            clear b1 zb ho hS0 hS1 hS2 hzc hZ hB7 hBX
            rcases hc' with rfl | rfl | rfl | rfl
            all_goals
              simp only [Nat.reducePow, Int.reducePow] at hfo2
              go_region
            all_goals
              go_wp2
              go_meet
              case rel =>
                refine ⟨?_, ?_⟩
                · (repeat' (first | assumption | exact Below.refl _ _ | refine Below.drew ?_ | refine Below.setCell ?_ (by simp <;> omega) _ | refine Below.alloc ?_ (by simp <;> omega) _))
                · rw [drew_heap, hfo2]
                  exact (heap_alloc_old _ _ (by simpa using zy)).trans (blk_set 2 _ hYs)
          · rw [hbit, if_pos rfl] at hfo2
            go_wp2
            go_meet
            case rel => exact ⟨HbY, by rw [hfo2]; exact hYs⟩
        case rest =>
          clear HbY hYs s2 zy BC hfo2
          obtain ⟨HbY, hYs⟩ := hcut
          rename World => Y2
          have hoX := own_below ho HbY
          have hZY : W1.heap.size ≤ Y2.heap.size := Nat.le_trans hZ HbY.size
          have hlt2 := tellTo_len m.claimants.length xs k
          generalize hL : tellTo m.claimants.length xs k = L at ho hoX hts hlt2
          clear hL
          have zs := lt_of_block hYs
          go_upto_region 12 with (at_builtin; go_must (refine wpList_app (.tmp 48) (.tmp 50) E_int rfl rfl rfl rfl W1.heap.size L.length 1 (L.map (Value.int .i64)) [.int .i64 (c : Int)] (hoX.alloc _) (SrcAt.one _ _ _ rfl) (by omega) (by decide) (by simp; omega) ?_; intro t2 V hot hgt _; simp only [Act.put, List.setIfInBounds_toArray, List.set_cons_succ, List.set_cons_zero]))
          have hBV : Below W1.heap.size Y2 V := app_next (Below.refl W1.heap.size Y2) hZY (Nat.le_refl _) hoX hgt
          have hVs : V.heap[X.heap.size]? = some (.cells #[.string name, .int .i64 pence, .int .i64 fo2] 73 (0, 0)) := (hgt.block _ (by simp; omega) (fun e => by have := (ho.lt _ e.symm).2; omega)).trans ((heap_alloc_old _ _ zs).trans hYs)
          have hXV : Below W1.heap.size X V := (HbY.mono hZ).trans hBV
          have hZV : W1.heap.size ≤ V.heap.size := Nat.le_trans hZY hBV.size
          have hVo : TOut V (w.heap.size + 1 + 1) _ _ _ _ := blk_below hXV (by omega) hS2
          have hzV := (((hzc.mono HbY).mono (al_on Y2 (.cells #[.int .i64 (c : Int)] 3))).grown hgt hap)
          have hl1 : ((toldS m T).take k).length ≤ 5 := by rw [List.length_take, toldS_len]; omega
          rw [htw.out] at htk
          generalize hL2 : (toldS m T).take (k + 1) = L2 at htk
          generalize (toldS m T).take k = L1 at htk hzV hVo hsz hl1
          have zsV := lt_of_block hVs
          have zoV := lt_of_block hVo
          have k1 : V.cell? ⟨w.heap.size + 1 + 1, 1, none⟩ = some (.slice az' L1.length cz') := blk_cell 1 hVo rfl
          have hV0 : TOut V w.heap.size _ _ _ _ := blk_below hXV (by omega) hS0
          have hV1 : TOut V (w.heap.size + 1) _ _ _ _ := blk_below hXV (by omega) hS1
          have hBwV : Below w.heap.size w V := hBX.trans (hXV.mono (by omega))
          clear hS0 hS1 hS2 hzc ho hoX b1 zb
          have SF : Hid (∀ U, Below V.heap.size V U → Below V.heap.size V U ∧ U.cell? ⟨w.heap.size + 1 + 1, 1, none⟩ = some (.slice az' L1.length cz') ∧ U.cell? ⟨X.heap.size, 0, none⟩ = some (.string name) ∧ U.cell? ⟨X.heap.size, 1, none⟩ = some (.int .i64 pence) ∧ U.cell? ⟨X.heap.size, 2, none⟩ = some (.int .i64 fo2) ∧ w.heap.size + 1 + 1 < U.heap.size ∧ X.heap.size < U.heap.size) := Lib.hid (fun U h => by
            have k2 := cell_below h k1
            have k3 : U.heap[X.heap.size]? = _ := (h.block _ zsV).trans hVs
            exact ⟨h, k2, blk_cell 0 k3 rfl, blk_cell 1 k3 rfl, blk_cell 2 k3 rfl, lt_of_cell k2, lt_of_block k3⟩)
          refine wp_region_z (fun U => Below V.heap.size V U ∧ U.cell? ⟨w.heap.size + 1 + 1, 1, none⟩ = some (.slice az' L1.length cz') ∧ U.cell? ⟨X.heap.size, 0, none⟩ = some (.string name) ∧ U.cell? ⟨X.heap.size, 1, none⟩ = some (.int .i64 pence) ∧ U.cell? ⟨X.heap.size, 2, none⟩ = some (.int .i64 fo2) ∧ w.heap.size + 1 + 1 < U.heap.size ∧ X.heap.size < U.heap.size) 8 (by kernel_rfl) (SF.out V.drew (by (repeat' (first | assumption | exact Below.refl _ _ | refine Below.drew ?_ | refine Below.alloc ?_ (by first | omega | (simp <;> omega)) _)))) (fun hHeld => ?_)
          (refine wpZ_take (i := 1) (v := ?_) rfl (by kernel_rfl) (by kernel_rfl) (by kernel_rfl) (by kernel_rfl) (fun _ _ _ h => h) (Or.inl ⟨by kernel_rfl, ?_⟩) (by assumption) ?_; rotate_left 1; (focus (intro w hSw; (try dsimp only at hSw); go_simp; first | done | with_reducible rfl)); simp only [Act.put, List.getElem_toArray, List.getElem_cons_succ, List.getElem_cons_zero, List.setIfInBounds_toArray, List.set_cons_succ, List.set_cons_zero])
          (refine wpZ_take (i := 2) (v := ?_) rfl (by kernel_rfl) (by kernel_rfl) (by kernel_rfl) (by kernel_rfl) (fun _ _ _ h => h) (Or.inl ⟨by kernel_rfl, ?_⟩) (by assumption) ?_; rotate_left 1; (focus (intro w hSw; (try dsimp only at hSw); go_simp; first | done | with_reducible rfl)); simp only [Act.put, List.getElem_toArray, List.getElem_cons_succ, List.getElem_cons_zero, List.setIfInBounds_toArray, List.set_cons_succ, List.set_cons_zero])
          (refine wpZ_take (i := 4) (v := ?_) rfl (by kernel_rfl) (by kernel_rfl) (by kernel_rfl) (by kernel_rfl) (fun _ _ _ h => h) (Or.inl ⟨by kernel_rfl, ?_⟩) (by assumption) ?_; rotate_left 1; (focus (intro w hSw; (try dsimp only at hSw); go_simp; first | done | with_reducible rfl)); simp only [Act.put, List.getElem_toArray, List.getElem_cons_succ, List.getElem_cons_zero, List.setIfInBounds_toArray, List.set_cons_succ, List.set_cons_zero])
          refine wpZ_ready (rs := [0, 5]) (by kernel_rfl) (by simp) (AllZ.cons rfl (fun K hK => ?_) (AllZ.cons rfl (fun K hK => ?_) AllZ.nil)); (focus ((go_simp; refine hK.out _ _ (fun _ => SF.out _ (by (repeat' (first | assumption | exact Below.refl _ _ | refine Below.drew ?_ | refine Below.alloc ?_ (by first | omega | (simp <;> omega)) _)))) ?_; (try simp only [Act.put, List.getElem_toArray, List.getElem_cons_succ, List.getElem_cons_zero, List.setIfInBounds_toArray, List.set_cons_succ, List.set_cons_zero]); clear hK); refine wpZ_ready (rs := [3, 5]) (by kernel_rfl) (by simp) (AllZ.cons rfl (fun K hK => ?_) (AllZ.cons rfl (fun K hK => ?_) AllZ.nil)); (focus (have hm0 : ((V.alloc (.cells #[] 73)).drew).ownsRow V.heap.size 73 3 (.slice (some ⟨V.heap.size, 0, none⟩) 0 0) 0 [] := (made_row2 (Nat.le_refl _) _ _).drew; refine step_app (.tmp 52) (.tmp 54) (v := .slice (some ⟨V.heap.size, 0, none⟩) 0 0) E_sum (by rfl) (by rfl) (by rfl) (by rfl) V.heap.size 0 L1.length [] (flatC sumCells L1) hm0 (SrcAt.sums hsz.2.2 (hzV.mono (by (repeat' (first | assumption | exact Below.refl _ _ | refine Below.drew ?_ | refine Below.alloc ?_ (by first | omega | (simp <;> omega)) _))))) (by omega) (by decide) (by first | omega | (simp [drew_heap] <;> omega)) ?_; intro v1 V1 ho1 hg1 _; (have hB1 : Below V.heap.size V V1 := app_grown (by (repeat' (first | assumption | exact Below.refl _ _ | refine Below.drew ?_ | refine Below.alloc ?_ (by first | omega | (simp <;> omega)) _))) hm0 hg1); (rw [Nat.zero_add, List.nil_append] at ho1); have hz1v := hB1.size; refine hK.out _ _ (fun _ => SF.out _ hB1) ?_; (try simp only [Act.put, List.getElem_toArray, List.getElem_cons_succ, List.getElem_cons_zero, List.setIfInBounds_toArray, List.set_cons_succ, List.set_cons_zero]); clear hK; refine wpZ_ready (rs := [5]) (by kernel_rfl) (by simp) (AllZ.cons rfl (fun K hK => ?_) AllZ.nil); (go_simp; refine hK.out _ _ (fun _ => SF.out _ (by (repeat' (first | assumption | exact Below.refl _ _ | refine Below.drew ?_ | refine Below.alloc ?_ (by first | omega | (simp <;> omega)) _)))) ?_; (try simp only [Act.put, List.getElem_toArray, List.getElem_cons_succ, List.getElem_cons_zero, List.setIfInBounds_toArray, List.set_cons_succ, List.set_cons_zero]); clear hK); have hs2 := SrcAt.sum V1 name pence fo2 73; refine wpZ_ready (rs := [6]) (by kernel_rfl) (by simp) (AllZ.cons rfl (fun K hK => ?_) AllZ.nil); refine step_app (.tmp 55) (.tmp 57) (v := v1) E_sum (by rfl) (by rfl) (by rfl) (by rfl) V.heap.size L1.length 1 (flatC sumCells L1) [.string name, .int .i64 pence, .int .i64 fo2] (by first | exact ho1 | exact ho1.alloc _) hs2 (by omega) (by decide) (by first | omega | (simp [drew_heap] <;> omega)) ?_; intro v2 V2 ho2 hg2 _; (have hB2 : Below V.heap.size V V2 := app_grown (by (repeat' (first | assumption | exact Below.refl _ _ | refine Below.drew ?_ | refine Below.alloc ?_ (by first | omega | (simp <;> omega)) _))) (by first | exact ho1 | exact ho1.alloc _) hg2); (rw [sum_snoc, ← htk.out] at ho2); (have e2 : L1.length + 1 = L2.length := by rw [htk.out]; simp); (rw [e2] at ho2); clear e2; (obtain ⟨-, a9, c9, rfl, hs9, -⟩ := sums_own ho2); (have hc2 : V2.heap[w.heap.size + 1 + 1]? = _ := (hB2.block _ zoV).trans hVo); have hHeld2 := SF.out _ hB2; refine hK.out _ _ (fun _ => hHeld2) ?_; (try simp only [Act.put, List.getElem_toArray, List.getElem_cons_succ, List.getElem_cons_zero, List.setIfInBounds_toArray, List.set_cons_succ, List.set_cons_zero]); clear hK; (refine wpZ_take (i := 7) (v := ?_) rfl (by kernel_rfl) (by kernel_rfl) (by kernel_rfl) (by kernel_rfl) (fun _ _ _ h => h) (Or.inl ⟨by kernel_rfl, ?_⟩) (by assumption) ?_; rotate_left 1; (focus (intro w hSw; (try dsimp only at hSw); go_simp; first | done | with_reducible rfl)); simp only [Act.put, List.getElem_toArray, List.getElem_cons_succ, List.getElem_cons_zero, List.setIfInBounds_toArray, List.set_cons_succ, List.set_cons_zero]); have k2 : V2.cell? ⟨w.heap.size + 1 + 1, 1, none⟩ = some (.slice az' L1.length cz') := blk_cell 1 hc2 rfl; have k3 := blk_free 1 hc2; have zo2 := lt_of_block hc2; refine wpZ_ready (rs := [8]) (by kernel_rfl) (by simp) (AllZ.cons rfl (fun K hK => ?_) AllZ.nil); (go_simp; refine hK.out _ _ (fun h => absurd rfl h) ?_; (try simp only [Act.put, List.getElem_toArray, List.getElem_cons_succ, List.getElem_cons_zero, List.setIfInBounds_toArray, List.set_cons_succ, List.set_cons_zero]); clear hK; refine wpZ_done (by kernel_rfl) ?_ _))); rotate_left 1; (focus ((go_simp; refine hK.out _ _ (fun _ => SF.out _ (by (repeat' (first | assumption | exact Below.refl _ _ | refine Below.drew ?_ | refine Below.alloc ?_ (by first | omega | (simp <;> omega)) _)))) ?_; (try simp only [Act.put, List.getElem_toArray, List.getElem_cons_succ, List.getElem_cons_zero, List.setIfInBounds_toArray, List.set_cons_succ, List.set_cons_zero]); clear hK); refine wpZ_ready (rs := [3]) (by kernel_rfl) (by simp) (AllZ.cons rfl (fun K hK => ?_) AllZ.nil); have hm0 : (((V.alloc (.cells #[] 73)).alloc (.cells #[.string name, .int .i64 pence, .int .i64 fo2] 73)).drew).ownsRow V.heap.size 73 3 (.slice (some ⟨V.heap.size, 0, none⟩) 0 0) 0 [] := ((made_row2 (Nat.le_refl _) _ _).alloc _).drew; have hsr : SrcAt (((V.alloc (.cells #[] 73)).alloc (.cells #[.string name, .int .i64 pence, .int .i64 fo2] 73)).drew) (.slice (some ⟨V.heap.size + 1, 0, none⟩) 1 1) 1 3 [.string name, .int .i64 pence, .int .i64 fo2] := (by have h := (SrcAt.sum (V.alloc (.cells #[] 73)) name pence fo2 73).below (below_drew' (Below.refl _ _)); rwa [show (V.alloc (.cells #[] 73)).heap.size = V.heap.size + 1 from by simp] at h); refine step_app (.tmp 52) (.tmp 54) (v := .slice (some ⟨V.heap.size, 0, none⟩) 0 0) E_sum (by rfl) (by rfl) (by rfl) (by rfl) V.heap.size 0 L1.length [] (flatC sumCells L1) hm0 (SrcAt.sums hsz.2.2 (hzV.mono (by (repeat' (first | assumption | exact Below.refl _ _ | refine Below.drew ?_ | refine Below.alloc ?_ (by first | omega | (simp <;> omega)) _))))) (by omega) (by decide) (by first | omega | (simp [drew_heap] <;> omega)) ?_; intro v1 V1 ho1 hg1 _; (have hB1 : Below V.heap.size V V1 := app_grown (by (repeat' (first | assumption | exact Below.refl _ _ | refine Below.drew ?_ | refine Below.alloc ?_ (by first | omega | (simp <;> omega)) _))) hm0 hg1); (rw [Nat.zero_add, List.nil_append] at ho1); have hz1v := hB1.size; refine hK.out _ _ (fun _ => SF.out _ hB1) ?_; (try simp only [Act.put, List.getElem_toArray, List.getElem_cons_succ, List.getElem_cons_zero, List.setIfInBounds_toArray, List.set_cons_succ, List.set_cons_zero]); clear hK; have hs2 := src_grown hsr hg1 (by simp [Value.ownBlock]); refine wpZ_ready (rs := [6]) (by kernel_rfl) (by simp) (AllZ.cons rfl (fun K hK => ?_) AllZ.nil); refine step_app (.tmp 55) (.tmp 57) (v := v1) E_sum (by rfl) (by rfl) (by rfl) (by rfl) V.heap.size L1.length 1 (flatC sumCells L1) [.string name, .int .i64 pence, .int .i64 fo2] (by first | exact ho1 | exact ho1.alloc _) hs2 (by omega) (by decide) (by first | omega | (simp [drew_heap] <;> omega)) ?_; intro v2 V2 ho2 hg2 _; (have hB2 : Below V.heap.size V V2 := app_grown (by (repeat' (first | assumption | exact Below.refl _ _ | refine Below.drew ?_ | refine Below.alloc ?_ (by first | omega | (simp <;> omega)) _))) (by first | exact ho1 | exact ho1.alloc _) hg2); (rw [sum_snoc, ← htk.out] at ho2); (have e2 : L1.length + 1 = L2.length := by rw [htk.out]; simp); (rw [e2] at ho2); clear e2; (obtain ⟨-, a9, c9, rfl, hs9, -⟩ := sums_own ho2); (have hc2 : V2.heap[w.heap.size + 1 + 1]? = _ := (hB2.block _ zoV).trans hVo); have hHeld2 := SF.out _ hB2; refine hK.out _ _ (fun _ => hHeld2) ?_; (try simp only [Act.put, List.getElem_toArray, List.getElem_cons_succ, List.getElem_cons_zero, List.setIfInBounds_toArray, List.set_cons_succ, List.set_cons_zero]); clear hK; (refine wpZ_take (i := 7) (v := ?_) rfl (by kernel_rfl) (by kernel_rfl) (by kernel_rfl) (by kernel_rfl) (fun _ _ _ h => h) (Or.inl ⟨by kernel_rfl, ?_⟩) (by assumption) ?_; rotate_left 1; (focus (intro w hSw; (try dsimp only at hSw); go_simp; first | done | with_reducible rfl)); simp only [Act.put, List.getElem_toArray, List.getElem_cons_succ, List.getElem_cons_zero, List.setIfInBounds_toArray, List.set_cons_succ, List.set_cons_zero]); have k2 : V2.cell? ⟨w.heap.size + 1 + 1, 1, none⟩ = some (.slice az' L1.length cz') := blk_cell 1 hc2 rfl; have k3 := blk_free 1 hc2; have zo2 := lt_of_block hc2; refine wpZ_ready (rs := [8]) (by kernel_rfl) (by simp) (AllZ.cons rfl (fun K hK => ?_) AllZ.nil); (go_simp; refine hK.out _ _ (fun h => absurd rfl h) ?_; (try simp only [Act.put, List.getElem_toArray, List.getElem_cons_succ, List.getElem_cons_zero, List.setIfInBounds_toArray, List.set_cons_succ, List.set_cons_zero]); clear hK; refine wpZ_done (by kernel_rfl) ?_ _))))); rotate_left 2; (focus ((go_simp; refine hK.out _ _ (fun _ => SF.out _ (by (repeat' (first | assumption | exact Below.refl _ _ | refine Below.drew ?_ | refine Below.alloc ?_ (by first | omega | (simp <;> omega)) _)))) ?_; (try simp only [Act.put, List.getElem_toArray, List.getElem_cons_succ, List.getElem_cons_zero, List.setIfInBounds_toArray, List.set_cons_succ, List.set_cons_zero]); clear hK); refine wpZ_ready (rs := [0]) (by kernel_rfl) (by simp) (AllZ.cons rfl (fun K hK => ?_) AllZ.nil); (go_simp; refine hK.out _ _ (fun _ => SF.out _ (by (repeat' (first | assumption | exact Below.refl _ _ | refine Below.drew ?_ | refine Below.alloc ?_ (by first | omega | (simp <;> omega)) _)))) ?_; (try simp only [Act.put, List.getElem_toArray, List.getElem_cons_succ, List.getElem_cons_zero, List.setIfInBounds_toArray, List.set_cons_succ, List.set_cons_zero]); clear hK); refine wpZ_ready (rs := [3]) (by kernel_rfl) (by simp) (AllZ.cons rfl (fun K hK => ?_) AllZ.nil); have hm0 : (((V.alloc (.cells #[.string name, .int .i64 pence, .int .i64 fo2] 73)).alloc (.cells #[] 73)).drew).ownsRow V.heap.size 73 3 (.slice (some ⟨V.heap.size + 1, 0, none⟩) 0 0) 0 [] := (by have h := (made_row2 (B := V.heap.size) (W := V.alloc (.cells #[.string name, .int .i64 pence, .int .i64 fo2] 73)) (by simp) 73 3).drew; rwa [show (V.alloc (.cells #[.string name, .int .i64 pence, .int .i64 fo2] 73)).heap.size = V.heap.size + 1 from by simp] at h); have hsr : SrcAt (((V.alloc (.cells #[.string name, .int .i64 pence, .int .i64 fo2] 73)).alloc (.cells #[] 73)).drew) (.slice (some ⟨V.heap.size, 0, none⟩) 1 1) 1 3 [.string name, .int .i64 pence, .int .i64 fo2] := (SrcAt.sum V name pence fo2 73).below (below_drew' (al_on _ _)); refine step_app (.tmp 52) (.tmp 54) (v := .slice (some ⟨V.heap.size + 1, 0, none⟩) 0 0) E_sum (by rfl) (by rfl) (by rfl) (by rfl) V.heap.size 0 L1.length [] (flatC sumCells L1) hm0 (SrcAt.sums hsz.2.2 (hzV.mono (by (repeat' (first | assumption | exact Below.refl _ _ | refine Below.drew ?_ | refine Below.alloc ?_ (by first | omega | (simp <;> omega)) _))))) (by omega) (by decide) (by first | omega | (simp [drew_heap] <;> omega)) ?_; intro v1 V1 ho1 hg1 _; (have hB1 : Below V.heap.size V V1 := app_grown (by (repeat' (first | assumption | exact Below.refl _ _ | refine Below.drew ?_ | refine Below.alloc ?_ (by first | omega | (simp <;> omega)) _))) hm0 hg1); (rw [Nat.zero_add, List.nil_append] at ho1); have hz1v := hB1.size; refine hK.out _ _ (fun _ => SF.out _ hB1) ?_; (try simp only [Act.put, List.getElem_toArray, List.getElem_cons_succ, List.getElem_cons_zero, List.setIfInBounds_toArray, List.set_cons_succ, List.set_cons_zero]); clear hK; have hs2 := src_grown hsr hg1 (by simp [Value.ownBlock]); refine wpZ_ready (rs := [6]) (by kernel_rfl) (by simp) (AllZ.cons rfl (fun K hK => ?_) AllZ.nil); refine step_app (.tmp 55) (.tmp 57) (v := v1) E_sum (by rfl) (by rfl) (by rfl) (by rfl) V.heap.size L1.length 1 (flatC sumCells L1) [.string name, .int .i64 pence, .int .i64 fo2] (by first | exact ho1 | exact ho1.alloc _) hs2 (by omega) (by decide) (by first | omega | (simp [drew_heap] <;> omega)) ?_; intro v2 V2 ho2 hg2 _; (have hB2 : Below V.heap.size V V2 := app_grown (by (repeat' (first | assumption | exact Below.refl _ _ | refine Below.drew ?_ | refine Below.alloc ?_ (by first | omega | (simp <;> omega)) _))) (by first | exact ho1 | exact ho1.alloc _) hg2); (rw [sum_snoc, ← htk.out] at ho2); (have e2 : L1.length + 1 = L2.length := by rw [htk.out]; simp); (rw [e2] at ho2); clear e2; (obtain ⟨-, a9, c9, rfl, hs9, -⟩ := sums_own ho2); (have hc2 : V2.heap[w.heap.size + 1 + 1]? = _ := (hB2.block _ zoV).trans hVo); have hHeld2 := SF.out _ hB2; refine hK.out _ _ (fun _ => hHeld2) ?_; (try simp only [Act.put, List.getElem_toArray, List.getElem_cons_succ, List.getElem_cons_zero, List.setIfInBounds_toArray, List.set_cons_succ, List.set_cons_zero]); clear hK; (refine wpZ_take (i := 7) (v := ?_) rfl (by kernel_rfl) (by kernel_rfl) (by kernel_rfl) (by kernel_rfl) (fun _ _ _ h => h) (Or.inl ⟨by kernel_rfl, ?_⟩) (by assumption) ?_; rotate_left 1; (focus (intro w hSw; (try dsimp only at hSw); go_simp; first | done | with_reducible rfl)); simp only [Act.put, List.getElem_toArray, List.getElem_cons_succ, List.getElem_cons_zero, List.setIfInBounds_toArray, List.set_cons_succ, List.set_cons_zero]); have k2 : V2.cell? ⟨w.heap.size + 1 + 1, 1, none⟩ = some (.slice az' L1.length cz') := blk_cell 1 hc2 rfl; have k3 := blk_free 1 hc2; have zo2 := lt_of_block hc2; refine wpZ_ready (rs := [8]) (by kernel_rfl) (by simp) (AllZ.cons rfl (fun K hK => ?_) AllZ.nil); (go_simp; refine hK.out _ _ (fun h => absurd rfl h) ?_; (try simp only [Act.put, List.getElem_toArray, List.getElem_cons_succ, List.getElem_cons_zero, List.setIfInBounds_toArray, List.set_cons_succ, List.set_cons_zero]); clear hK; refine wpZ_done (by kernel_rfl) ?_ _)))
          all_goals
            go_wp2
            go_roundw
            case rel =>
              refine ⟨k + 1, a9, c9, by omega, by go_num, ?_, ?_, ?_, ?_, ?_, ?_, ?_, ?_, ?_⟩
              · rw [hts.out]
                have h := ownsRow_setCell_other (own_below hot hB2) (a := ⟨w.heap.size + 1 + 1, 1, none⟩) (fun e => by have h1 := (hot.lt _ e).1; simp only at h1; omega) (.slice a9 L2.length c9)
                simpa using h
              · exact (Below.heap_setCell _ _ _ _ (by simp <;> omega)).trans ((hB2.block _ (by omega)).trans hV0)
              · exact (Below.heap_setCell _ _ _ _ (by simp <;> omega)).trans ((hB2.block _ (by omega)).trans hV1)
              · rw [hL2]; exact blk_set 1 _ hc2
              · rw [hL2]; exact hs9
              · rw [hL2]
                have h := ownsRow_setCell_other ho2 (a := ⟨w.heap.size + 1 + 1, 1, none⟩) (fun e => by have h1 := (ho2.lt _ e).1; simp only at h1; omega) (.slice a9 L2.length c9)
                obtain ⟨_, a8, c8, e8, _, hw8⟩ := sums_own h
                cases e8
                exact hw8
              · intro ad e he
                have h1 := (ho2.lt ad.block (by subst e; rfl)).1
                have h2 := (hot.lt _ he.symm).2
                omega
              · exact (hBwV.trans (hB2.mono hBwV.size)).setCell (by simp <;> omega) _
              · have h1 := hB2.size
                simp
                omega
            case measure => simp [intOf]; omega
    · obtain rfl : k = m.sums.length := by omega
      have hTe : tellTo m.claimants.length xs m.sums.length = T := hT.out.symm
      have hSe : (toldS m T).take m.sums.length = toldS m T := List.take_of_length_le (by rw [toldS_len]; omega)
      rw [hTe] at ho
      rw [hSe] at hS2 hsz hzc
      have hsz1 := hsz
      obtain ⟨a3, c3, rfl, o3, i3⟩ := ints_ownV ho
      have hwz : w.heap.size + 3 ≤ wr.heap.size := by omega
      clear ho hap hk hlt hsz hTe hSe
      go_wp2
      clear b0 b1 zb
      go_loopw [11] (fun i wq => ∃ (k : Nat) (aw' : Option Addr) (cw' : Nat), k ≤ m.words.length ∧ i = .int .i64 k ∧ IntsC wq a3 T ∧ SumsC wq az' (toldS m T) ∧
        TOut wq w.heap.size (.slice ac m.claimants.length cc) (.slice az m.sums.length cz) (.slice aw m.words.length cw) (.slice ap m.paid.length cp) ∧ TOut wq (w.heap.size + 1) (.slice none 0 0) (.slice none 0 0) (.slice none 0 0) (.slice none 0 0) ∧
        TOut wq (w.heap.size + 1 + 1) (.slice ac m.claimants.length cc) (.slice az' (toldS m T).length cz') (.slice aw' ((toldW m T).take k).length cw') (.slice ap m.paid.length cp) ∧ SlOk aw' ((toldW m T).take k).length cw' ∧ WordsC wq aw' ((toldW m T).take k) ∧ Below w.heap.size w wq ∧ w.heap.size + 3 ≤ wq.heap.size) (fun i _ => m.words.length - (intOf i).toNat)
      case atStart => exact ⟨0, none, 0, Nat.zero_le _, rfl, i3, hzc, hS0, hS1, hS2, ⟨Nat.le_refl _, by omega, fun _ => rfl⟩, fun i hi => absurd hi (Nat.not_lt_zero i), hB, hwz⟩
      case round =>
        clear hS0 hS1 hS2 hzc hB hZ hwz
        replace i3 := Lib.hid i3
        clear i3
        obtain ⟨k, aw', cw', hk, rfl, i3, hzc, hS0, hS1, hS2, hsz, hwc, hB, hwz⟩ := hrel
        rename World => U
        have b2 : U.cell? ⟨w.heap.size, 2, none⟩ = some (.slice aw m.words.length cw) := blk_cell 2 hS0 rfl
        have zb := lt_of_block hS0
        by_cases hlt : k < m.words.length
        · have htk := Lib.hid (toldW_succ m T k hlt)
          obtain ⟨bw, ow, haw, hbw, g0, g1, g2, g3, g4⟩ := (hm.mono hB).words k hlt
          have hvw := hv.words k hlt
          have htw : Hid (toldWord T m.words[k] = if so m.words[k] T then m.words[k] else { m.words[k] with says := flipSays m.words[k].says }) := rfl
          have SC := Lib.hid (fun (W : World) (h : IntsC W a3 T) => So7_any m.words[k] a3 T c3 W o3.len h hvw.sum.1 (fun h2 => (hvw.of2 h2).1) hvw.says)
          have hys := hvw.says
          generalize toldWord T m.words[k] = sv at htk htw
          clear hvw
          generalize m.words[k] = y at g0 g1 g2 g3 g4 htw SC hys
          obtain ⟨says, sum, of, back, came⟩ := y
          simp only at g0 g1 g2 g3 g4 htw SC hys
          subst haw
          generalize so ⟨says, sum, of, back, came⟩ T = sb at SC htw
          go_upto_region 17 with (fail)
          obtain ⟨Y, hY⟩ : ∃ Y : World, Y = U.alloc (.cells #[.int .i64 says, .int .i64 sum, .int .i64 of, .int .i64 back, .bool came] 70) := ⟨_, rfl⟩
          rw [← hY]
          have HbY : Below U.heap.size U Y := by rw [hY]; exact (Below.refl _ _).alloc (Nat.le_refl _) _
          have hYs : Y.heap[U.heap.size]? = some (.cells #[.int .i64 says, .int .i64 sum, .int .i64 of, .int .i64 back, .bool came] 70 (0, 0)) := by rw [hY]; exact alloc_at _ _ rfl
          clear hY
          have s0 := s5_keep hYs
          have i3Y := i3.mono HbY
          obtain ⟨says2, hsa⟩ : ∃ says2, says2 = (if sb = true then says else flipSays says) := ⟨_, rfl⟩
          replace htw : Hid (sv = ⟨says2, sum, of, back, came⟩) := Lib.hid (by rw [htw.out, hsa]; cases sb <;> rfl)
          go_upto_if 75 with (go_at_call 92; (with_reducible refine (SC.out _ i3Y).mono ?_); rintro e w4 ⟨rfl, hb⟩; replace hYs := blk_below hb (lt_of_block hYs) hYs; replace HbY := HbY.trans (hb.mono HbY.size); replace s0 := s5_keep hYs; dsimp only)
          go_cut [] (fun W => Below U.heap.size U W ∧ W.heap[U.heap.size]? = some (.cells #[.int .i64 says2, .int .i64 sum, .int .i64 of, .int .i64 back, .bool came] 70 (0, 0)))
          case first =>
            cases sb
            · simp only [Bool.false_eq_true, if_false] at hsa
              have f0 := blk_free 0 hYs
              have hc' : says = 0 ∨ says = 1 ∨ says = 2 ∨ says = 3 := by omega
              rcases hc' with rfl | rfl | rfl | rfl
              all_goals
                go_wp2
                go_meet
                case rel =>
                  refine ⟨?_, ?_⟩
                  · (repeat' (first | assumption | exact Below.refl _ _ | refine Below.drew ?_ | refine Below.setCell ?_ (by simp <;> omega) _ | refine Below.alloc ?_ (by first | omega | (simp [drew_heap] <;> omega)) _))
                  · rw [hsa]
                    first
                      | exact (heap_alloc_old _ _ (by simpa using lt_of_block hYs)).trans (blk_set 0 _ hYs)
                      | exact blk_set 0 _ ((heap_alloc_old _ _ (lt_of_block hYs)).trans hYs)
            · simp only [if_true] at hsa
              go_wp2
              go_meet
              case rel => exact ⟨HbY, by rw [hsa]; exact hYs⟩
          case rest =>
            clear HbY hYs s0 i3Y hsa b2 zb
            obtain ⟨HbV, hVs⟩ := hcut
            rename World => V
            have hVo : TOut V (w.heap.size + 1 + 1) _ _ _ _ := blk_below HbV (lt_of_block hS2) hS2
            have hV0 : TOut V w.heap.size _ _ _ _ := blk_below HbV (lt_of_block hS0) hS0
            have hV1 : TOut V (w.heap.size + 1) _ _ _ _ := blk_below HbV (lt_of_block hS1) hS1
            have hzV := hwc.mono HbV
            have i3V := i3.mono HbV
            have hzcV := hzc.mono HbV
            have hBwV : Below w.heap.size w V := hB.trans (HbV.mono hB.size)
            have hl1 : ((toldW m T).take k).length ≤ 6 := by rw [List.length_take, toldW_len]; omega
            have hVz := HbV.size
            rw [htw.out] at htk
            generalize hL2 : (toldW m T).take (k + 1) = L2 at htk
            generalize (toldW m T).take k = L1 at htk hzV hVo hsz hl1
            have zsV := lt_of_block hVs
            have zoV := lt_of_block hVo
            have k1 : V.cell? ⟨w.heap.size + 1 + 1, 2, none⟩ = some (.slice aw' L1.length cw') := blk_cell 2 hVo rfl
            clear hS0 hS1 hS2 hwc hzc i3
            have SF : Hid (∀ W, Below V.heap.size V W → Below V.heap.size V W ∧ W.cell? ⟨w.heap.size + 1 + 1, 2, none⟩ = some (.slice aw' L1.length cw') ∧ (W.cell? ⟨U.heap.size, 0, none⟩ = some (.int .i64 says2) ∧ W.cell? ⟨U.heap.size, 1, none⟩ = some (.int .i64 sum) ∧ W.cell? ⟨U.heap.size, 2, none⟩ = some (.int .i64 of) ∧ W.cell? ⟨U.heap.size, 3, none⟩ = some (.int .i64 back) ∧ W.cell? ⟨U.heap.size, 4, none⟩ = some (.bool came) ∧ U.heap.size < W.heap.size) ∧ w.heap.size + 1 + 1 < W.heap.size) := Lib.hid (fun W h => by
              have k2 := cell_below h k1
              have k3 : W.heap[U.heap.size]? = _ := (h.block _ zsV).trans hVs
              exact ⟨h, k2, s5_keep k3, lt_of_cell k2⟩)
            go_upto_region 19 with (fail)
            refine wp_region_z (fun W => Below V.heap.size V W ∧ W.cell? ⟨w.heap.size + 1 + 1, 2, none⟩ = some (.slice aw' L1.length cw') ∧ (W.cell? ⟨U.heap.size, 0, none⟩ = some (.int .i64 says2) ∧ W.cell? ⟨U.heap.size, 1, none⟩ = some (.int .i64 sum) ∧ W.cell? ⟨U.heap.size, 2, none⟩ = some (.int .i64 of) ∧ W.cell? ⟨U.heap.size, 3, none⟩ = some (.int .i64 back) ∧ W.cell? ⟨U.heap.size, 4, none⟩ = some (.bool came) ∧ U.heap.size < W.heap.size) ∧ w.heap.size + 1 + 1 < W.heap.size) 8 (by kernel_rfl) (SF.out V.drew (by (repeat' (first | assumption | exact Below.refl _ _ | refine Below.drew ?_ | refine Below.alloc ?_ (by first | omega | (simp <;> omega)) _)))) (fun hHeld => ?_)
            (refine wpZ_take (i := 1) (v := ?_) rfl (by kernel_rfl) (by kernel_rfl) (by kernel_rfl) (by kernel_rfl) (fun _ _ _ h => h) (Or.inl ⟨by kernel_rfl, ?_⟩) (by assumption) ?_; rotate_left 1; (focus (intro w hSw; (try dsimp only at hSw); go_simp; first | done | with_reducible rfl)); simp only [Act.put, List.getElem_toArray, List.getElem_cons_succ, List.getElem_cons_zero, List.setIfInBounds_toArray, List.set_cons_succ, List.set_cons_zero])
            (refine wpZ_take (i := 2) (v := ?_) rfl (by kernel_rfl) (by kernel_rfl) (by kernel_rfl) (by kernel_rfl) (fun _ _ _ h => h) (Or.inl ⟨by kernel_rfl, ?_⟩) (by assumption) ?_; rotate_left 1; (focus (intro w hSw; (try dsimp only at hSw); go_simp; first | done | with_reducible rfl)); simp only [Act.put, List.getElem_toArray, List.getElem_cons_succ, List.getElem_cons_zero, List.setIfInBounds_toArray, List.set_cons_succ, List.set_cons_zero])
            (refine wpZ_take (i := 4) (v := ?_) rfl (by kernel_rfl) (by kernel_rfl) (by kernel_rfl) (by kernel_rfl) (fun _ _ _ h => h) (Or.inl ⟨by kernel_rfl, ?_⟩) (by assumption) ?_; rotate_left 1; (focus (intro w hSw; (try dsimp only at hSw); go_simp; first | done | with_reducible rfl)); simp only [Act.put, List.getElem_toArray, List.getElem_cons_succ, List.getElem_cons_zero, List.setIfInBounds_toArray, List.set_cons_succ, List.set_cons_zero])
            refine wpZ_ready (rs := [0, 5]) (by kernel_rfl) (by simp) (AllZ.cons rfl (fun K hK => ?_) (AllZ.cons rfl (fun K hK => ?_) AllZ.nil)); (focus ((go_simp; refine hK.out _ _ (fun _ => SF.out _ (by (repeat' (first | assumption | exact Below.refl _ _ | refine Below.drew ?_ | refine Below.alloc ?_ (by first | omega | (simp <;> omega)) _)))) ?_; (try simp only [Act.put, List.getElem_toArray, List.getElem_cons_succ, List.getElem_cons_zero, List.setIfInBounds_toArray, List.set_cons_succ, List.set_cons_zero]); clear hK); refine wpZ_ready (rs := [3, 5]) (by kernel_rfl) (by simp) (AllZ.cons rfl (fun K hK => ?_) (AllZ.cons rfl (fun K hK => ?_) AllZ.nil)); (focus (have hm0 : ((V.alloc (.cells #[] 70)).drew).ownsRow V.heap.size 70 5 (.slice (some ⟨V.heap.size, 0, none⟩) 0 0) 0 [] := (made_row2 (Nat.le_refl _) _ _).drew; refine step_app (.tmp 82) (.tmp 84) (v := .slice (some ⟨V.heap.size, 0, none⟩) 0 0) E_word (by rfl) (by rfl) (by rfl) (by rfl) V.heap.size 0 L1.length [] (wordsFlat L1) hm0 (SrcAt.words hsz.2.2 (hzV.mono (by (repeat' (first | assumption | exact Below.refl _ _ | refine Below.drew ?_ | refine Below.alloc ?_ (by first | omega | (simp <;> omega)) _))))) (by omega) (by decide) (by first | omega | (simp [drew_heap] <;> omega)) ?_; intro v1 V1 ho1 hg1 _; (have hB1 : Below V.heap.size V V1 := app_grown (by (repeat' (first | assumption | exact Below.refl _ _ | refine Below.drew ?_ | refine Below.alloc ?_ (by first | omega | (simp <;> omega)) _))) hm0 hg1); (rw [Nat.zero_add, List.nil_append] at ho1); have hz1v := hB1.size; refine hK.out _ _ (fun _ => SF.out _ hB1) ?_; (try simp only [Act.put, List.getElem_toArray, List.getElem_cons_succ, List.getElem_cons_zero, List.setIfInBounds_toArray, List.set_cons_succ, List.set_cons_zero]); clear hK; refine wpZ_ready (rs := [5]) (by kernel_rfl) (by simp) (AllZ.cons rfl (fun K hK => ?_) AllZ.nil); (go_simp; refine hK.out _ _ (fun _ => SF.out _ (by (repeat' (first | assumption | exact Below.refl _ _ | refine Below.drew ?_ | refine Below.alloc ?_ (by first | omega | (simp <;> omega)) _)))) ?_; (try simp only [Act.put, List.getElem_toArray, List.getElem_cons_succ, List.getElem_cons_zero, List.setIfInBounds_toArray, List.set_cons_succ, List.set_cons_zero]); clear hK); have hs2 := SrcAt.word V1 says2 sum of back came 70; refine wpZ_ready (rs := [6]) (by kernel_rfl) (by simp) (AllZ.cons rfl (fun K hK => ?_) AllZ.nil); refine step_app (.tmp 85) (.tmp 87) (v := v1) E_word (by rfl) (by rfl) (by rfl) (by rfl) V.heap.size L1.length 1 (wordsFlat L1) [.int .i64 says2, .int .i64 sum, .int .i64 of, .int .i64 back, .bool came] (by first | exact ho1 | exact ho1.alloc _) hs2 (by omega) (by decide) (by first | omega | (simp [drew_heap] <;> omega)) ?_; intro v2 V2 ho2 hg2 _; (have hB2 : Below V.heap.size V V2 := app_grown (by (repeat' (first | assumption | exact Below.refl _ _ | refine Below.drew ?_ | refine Below.alloc ?_ (by first | omega | (simp <;> omega)) _))) (by first | exact ho1 | exact ho1.alloc _) hg2); (rw [words_snoc, ← htk.out] at ho2); (have e2 : L1.length + 1 = L2.length := by rw [htk.out]; simp); (rw [e2] at ho2); clear e2; (obtain ⟨-, a9, c9, rfl, hs9, -⟩ := words_own ho2); (have hc2 : V2.heap[w.heap.size + 1 + 1]? = _ := (hB2.block _ zoV).trans hVo); have hHeld2 := SF.out _ hB2; refine hK.out _ _ (fun _ => hHeld2) ?_; (try simp only [Act.put, List.getElem_toArray, List.getElem_cons_succ, List.getElem_cons_zero, List.setIfInBounds_toArray, List.set_cons_succ, List.set_cons_zero]); clear hK; (refine wpZ_take (i := 7) (v := ?_) rfl (by kernel_rfl) (by kernel_rfl) (by kernel_rfl) (by kernel_rfl) (fun _ _ _ h => h) (Or.inl ⟨by kernel_rfl, ?_⟩) (by assumption) ?_; rotate_left 1; (focus (intro w hSw; (try dsimp only at hSw); go_simp; first | done | with_reducible rfl)); simp only [Act.put, List.getElem_toArray, List.getElem_cons_succ, List.getElem_cons_zero, List.setIfInBounds_toArray, List.set_cons_succ, List.set_cons_zero]); have k2 : V2.cell? ⟨w.heap.size + 1 + 1, 2, none⟩ = some (.slice aw' L1.length cw') := blk_cell 2 hc2 rfl; have k3 := blk_free 2 hc2; have zo2 := lt_of_block hc2; refine wpZ_ready (rs := [8]) (by kernel_rfl) (by simp) (AllZ.cons rfl (fun K hK => ?_) AllZ.nil); (go_simp; refine hK.out _ _ (fun h => absurd rfl h) ?_; (try simp only [Act.put, List.getElem_toArray, List.getElem_cons_succ, List.getElem_cons_zero, List.setIfInBounds_toArray, List.set_cons_succ, List.set_cons_zero]); clear hK; refine wpZ_done (by kernel_rfl) ?_ _))); rotate_left 1; (focus ((go_simp; refine hK.out _ _ (fun _ => SF.out _ (by (repeat' (first | assumption | exact Below.refl _ _ | refine Below.drew ?_ | refine Below.alloc ?_ (by first | omega | (simp <;> omega)) _)))) ?_; (try simp only [Act.put, List.getElem_toArray, List.getElem_cons_succ, List.getElem_cons_zero, List.setIfInBounds_toArray, List.set_cons_succ, List.set_cons_zero]); clear hK); refine wpZ_ready (rs := [3]) (by kernel_rfl) (by simp) (AllZ.cons rfl (fun K hK => ?_) AllZ.nil); have hm0 : (((V.alloc (.cells #[] 70)).alloc (.cells #[.int .i64 says2, .int .i64 sum, .int .i64 of, .int .i64 back, .bool came] 70)).drew).ownsRow V.heap.size 70 5 (.slice (some ⟨V.heap.size, 0, none⟩) 0 0) 0 [] := ((made_row2 (Nat.le_refl _) _ _).alloc _).drew; have hsr : SrcAt (((V.alloc (.cells #[] 70)).alloc (.cells #[.int .i64 says2, .int .i64 sum, .int .i64 of, .int .i64 back, .bool came] 70)).drew) (.slice (some ⟨V.heap.size + 1, 0, none⟩) 1 1) 1 5 [.int .i64 says2, .int .i64 sum, .int .i64 of, .int .i64 back, .bool came] := (by have h := (SrcAt.word (V.alloc (.cells #[] 70)) says2 sum of back came 70).below (below_drew' (Below.refl _ _)); rwa [show (V.alloc (.cells #[] 70)).heap.size = V.heap.size + 1 from by simp] at h); refine step_app (.tmp 82) (.tmp 84) (v := .slice (some ⟨V.heap.size, 0, none⟩) 0 0) E_word (by rfl) (by rfl) (by rfl) (by rfl) V.heap.size 0 L1.length [] (wordsFlat L1) hm0 (SrcAt.words hsz.2.2 (hzV.mono (by (repeat' (first | assumption | exact Below.refl _ _ | refine Below.drew ?_ | refine Below.alloc ?_ (by first | omega | (simp <;> omega)) _))))) (by omega) (by decide) (by first | omega | (simp [drew_heap] <;> omega)) ?_; intro v1 V1 ho1 hg1 _; (have hB1 : Below V.heap.size V V1 := app_grown (by (repeat' (first | assumption | exact Below.refl _ _ | refine Below.drew ?_ | refine Below.alloc ?_ (by first | omega | (simp <;> omega)) _))) hm0 hg1); (rw [Nat.zero_add, List.nil_append] at ho1); have hz1v := hB1.size; refine hK.out _ _ (fun _ => SF.out _ hB1) ?_; (try simp only [Act.put, List.getElem_toArray, List.getElem_cons_succ, List.getElem_cons_zero, List.setIfInBounds_toArray, List.set_cons_succ, List.set_cons_zero]); clear hK; have hs2 := src_grown hsr hg1 (by simp [Value.ownBlock]); refine wpZ_ready (rs := [6]) (by kernel_rfl) (by simp) (AllZ.cons rfl (fun K hK => ?_) AllZ.nil); refine step_app (.tmp 85) (.tmp 87) (v := v1) E_word (by rfl) (by rfl) (by rfl) (by rfl) V.heap.size L1.length 1 (wordsFlat L1) [.int .i64 says2, .int .i64 sum, .int .i64 of, .int .i64 back, .bool came] (by first | exact ho1 | exact ho1.alloc _) hs2 (by omega) (by decide) (by first | omega | (simp [drew_heap] <;> omega)) ?_; intro v2 V2 ho2 hg2 _; (have hB2 : Below V.heap.size V V2 := app_grown (by (repeat' (first | assumption | exact Below.refl _ _ | refine Below.drew ?_ | refine Below.alloc ?_ (by first | omega | (simp <;> omega)) _))) (by first | exact ho1 | exact ho1.alloc _) hg2); (rw [words_snoc, ← htk.out] at ho2); (have e2 : L1.length + 1 = L2.length := by rw [htk.out]; simp); (rw [e2] at ho2); clear e2; (obtain ⟨-, a9, c9, rfl, hs9, -⟩ := words_own ho2); (have hc2 : V2.heap[w.heap.size + 1 + 1]? = _ := (hB2.block _ zoV).trans hVo); have hHeld2 := SF.out _ hB2; refine hK.out _ _ (fun _ => hHeld2) ?_; (try simp only [Act.put, List.getElem_toArray, List.getElem_cons_succ, List.getElem_cons_zero, List.setIfInBounds_toArray, List.set_cons_succ, List.set_cons_zero]); clear hK; (refine wpZ_take (i := 7) (v := ?_) rfl (by kernel_rfl) (by kernel_rfl) (by kernel_rfl) (by kernel_rfl) (fun _ _ _ h => h) (Or.inl ⟨by kernel_rfl, ?_⟩) (by assumption) ?_; rotate_left 1; (focus (intro w hSw; (try dsimp only at hSw); go_simp; first | done | with_reducible rfl)); simp only [Act.put, List.getElem_toArray, List.getElem_cons_succ, List.getElem_cons_zero, List.setIfInBounds_toArray, List.set_cons_succ, List.set_cons_zero]); have k2 : V2.cell? ⟨w.heap.size + 1 + 1, 2, none⟩ = some (.slice aw' L1.length cw') := blk_cell 2 hc2 rfl; have k3 := blk_free 2 hc2; have zo2 := lt_of_block hc2; refine wpZ_ready (rs := [8]) (by kernel_rfl) (by simp) (AllZ.cons rfl (fun K hK => ?_) AllZ.nil); (go_simp; refine hK.out _ _ (fun h => absurd rfl h) ?_; (try simp only [Act.put, List.getElem_toArray, List.getElem_cons_succ, List.getElem_cons_zero, List.setIfInBounds_toArray, List.set_cons_succ, List.set_cons_zero]); clear hK; refine wpZ_done (by kernel_rfl) ?_ _))))); rotate_left 2; (focus ((go_simp; refine hK.out _ _ (fun _ => SF.out _ (by (repeat' (first | assumption | exact Below.refl _ _ | refine Below.drew ?_ | refine Below.alloc ?_ (by first | omega | (simp <;> omega)) _)))) ?_; (try simp only [Act.put, List.getElem_toArray, List.getElem_cons_succ, List.getElem_cons_zero, List.setIfInBounds_toArray, List.set_cons_succ, List.set_cons_zero]); clear hK); refine wpZ_ready (rs := [0]) (by kernel_rfl) (by simp) (AllZ.cons rfl (fun K hK => ?_) AllZ.nil); (go_simp; refine hK.out _ _ (fun _ => SF.out _ (by (repeat' (first | assumption | exact Below.refl _ _ | refine Below.drew ?_ | refine Below.alloc ?_ (by first | omega | (simp <;> omega)) _)))) ?_; (try simp only [Act.put, List.getElem_toArray, List.getElem_cons_succ, List.getElem_cons_zero, List.setIfInBounds_toArray, List.set_cons_succ, List.set_cons_zero]); clear hK); refine wpZ_ready (rs := [3]) (by kernel_rfl) (by simp) (AllZ.cons rfl (fun K hK => ?_) AllZ.nil); have hm0 : (((V.alloc (.cells #[.int .i64 says2, .int .i64 sum, .int .i64 of, .int .i64 back, .bool came] 70)).alloc (.cells #[] 70)).drew).ownsRow V.heap.size 70 5 (.slice (some ⟨V.heap.size + 1, 0, none⟩) 0 0) 0 [] := (by have h := (made_row2 (B := V.heap.size) (W := V.alloc (.cells #[.int .i64 says2, .int .i64 sum, .int .i64 of, .int .i64 back, .bool came] 70)) (by simp) 70 5).drew; rwa [show (V.alloc (.cells #[.int .i64 says2, .int .i64 sum, .int .i64 of, .int .i64 back, .bool came] 70)).heap.size = V.heap.size + 1 from by simp] at h); have hsr : SrcAt (((V.alloc (.cells #[.int .i64 says2, .int .i64 sum, .int .i64 of, .int .i64 back, .bool came] 70)).alloc (.cells #[] 70)).drew) (.slice (some ⟨V.heap.size, 0, none⟩) 1 1) 1 5 [.int .i64 says2, .int .i64 sum, .int .i64 of, .int .i64 back, .bool came] := (SrcAt.word V says2 sum of back came 70).below (below_drew' (al_on _ _)); refine step_app (.tmp 82) (.tmp 84) (v := .slice (some ⟨V.heap.size + 1, 0, none⟩) 0 0) E_word (by rfl) (by rfl) (by rfl) (by rfl) V.heap.size 0 L1.length [] (wordsFlat L1) hm0 (SrcAt.words hsz.2.2 (hzV.mono (by (repeat' (first | assumption | exact Below.refl _ _ | refine Below.drew ?_ | refine Below.alloc ?_ (by first | omega | (simp <;> omega)) _))))) (by omega) (by decide) (by first | omega | (simp [drew_heap] <;> omega)) ?_; intro v1 V1 ho1 hg1 _; (have hB1 : Below V.heap.size V V1 := app_grown (by (repeat' (first | assumption | exact Below.refl _ _ | refine Below.drew ?_ | refine Below.alloc ?_ (by first | omega | (simp <;> omega)) _))) hm0 hg1); (rw [Nat.zero_add, List.nil_append] at ho1); have hz1v := hB1.size; refine hK.out _ _ (fun _ => SF.out _ hB1) ?_; (try simp only [Act.put, List.getElem_toArray, List.getElem_cons_succ, List.getElem_cons_zero, List.setIfInBounds_toArray, List.set_cons_succ, List.set_cons_zero]); clear hK; have hs2 := src_grown hsr hg1 (by simp [Value.ownBlock]); refine wpZ_ready (rs := [6]) (by kernel_rfl) (by simp) (AllZ.cons rfl (fun K hK => ?_) AllZ.nil); refine step_app (.tmp 85) (.tmp 87) (v := v1) E_word (by rfl) (by rfl) (by rfl) (by rfl) V.heap.size L1.length 1 (wordsFlat L1) [.int .i64 says2, .int .i64 sum, .int .i64 of, .int .i64 back, .bool came] (by first | exact ho1 | exact ho1.alloc _) hs2 (by omega) (by decide) (by first | omega | (simp [drew_heap] <;> omega)) ?_; intro v2 V2 ho2 hg2 _; (have hB2 : Below V.heap.size V V2 := app_grown (by (repeat' (first | assumption | exact Below.refl _ _ | refine Below.drew ?_ | refine Below.alloc ?_ (by first | omega | (simp <;> omega)) _))) (by first | exact ho1 | exact ho1.alloc _) hg2); (rw [words_snoc, ← htk.out] at ho2); (have e2 : L1.length + 1 = L2.length := by rw [htk.out]; simp); (rw [e2] at ho2); clear e2; (obtain ⟨-, a9, c9, rfl, hs9, -⟩ := words_own ho2); (have hc2 : V2.heap[w.heap.size + 1 + 1]? = _ := (hB2.block _ zoV).trans hVo); have hHeld2 := SF.out _ hB2; refine hK.out _ _ (fun _ => hHeld2) ?_; (try simp only [Act.put, List.getElem_toArray, List.getElem_cons_succ, List.getElem_cons_zero, List.setIfInBounds_toArray, List.set_cons_succ, List.set_cons_zero]); clear hK; (refine wpZ_take (i := 7) (v := ?_) rfl (by kernel_rfl) (by kernel_rfl) (by kernel_rfl) (by kernel_rfl) (fun _ _ _ h => h) (Or.inl ⟨by kernel_rfl, ?_⟩) (by assumption) ?_; rotate_left 1; (focus (intro w hSw; (try dsimp only at hSw); go_simp; first | done | with_reducible rfl)); simp only [Act.put, List.getElem_toArray, List.getElem_cons_succ, List.getElem_cons_zero, List.setIfInBounds_toArray, List.set_cons_succ, List.set_cons_zero]); have k2 : V2.cell? ⟨w.heap.size + 1 + 1, 2, none⟩ = some (.slice aw' L1.length cw') := blk_cell 2 hc2 rfl; have k3 := blk_free 2 hc2; have zo2 := lt_of_block hc2; refine wpZ_ready (rs := [8]) (by kernel_rfl) (by simp) (AllZ.cons rfl (fun K hK => ?_) AllZ.nil); (go_simp; refine hK.out _ _ (fun h => absurd rfl h) ?_; (try simp only [Act.put, List.getElem_toArray, List.getElem_cons_succ, List.getElem_cons_zero, List.setIfInBounds_toArray, List.set_cons_succ, List.set_cons_zero]); clear hK; refine wpZ_done (by kernel_rfl) ?_ _)))
            all_goals
              go_wp2
              go_roundw
              case rel =>
                have hz2 : V2.heap.size ≤ (V2.setCell ⟨w.heap.size + 1 + 1, 2, none⟩ (.slice a9 L2.length c9)).heap.size := by simp
                refine ⟨k + 1, a9, c9, by omega, by go_num, ?_, ?_, ?_, ?_, ?_, ?_, ?_, ?_, ?_⟩
                · exact (i3V.mono hB2).set hc2 (fun b hb => Below.heap_setCell _ _ _ _ hb) hz2
                · exact (hzcV.mono hB2).set hc2 (fun b hb => Below.heap_setCell _ _ _ _ hb) hz2
                · exact (Below.heap_setCell _ _ _ _ (by simp <;> omega)).trans ((hB2.block _ (by omega)).trans hV0)
                · exact (Below.heap_setCell _ _ _ _ (by simp <;> omega)).trans ((hB2.block _ (by omega)).trans hV1)
                · rw [hL2]; exact blk_set 2 _ hc2
                · rw [hL2]; exact hs9
                · rw [hL2]
                  have h := ownsRow_setCell_other ho2 (a := ⟨w.heap.size + 1 + 1, 2, none⟩) (fun e => by have h1 := (ho2.lt _ e).1; simp only at h1; omega) (.slice a9 L2.length c9)
                  obtain ⟨_, a8, c8, e8, _, hw8⟩ := words_own h
                  cases e8
                  exact hw8
                · exact (hBwV.trans (hB2.mono hBwV.size)).setCell (by simp <;> omega) _
                · have h1 := hB2.size
                  simp
                  omega
              case measure => simp [intOf]; omega
        · obtain rfl : k = m.words.length := by omega
          have hWe : (toldW m T).take m.words.length = toldW m T := List.take_of_length_le (by rw [toldW_len]; omega)
          rw [hWe] at hS2 hsz hwc
          have e0 : U.cell? ⟨w.heap.size + 1 + 1, 0, none⟩ = _ := blk_cell 0 hS2 rfl
          have e1 : U.cell? ⟨w.heap.size + 1 + 1, 1, none⟩ = _ := blk_cell 1 hS2 rfl
          have e2 : U.cell? ⟨w.heap.size + 1 + 1, 2, none⟩ = _ := blk_cell 2 hS2 rfl
          have e3 : U.cell? ⟨w.heap.size + 1 + 1, 3, none⟩ = _ := blk_cell 3 hS2 rfl
          have d0 : U.cell? ⟨w.heap.size + 1, 0, none⟩ = _ := blk_cell 0 hS1 rfl
          have d1 : U.cell? ⟨w.heap.size + 1, 1, none⟩ = _ := blk_cell 1 hS1 rfl
          have d2 : U.cell? ⟨w.heap.size + 1, 2, none⟩ = _ := blk_cell 2 hS1 rfl
          have d3 : U.cell? ⟨w.heap.size + 1, 3, none⟩ = _ := blk_cell 3 hS1 rfl
          have f0 := blk_free 0 hS1
          have f1 := blk_free 1 hS1
          have f2 := blk_free 2 hS1
          have f3 := blk_free 3 hS1
          have z1 := lt_of_block hS1
          have z2 := lt_of_block hS2
          clear hk hlt hWe
          go_wp2
          (try simp only [Exit.inBlock, Exit.then])
          refine bodyPost_ret (v := .tuple #[.agg #[.slice ac m.claimants.length cc, .slice az' (toldS m T).length cz', .slice aw' (toldW m T).length cw', .slice ap m.paid.length cp], .slice a3 T.length c3]) ?_ rfl ⟨az', aw', cz', cw', a3, c3, rfl, ?_, o3, ?_, ?_⟩
          · rw [results_cell_tmp rfl]
            go_simp
          · have hY := hm.mono hB
            have hh : ∀ b, b ≠ w.heap.size + 1 → ((((U.setCell ⟨w.heap.size + 1, 0, none⟩ (.slice ac m.claimants.length cc)).setCell ⟨w.heap.size + 1, 1, none⟩ (.slice az' (toldS m T).length cz')).setCell ⟨w.heap.size + 1, 2, none⟩ (.slice aw' (toldW m T).length cw')).setCell ⟨w.heap.size + 1, 3, none⟩ (.slice ap m.paid.length cp)).heap[b]? = U.heap[b]? := fun b hb => set4_far hb
            refine ⟨hm.okc, hsz1, hsz, hm.okp, hY.claimants.set hS1 hh (by simp), hzc.set hS1 hh (by simp), hwc.set hS1 hh (by simp), hY.paid.set hS1 hh (by simp), hm.csize, fun s hs => ?_⟩
            obtain ⟨i, hi, rfl⟩ := List.getElem_of_mem hs
            have hi2 : i < m.sums.length := by simpa [told] using hi
            have e : (told m T m.paid).sums[i].name = m.sums[i].name := by simp [told, toldSum]
            rw [e]
            exact hm.zsize _ (List.getElem_mem hi2)
          · exact i3.set hS1 (fun b hb => set4_far hb) (by simp)
          · exact (((hB.setCell (by simp) _).setCell (by simp) _).setCell (by simp) _).setCell (by simp) _
end Go.Proofs.Ytnlolliankhfmaa
