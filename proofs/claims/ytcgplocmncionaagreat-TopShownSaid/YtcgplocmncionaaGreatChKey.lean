/- What is proved here: the contract of Key of layer 10, at a chest in which nothing is wrong. Conditions: it lies in memory. -/
import Derived.Test.YtcgplocmncionaaGreatChLockG
import Derived.Test.YtcgplocmncionaaGreatChLeastG
import Derived.BigQuiet
set_option linter.unusedVariables false
set_option linter.unusedSimpArgs false
namespace Go.Proofs.YtcgplocmncionaaGreat
open Go Go.RowKit Go.Shelf

theorem copy_small {c : ChH} (hv : ChValid c) {i : Nat} (hi : i < c.copies.length) : (0 ≤ c.copies[i].number ∧ c.copies[i].number < 64000) ∧ (0 ≤ c.copies[i].words ∧ c.copies[i].words < 64000) ∧ (0 ≤ c.copies[i].facts ∧ c.copies[i].facts < 64000) ∧ (0 ≤ c.copies[i].may ∧ c.copies[i].may < 64000) := by
  have h := hv.copy i hi
  have h1 := hv.last
  have h2 := words_lt hv hi
  have h3 := facts_lt hv hi
  have h5 := pow_six (k := c.people.length) (by have := hv.np; omega)
  have h6 : ((2 : Int) ^ c.people.length) = ((2 ^ c.people.length : Nat) : Int) := by simp
  have h7 := h.2.2.2.2.2.2.2
  rw [h6] at h7
  omega
set_option maxHeartbeats 1000000 in
theorem CKey1_any (xn xw xf xm n : Int) (h1 : 0 ≤ xn ∧ xn < 64000) (h2 : 0 ≤ xw ∧ xw < 64000) (h3 : 0 ≤ xf ∧ xf < 64000) (h4 : 0 ≤ xm ∧ xm < 64000) (h5 : 0 ≤ n ∧ n < 64000) (p : Nat) (w : World) (c0 : w.cell? ⟨p, 0, none⟩ = some (.int .i64 n)) :
    Calls Tryz.prog 59 #[.agg #[.int .i64 xn, .int .i64 xw, .int .i64 xf, .int .i64 xm], .pointer (some ⟨p, 0, none⟩)] w fun e w' => e = .returned (.bool (decide (xn = n))) ∧ Below w.heap.size w w' := by
  have hp := lt_of_cell c0
  have hve : ∀ W, (Op.equalIn 10000 45 (.agg #[.int .i64 xn, .int .i64 xw, .int .i64 xf, .int .i64 xm]) (.agg #[.int .i64 n, .int .i64 xw, .int .i64 xf, .int .i64 xm])).run Tryz.prog W = .ok (decide (xn = n)) W := fun W => (copy_eq h1 h2 h3 h4 h5 h2 h3 h4 W).trans (by simp)
  generalize decide (xn = n) = b at hve ⊢
  go_enter Tryz.func59, Tryz.ntmps59
  go_wp2
  go_ret
  exact ⟨rfl, (Below.refl _ _).alloc (Nat.le_refl _) _⟩
def keyIx (c : ChH) (n : Int) : Option Nat := c.copies.findIdx? fun x => x.number == n
theorem keyIx_some {c : ChH} {n : Int} {k : Nat} (hk : k < c.copies.length) (h : c.copies[k].number = n) (h0 : ∀ j (_ : j < k) (hj : j < c.copies.length), c.copies[j].number ≠ n) : keyIx c n = some k := by
  unfold keyIx
  rw [List.findIdx?_eq_some_iff_getElem]
  exact ⟨hk, by simpa using h, fun j hj => by simpa using h0 j hj (by omega)⟩
theorem keyIx_none {c : ChH} {n : Int} (h0 : ∀ j (hj : j < c.copies.length), c.copies[j].number ≠ n) : keyIx c n = none := by
  unfold keyIx
  rw [List.findIdx?_eq_none_iff]
  intro x hx
  obtain ⟨j, hj, rfl⟩ := List.getElem_of_mem hx
  simpa using h0 j hj
def ixI (o : Option Nat) : Int := match o with | some k => k | none => -1
set_option maxHeartbeats 2000000 in
theorem CIndexC_any (ap ac ar : Option Addr) (kp kc kr : Nat) (c : ChH) (n : Int) (p : Nat) (w : World) (hm : ChestC w ap ac ar kp kc kr c) (hv : ChValid c) (hn : 0 ≤ n ∧ n < 64000) (c0 : w.cell? ⟨p, 0, none⟩ = some (.int .i64 n)) :
    Calls Tryz.prog 58 #[.slice ac c.copies.length kc, .func (.func 59) #[] #[.pointer (some ⟨p, 0, none⟩)]] w fun e w' => e = .returned (.int .i64 (ixI (keyIx c n))) ∧ Below w.heap.size w w' := by
  have l2 := hm.okc.len
  obtain ⟨r, hr⟩ : ∃ r, r = ixI (keyIx c n) := ⟨_, rfl⟩
  rw [← hr]
  have HR := Lib.hid hr
  clear hr
  go_enter Tryz.func58, Tryz.ntmps58
  go_wp2
  go_loopw [8] (fun i wr => ∃ k : Nat, k ≤ c.copies.length ∧ i = .int .i64 k ∧ Hid (∀ j (_ : j < k) (hj : j < c.copies.length), c.copies[j].number ≠ n) ∧ Below w.heap.size w wr) (fun i _ => c.copies.length - (intOf i).toNat)
  case atStart => exact ⟨0, Nat.zero_le _, rfl, Lib.hid (fun j h => absurd h (Nat.not_lt_zero j)), Below.refl _ _⟩
  case round =>
    obtain ⟨k, hk, rfl, HZ, hbw⟩ := hrel
    by_cases hlt : k < c.copies.length
    · have hsm := copy_small hv hlt
      obtain ⟨b, off, rfl, hbb, e0, e1, e2, e3⟩ := (hm.mono hbw).copies k hlt
      have K1 := CKey1_any _ _ _ _ n hsm.1 hsm.2.1 hsm.2.2.1 hsm.2.2.2 hn p wr (cell_below hbw c0)
      have HY := Lib.hid (fun (h : c.copies[k].number = n) => HR.out.trans (show ixI (keyIx c n) = (k : Int) by rw [keyIx_some hlt h HZ.out]; rfl))
      have HN := Lib.hid (fun (h : c.copies[k].number ≠ n) => show ∀ j (_ : j < k + 1) (hj : j < c.copies.length), c.copies[j].number ≠ n from fun j hj hjl => if hjk : j < k then HZ.out j hjk hjl else (by have e : j = k := (by omega); subst e; exact h))
      generalize c.copies[k] = x at K1 HY HN e0 e1 e2 e3
      obtain ⟨xn, xw, xf, xm⟩ := x
      simp only at K1 HY HN e0 e1 e2 e3
      clear hsm
      by_cases hx : xn = n
      · rw [decide_eq_true hx] at K1
        replace HY := Lib.hid (HY.out hx)
        replace K1 := Lib.hid K1
        clear hx
        go_wp2_with (go_at_call 59; go_must (refine K1.out.mono ?_; rintro e w2 ⟨rfl, hb2⟩; dsimp only))
        go_ret
        have hr := HY.out
        subst hr
        exact ⟨rfl, hbw.trans (hb2.mono hbw.size)⟩
      · rw [decide_eq_false hx] at K1
        replace HN := Lib.hid (HN.out hx)
        replace K1 := Lib.hid K1
        clear hx
        go_wp2_with (go_at_call 59; go_must (refine K1.out.mono ?_; rintro e w2 ⟨rfl, hb2⟩; dsimp only))
        go_roundw
        case rel => exact ⟨k + 1, by omega, by go_num, HN, hbw.trans (hb2.mono hbw.size)⟩
        case measure => simp [intOf]; omega
    · obtain rfl : k = c.copies.length := by omega
      have HY := Lib.hid (HR.out.trans (show ixI (keyIx c n) = -1 by rw [keyIx_none (fun j hj => HZ.out j hj hj)]; rfl))
      go_wp2
      go_ret
      have hr := HY.out
      subst hr
      exact ⟨rfl, hbw⟩
/-- What Key returns. -/
def keyRes (c : ChH) (p : Nat) (n : Int) : Option Nat × Int := match keyIx c n with
  | none => (none, 7)
  | some j => if (viewN c p).testBit j then (match keyN c p j with | some s => (some s, 0) | none => (none, 9)) else (none, 2)
set_option maxRecDepth 100000 in
set_option maxHeartbeats 4000000 in
theorem CKey_any (ap ac ar : Option Addr) (kp kc kr : Nat) (c : ChH) (p : Nat) (n : Int) (w : World) (hm : ChestC w ap ac ar kp kc kr c) (hv : ChValid c) (hp : p < c.people.length) (hn : 0 ≤ n ∧ n < 64000) :
    Calls Tryz.prog 29 #[(.agg #[.int .i64 c.words, .int .i64 c.facts, .slice ap c.people.length kp, .int .i64 c.last, .slice ac c.copies.length kc, .slice ar c.rules.length kr]), .int .i64 (p : Int), .int .i64 n] w fun e w' => ∃ v, e = .returned (.tuple #[v, .int .i64 (keyRes c p n).2]) ∧ FirstV w w' v (keyRes c p n).1 ∧ Below w.heap.size w w' := by
  have l1 := hm.okp.len
  have np3 := hv.np
  have nc6 := hv.nc
  have hw5 := hv.words
  obtain ⟨nw, hnw⟩ : ∃ nw : Nat, c.words = nw := ⟨c.words.toNat, by omega⟩
  have HKR : Hid (keyRes c p n = match keyIx c n with
    | none => (none, 7)
    | some j => if (viewN c p).testBit j then (match keyN c p j with | some s => (some s, 0) | none => (none, 9)) else (none, 2)) := Lib.hid rfl
  generalize keyRes c p n = kres at HKR ⊢
  have hnw5 : nw ≤ 5 := by omega
  have HNW := Lib.hid hnw
  clear hnw
  have HIX := Lib.hid (fun (W : World) (b : Nat) (h : Below w.heap.size w W) hc => CIndexC_any ap ac ar kp kc kr c n b W (hm.mono h) hv hn hc)
  have hQ := Below.refl (w.heap.size + 1) (w.alloc (.cells #[.int .i64 c.words, .int .i64 c.facts, .slice ap c.people.length kp, .int .i64 c.last, .slice ac c.copies.length kc, .slice ar c.rules.length kr] 41))
  have hQ1 := hQ.alloc (by simp) (.cells #[.int .i64 (p : Int)] 3)
  have hQ2 := hQ1.alloc (by simp) (.cells #[.int .i64 n] 3)
  have hQ3 := hQ2.alloc (by simp) (.cells #[.int .i64 (p : Int), .int .i64 c.people.length] 3)
  have hI3 : IntsC ((((w.alloc (.cells #[.int .i64 c.words, .int .i64 c.facts, .slice ap c.people.length kp, .int .i64 c.last, .slice ac c.copies.length kc, .slice ar c.rules.length kr] 41)).alloc (.cells #[.int .i64 (p : Int)] 3)).alloc (.cells #[.int .i64 n] 3)).alloc (.cells #[.int .i64 (p : Int), .int .i64 c.people.length] 3)) (some ⟨w.heap.size + 1 + 1 + 1, 0, none⟩) [(p : Int), c.people.length] := by
    have := two_intsC (((w.alloc (.cells #[.int .i64 c.words, .int .i64 c.facts, .slice ap c.people.length kp, .int .i64 c.last, .slice ac c.copies.length kc, .slice ar c.rules.length kr] 41)).alloc (.cells #[.int .i64 (p : Int)] 3)).alloc (.cells #[.int .i64 n] 3)) p c.people.length 3
    rwa [show (((w.alloc (.cells #[.int .i64 c.words, .int .i64 c.facts, .slice ap c.people.length kp, .int .i64 c.last, .slice ac c.copies.length kc, .slice ar c.rules.length kr] 41)).alloc (.cells #[.int .i64 (p : Int)] 3)).alloc (.cells #[.int .i64 n] 3)).heap.size = w.heap.size + 1 + 1 + 1 by simp] at this
  have EN := Lib.hid (CEnter_any ap ac ar kp kc kr c (some ⟨w.heap.size + 1 + 1 + 1, 0, none⟩) [(p : Int), c.people.length] 2 _ (hm.mono (box_old hQ3)) hv ⟨by simp, by omega, by simp⟩ hI3 (by simp) (by simp) (fun j h hj => by
    have e : j = 0 := by simp at h; omega
    subst e
    simp only [List.getElem_cons_succ, List.getElem_cons_zero]; omega))
  have hP1 : ((w.alloc (.cells #[.int .i64 c.words, .int .i64 c.facts, .slice ap c.people.length kp, .int .i64 c.last, .slice ac c.copies.length kc, .slice ar c.rules.length kr] 41)).alloc (.cells #[.int .i64 (p : Int)] 3)).heap[w.heap.size + 1]? = some (.cells #[.int .i64 (p : Int)] 3 (0, 0)) := alloc_at _ _ (by simp)
  have hP3 := (heap_alloc_old (((w.alloc (.cells #[.int .i64 c.words, .int .i64 c.facts, .slice ap c.people.length kp, .int .i64 c.last, .slice ac c.copies.length kc, .slice ar c.rules.length kr] 41)).alloc (.cells #[.int .i64 (p : Int)] 3)).alloc (.cells #[.int .i64 n] 3)) (.cells #[.int .i64 (p : Int), .int .i64 c.people.length] 3) (by simp <;> omega)).trans ((heap_alloc_old ((w.alloc (.cells #[.int .i64 c.words, .int .i64 c.facts, .slice ap c.people.length kp, .int .i64 c.last, .slice ac c.copies.length kc, .slice ar c.rules.length kr] 41)).alloc (.cells #[.int .i64 (p : Int)] 3)) (.cells #[.int .i64 n] 3) (by simp)).trans hP1)
  have hN1 : (((w.alloc (.cells #[.int .i64 c.words, .int .i64 c.facts, .slice ap c.people.length kp, .int .i64 c.last, .slice ac c.copies.length kc, .slice ar c.rules.length kr] 41)).alloc (.cells #[.int .i64 (p : Int)] 3)).alloc (.cells #[.int .i64 n] 3)).heap[w.heap.size + 1 + 1]? = some (.cells #[.int .i64 n] 3 (0, 0)) := alloc_at _ _ (by simp)
  have hN3 := (heap_alloc_old (((w.alloc (.cells #[.int .i64 c.words, .int .i64 c.facts, .slice ap c.people.length kp, .int .i64 c.last, .slice ac c.copies.length kc, .slice ar c.rules.length kr] 41)).alloc (.cells #[.int .i64 (p : Int)] 3)).alloc (.cells #[.int .i64 n] 3)) (.cells #[.int .i64 (p : Int), .int .i64 c.people.length] 3) (by simp)).trans hN1
  clear hI3 hP1 hN1
  obtain ⟨x0, x1, x2, x3, x4, x5, xz⟩ := box_chest hQ
  go_enter Tryz.func29, Tryz.ntmps29
  go_upto_region 4 with (go_at_call 40; go_must (refine EN.out.mono ?_; rintro e w2 ⟨bm, bo, rfl, hR, hb2, hbo⟩; dsimp only))
  obtain ⟨Y, hY⟩ : ∃ Y : World, Y = w2.alloc (.cells #[.pointer (some ⟨bm, 0, none⟩)] 89) := ⟨_, rfl⟩
  rw [← hY]
  have hb2' := hQ3.trans (hb2.mono (by simp))
  have hbY1 : Below (w.heap.size + 1) (w.alloc (.cells #[.int .i64 c.words, .int .i64 c.facts, .slice ap c.people.length kp, .int .i64 c.last, .slice ac c.copies.length kc, .slice ar c.rules.length kr] 41)) Y := by rw [hY]; exact hb2'.alloc (by have := (box_old hb2').size; have := box_size hb2'; omega) _
  have hRY : ChestW Y bm bo ap ac ar kp kc kr c := by rw [hY]; exact hR.below ((Below.refl _ _).alloc (Nat.le_refl _) _)
  have hCY : Y.heap[w2.heap.size]? = some (.cells #[.pointer (some ⟨bm, 0, none⟩)] 89 (0, 0)) := by rw [hY]; exact alloc_at _ _ rfl
  have hP2 := (hb2.block _ (by simp <;> omega)).trans hP3
  have hPY : Y.heap[w.heap.size + 1]? = some (.cells #[.int .i64 (p : Int)] 3 (0, 0)) := by rw [hY]; exact (heap_alloc_old _ _ (lt_of_block hP2)).trans hP2
  have hN2 := (hb2.block _ (by simp)).trans hN3
  have hNY : Y.heap[w.heap.size + 1 + 1]? = some (.cells #[.int .i64 n] 3 (0, 0)) := by rw [hY]; exact (heap_alloc_old _ _ (lt_of_block hN2)).trans hN2
  have hboz : w.heap.size ≤ bo := by simp only [World.size_alloc] at hbo; omega
  clear hY x0 x1 x2 x3 x4 x5 xz hQ hQ1 hQ2 hQ3 hb2 hb2' hP2 hP3 hN2 hN3 hR hbo
  obtain ⟨x0, x1, x2, x3, x4, x5, xz⟩ := box_chest hbY1
  have n0 := blk_cell 0 hNY rfl
  have nz := lt_of_block hNY
  simp only [List.getElem_toArray, List.getElem_cons_zero] at n0
  go_upto_region 5 with (go_at_call 58; go_must (refine (HIX.out Y _ (box_old hbY1) n0).mono ?_; rintro e w4 ⟨rfl, hb4⟩; dsimp only))
  obtain ⟨Z, hZ⟩ : ∃ Z : World, Z = w4.alloc (.cells #[.int .i64 (ixI (keyIx c n))] 3) := ⟨_, rfl⟩
  rw [← hZ]
  have hbYZ : Below Y.heap.size Y Z := by rw [hZ]; exact hb4.alloc hb4.size _
  have hAZ : Z.heap[w4.heap.size]? = some (.cells #[.int .i64 (ixI (keyIx c n))] 3 (0, 0)) := by rw [hZ]; exact alloc_at _ _ rfl
  have hbZ1 := box_on hbY1 hbYZ
  have hRZ := hRY.below hbYZ
  have hCZ := (hbYZ.block _ (lt_of_block hCY)).trans hCY
  have hPZ := (hbYZ.block _ (lt_of_block hPY)).trans hPY
  clear hZ hb4 hbYZ hRY hCY hPY hNY n0 nz x0 x1 x2 x3 x4 x5 xz hbY1 HIX
  have a0 := blk_cell 0 hAZ rfl
  have az := lt_of_block hAZ
  simp only [List.getElem_toArray, List.getElem_cons_zero] at a0
  cases hki : keyIx c n with
  | none =>
    rw [hki] at HKR a0 hAZ
    change Z.cell? _ = some (.int .i64 (-1)) at a0
    go_wp2
    go_ret2
    have hk := HKR.out
    subst hk
    exact ⟨_, rfl, rfl, box_old hbZ1⟩
  | some j =>
    rw [hki] at HKR a0 hAZ
    change Z.cell? _ = some (.int .i64 (j : Int)) at a0
    change Z.heap[w4.heap.size]? = some (.cells #[.int .i64 (j : Int)] 3 (0, 0)) at hAZ
    have hjl : j < c.copies.length := by
      have := List.findIdx?_eq_some_iff_getElem.1 hki
      exact this.1
    clear hki
    have hj0 : ¬ (j : Int) < 0 := by omega
    have hj64 : (j : Int) < 64 := by omega
    have hvl := vw_lt hv p
    have yv := hRZ.blk.view (p := p) (by omega)
    rw [vw_is hp] at yv hvl
    have yz := hRZ.bm_lt
    have c0 := blk_cell 0 hCZ rfl
    have cz := lt_of_block hCZ
    have p0 := blk_cell 0 hPZ rfl
    have pz := lt_of_block hPZ
    simp only [List.getElem_toArray, List.getElem_cons_zero] at c0 p0
    have hp3 : (p : Int) < 3 := by omega
    have hbz := bit_zeroC _ hvl j (by omega)
    go_upto_region 7 with (fail)
    simp only at HKR
    obtain ⟨vb, hvb⟩ : ∃ vb, vb = (viewN c p).testBit j := ⟨_, rfl⟩
    rw [← hvb] at hbz HKR
    clear hvb
    go_cut [33] from 34 to 43 (fun v U => v = .bool (!vb) ∧ Below Z.heap.size Z U)
    case first =>
      generalize viewN c p = vn at hbz yv
      clear HKR EN
      go_quiet (fail)
      go_wp2
      go_meet
      case rel => exact ⟨by first | rfl | rw [hbz], below_draws _ _ _⟩
    case rest =>
      obtain ⟨rfl, hbV⟩ := hcut
      rename World => V
      have hbV1 := box_on hbZ1 hbV
      have hRV := hRZ.below hbV
      have hCV := (hbV.block _ (lt_of_block hCZ)).trans hCZ
      have hPV := (hbV.block _ (lt_of_block hPZ)).trans hPZ
      have hAV := (hbV.block _ (lt_of_block hAZ)).trans hAZ
      clear hbV hRZ hCZ hPZ hAZ a0 az yv yz c0 cz p0 pz hbz hbZ1
      cases vb
      · go_wp2
        go_ret2
        have hk := HKR.out
        simp only [Bool.false_eq_true, if_false] at hk
        subst hk
        exact ⟨_, rfl, rfl, box_old hbV1⟩
      · simp only [if_true] at HKR
        have UP := Lib.hid (fun W : World => CUpTo_any nw (by omega) W)
        have HLK : Hid (keyN c p j = firstN (List.range nw) fun set => findN c p set == 2 ^ j) := Lib.hid (by unfold keyN; rw [HNW.out, Int.toNat_natCast])
        generalize keyN c p j = res at HKR HLK
        have FI : Hid (∀ (W : World) (a : Option Addr) (cc : Nat), Below V.heap.size V W → SlOk a (upI nw).length cc → IntsC W a (upI nw) → Calls Tryz.prog 45 #[.slice a (upI nw).length cc, .agg #[.func (.func 61) #[] #[.pointer (some ⟨w2.heap.size, 0, none⟩), .pointer (some ⟨w.heap.size + 1, 0, none⟩), .pointer (some ⟨w4.heap.size, 0, none⟩)]]] W fun e w' => ∃ v, e = .returned (.tuple #[v, .bool res.isSome]) ∧ FirstV W w' v res ∧ W.grownBy w' (some bo) ∧ ChestW w' bm bo ap ac ar kp kc kr c) := Lib.hid (fun W a cc hb hs hi => by
          have hRW := hRV.below hb
          have hlen : (upI nw).length = (List.range nw).length := by rw [upI_len, List.length_range]
          rw [hlen] at hs ⊢
          rw [HLK.out]
          have c1 := blk_cell 0 ((hb.block _ (lt_of_block hCV)).trans hCV) rfl
          have c2 := blk_cell 0 ((hb.block _ (lt_of_block hPV)).trans hPV) rfl
          have c3 := blk_cell 0 ((hb.block _ (lt_of_block hAV)).trans hAV) rfl
          simp only [List.getElem_toArray, List.getElem_cons_zero] at c1 c2 c3
          exact CFirst_any ap ac ar kp kc kr c bm bo 61 #[.pointer (some ⟨w2.heap.size, 0, none⟩), .pointer (some ⟨w.heap.size + 1, 0, none⟩), .pointer (some ⟨w4.heap.size, 0, none⟩)] _ a cc (List.range nw) W hRW (by rw [List.length_range]; omega) (fun x hx => by have := List.mem_range.1 hx; omega) hs hi (enters_of Tryz.func61 (by kernel_rfl) rfl)
            (fun s V hs6 hg hR => by
              have hk := hRW.keeps hg
              exact CKey2_any ap ac ar kp kc kr c bm bo s p j _ _ _ V hR hv hs6 hp (by omega) (hk.2 _ _ c1) (hk.2 _ _ c2) (hk.2 _ _ c3)))
        obtain ⟨x0, x1, x2, x3, x4, x5, xz⟩ := box_chest hbV1
        rw [HNW.out] at x0
        have az := lt_of_block hAV
        have pz := lt_of_block hPV
        have cz := lt_of_block hCV
        have hbV := box_old hbV1
        clear HLK hvl EN hCV hPV hAV hRV
        cases res
        · go_wp2_with (first
            | (go_at_call 45; go_must (refine (FI.out _ _ _ hb3 hs3 hi3).mono ?_; rintro e w5 ⟨v4, rfl, hf4, hg4, hR4⟩; dsimp only [Option.isSome]))
            | (go_at_call 60; go_must (refine (UP.out _).mono ?_; rintro e w3 ⟨v3, rfl, ⟨a3, c3, rfl, hs3, hi3, -⟩, hb3⟩; dsimp only)))
          go_ret2
          have hk := HKR.out
          subst hk
          have hz3 := hb3.size
          have hzV := hbV.size
          exact ⟨_, rfl, rfl, (hbV.trans (hb3.mono hzV)).grown hg4 (by omega) (fun k e => by have := Option.some.inj e; omega)⟩
        · go_wp2_with (first
            | (go_at_call 45; go_must (refine (FI.out _ _ _ hb3 hs3 hi3).mono ?_; rintro e w5 ⟨v4, rfl, hf4, hg4, hR4⟩; dsimp only [Option.isSome]))
            | (go_at_call 60; go_must (refine (UP.out _).mono ?_; rintro e w3 ⟨v3, rfl, ⟨a3, c3, rfl, hs3, hi3, -⟩, hb3⟩; dsimp only)))
          go_ret2
          have hk := HKR.out
          subst hk
          have hz3 := hb3.size
          have hzV := hbV.size
          have hfw : FirstV w w5 v4 (some _) := hf4.weak (by omega)
          exact ⟨v4, rfl, hfw, (hbV.trans (hb3.mono hzV)).grown hg4 (by omega) (fun k e => by have := Option.some.inj e; omega)⟩
end Go.Proofs.YtcgplocmncionaaGreat
