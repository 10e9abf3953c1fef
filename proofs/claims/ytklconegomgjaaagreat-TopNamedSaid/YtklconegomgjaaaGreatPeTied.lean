/- What is proved here: the contract of tied of layer 3. Conditions: the town is looked at; persons of all mentions. -/
import Derived.Test.YtklconegomgjaaaGreatPeEqG
set_option linter.unusedVariables false
set_option linter.unusedSimpArgs false
namespace Go.Proofs.YtklconegomgjaaaGreat
open Go Go.RowKit Go.Shelf

theorem but_bit : ∀ c : Nat, c < 16 → ∀ i : Nat, i < 4 → (bits BinOp.and .i64 ((c : Int) / 2 ^ i) 1 == 0) = !c.testBit i := by decide +kernel
theorem tiedTo_next {t : PeW} {but : Nat} {q : List Int} {k : Nat} (hk : k < t.ties.length) (h : tiedTo t but q k = true) : tiedTo t but q (k + 1) = (but.testBit k || tieB t q t.ties[k]) := by
  unfold tiedTo at *
  rw [List.range_succ, List.all_append, h, Bool.true_and]
  simp [List.getElem?_eq_getElem hk]
theorem tiedTo_at {t : PeW} {but : Nat} {q : List Int} {k : Nat} (hk : k < t.ties.length) (h : tiedTo t but q (k + 1) = true) : (but.testBit k || tieB t q t.ties[k]) = true := by
  unfold tiedTo at h
  rw [List.range_succ, List.all_append, Bool.and_eq_true] at h
  have := h.2
  simpa [List.getElem?_eq_getElem hk] using this
theorem tiedTo_not {t : PeW} {but : Nat} {q : List Int} {k : Nat} (hk : k < t.ties.length) (h : (but.testBit k || tieB t q t.ties[k]) = false) : tiedB t but q = false := by
  unfold tiedB tiedTo
  rw [List.all_eq_false]
  exact ⟨k, List.mem_range.2 hk, by simpa [List.getElem?_eq_getElem hk] using h⟩
set_option maxRecDepth 100000 in
set_option maxHeartbeats 4000000 in
theorem PTied_any (a1 a2 a3 a4 : Option Addr) (k1 k2 k3 k4 : Nat) (t : PeW) (bt bc bk but : Nat) (q : List Int) (w : World) (hm : TownW w bt bc bk a1 a2 a3 a4 k1 k2 k3 k4 t but) (hv : PeOk t) (hbut : but < 16) (hq : PsOk q) :
    Calls Tryz.prog 96 #[.pointer (some ⟨bt, 0, none⟩), psV q] w fun e w' => e = .returned (.bool (tiedB t but q)) ∧ Below w.heap.size w w' := by
  have hnt := hv.nt
  have hnm := hv.nm
  have hlt := hm.town.okt.len
  have hps : (w.alloc (.cells (psCells q) 109)).heap[w.heap.size]? = some (.cells (psCells q) 109 (0, 0)) := alloc_atE _ _ rfl
  have hb0 : Below w.heap.size w (w.alloc (.cells (psCells q) 109)) := (Below.refl _ _).alloc (Nat.le_refl _) _
  obtain ⟨X, hX⟩ : ∃ X : World, X = w.alloc (.cells (psCells q) 109) := ⟨_, rfl⟩
  rw [← hX] at hps hb0
  have HX := Lib.hid hX
  clear hX
  have hmX := hm.below hb0
  have HMX := Lib.hid (fun (V : World) (h : Below X.heap.size X V) => hmX.below h)
  have HPX := Lib.hid (fun (V : World) (h : Below X.heap.size X V) => (h.block _ (lt_of_block hps)).trans hps)
  have HPC := Lib.hid (fun (V : World) (h : Below X.heap.size X V) (n : Nat) (hn : n < 6) => (show V.cell? ⟨w.heap.size, n, none⟩ = some (.int .i64 (pAt q n)) from by
    have hc := HPX.out V h
    obtain rfl | rfl | rfl | rfl | rfl | rfl : n = 0 ∨ n = 1 ∨ n = 2 ∨ n = 3 ∨ n = 4 ∨ n = 5 := by omega
    all_goals first | exact blk_cell 0 hc rfl | exact blk_cell 1 hc rfl | exact blk_cell 2 hc rfl | exact blk_cell 3 hc rfl | exact blk_cell 4 hc rfl | exact blk_cell 5 hc rfl))
  have HB0 := Lib.hid hb0
  have HTE := Lib.hid (fun k (hk : k < t.ties.length) => hv.tie k hk)
  have y5 := hmX.cells.2.2.2.2.2.1
  have yz := hmX.bt_lt
  clear hm hv hps hb0 hmX
  go_enter Tryz.func96, Tryz.ntmps96
  go_upto_region 1 with (fail)
  rw [← HX.out]
  go_wp2
  go_loopw [13] (fun i wr => ∃ k : Nat, k ≤ t.ties.length ∧ i = .int .i64 (k : Int) ∧ Hid (tiedTo t but q k = true) ∧ Below X.heap.size X wr) (fun i _ => t.ties.length - (intOf i).toNat)
  case atStart => exact ⟨0, by omega, rfl, Lib.hid rfl, Below.refl _ _⟩
  case round =>
    clear y5 yz
    obtain ⟨k, hk, rfl, HR, hb⟩ := hrel
    by_cases hkt : k < t.ties.length
    · have hmr := HMX.out _ hb
      obtain ⟨b', off, ea, hb', l0, l1, l2⟩ := hmr.town.ties k hkt
      have htk := HTE.out k hkt
      have HN1 := Lib.hid (tiedTo_next hkt HR.out)
      have HN2 := Lib.hid (fun h => tiedTo_not (but := but) (q := q) hkt h)
      generalize hx : t.ties[k] = x at l0 l1 l2 htk HN1 HN2
      obtain ⟨xa, xb, xs⟩ := x
      simp only at l0 l1 l2 htk
      have HXE := Lib.hid hx
      clear hx
      obtain ⟨V, hV⟩ : ∃ V : World, V = wr.alloc (.cells #[.int .i64 xa, .int .i64 xb, .bool xs] 44) := ⟨_, rfl⟩
      have hbV : Below wr.heap.size wr V := by rw [hV]; exact (Below.refl _ _).alloc (Nat.le_refl _) _
      have hcV : V.heap[wr.heap.size]? = some (.cells #[.int .i64 xa, .int .i64 xb, .bool xs] 44 (0, 0)) := by rw [hV]; exact alloc_atE _ _ rfl
      have HV := Lib.hid hV
      have hQV := hb.trans (hbV.mono hb.size)
      have HQV := Lib.hid hQV
      have HCV := Lib.hid hcV
      have hmV := HMX.out _ hQV
      have HMV := Lib.hid hmV
      have y5 := hmr.cells.2.2.2.2.2.1
      have yz := hmr.bt_lt
      rw [ea] at y5
      clear hV hbV hmr hb hQV
      go_upto_region 4 with (fail)
      replace ea := Lib.hid ea
      rw [show wr.alloc (.cells #[.int .i64 xa, .int .i64 xb, .bool xs] 44) = V from HV.out.symm]
      clear y5 yz l0 l1 l2 hb'
      go_cut [43] from 18 to 43 (fun v U => ∃ c : Bool, v = .bool c ∧ Hid (c = true → tiedTo t but q (k + 1) = true) ∧ Below V.heap.size V U)
      case first =>
        have y5 := hmV.cells.2.2.2.2.2.1
        have y6 := hmV.cells.2.2.2.2.2.2.1
        have yz := hmV.bt_lt
        rw [ea.out] at y5
        have v0 := blk_cell 0 hcV rfl
        have v1 := blk_cell 1 hcV rfl
        have v2 := blk_cell 2 hcV rfl
        have vz := lt_of_block hcV
        simp only [List.getElem_toArray, List.getElem_cons_zero, List.getElem_cons_succ] at v0 v1 v2
        have hkI : (k : Int) < (t.ties.length : Int) := by omega
        by_cases hk0 : k = 0
        · have hkI0 : ¬ (0 : Int) < (k : Int) := by omega
          have hkN0 : decide (0 < k) = false := by simp [hk0]
          clear hk0 hcV hmV y5 y6 yz
          go_quiet (fail)
          go_wp2
          go_meet
          case rel => exact ⟨false, rfl, Lib.hid (fun h => by cases h), below_drewN' (Below.refl _ _) _⟩
        · obtain ⟨k0, hk0'⟩ : ∃ k0, k = k0 + 1 := ⟨k - 1, by omega⟩
          obtain ⟨b2, o2, ea2, hb2, m0, m1, m2⟩ := hmV.town.ties k0 (by omega)
          have hty := HTE.out k0 (by omega)
          have HP := Lib.hid (tiedTo_at (t := t) (but := but) (q := q) (k := k0) (by omega) (by rw [← hk0']; exact HR.out))
          generalize t.ties[k0]'(by omega) = y at m0 m1 m2 hty HP
          obtain ⟨ya, yb, ys⟩ := y
          simp only at m0 m1 m2 hty
          rw [ea.out] at ea2
          cases ea2
          have HQ := Lib.hid (fun W => tie_eqE (s := xs) (u := ys) (a := xa) (b := xb) (c := ya) (d := yb) ⟨by omega, by omega⟩ ⟨by omega, by omega⟩ ⟨by omega, by omega⟩ ⟨by omega, by omega⟩ W)
          have hbi := but_bit but hbut k0 (by omega)
          have hk64 : (k0 : Int) < 64 := by omega
          have hkI0 : (0 : Int) < (k : Int) := by omega
          have hkI1 : (k : Int) - 1 = (k0 : Int) := by omega
          have hkN0 : decide (0 < k) = true := by simp; omega
          have hkI2 : (k0 : Int) < (t.ties.length : Int) := by omega
          clear hcV hmV htk hty hk0 hk0'
          by_cases he : xa = ya ∧ xb = yb ∧ xs = ys
          · have hq := HQ.out
            rw [decide_eq_true he] at hq
            obtain ⟨rfl, rfl, rfl⟩ := he
            have HF : Hid ((!but.testBit k0) = true → tiedTo t but q (k + 1) = true) := Lib.hid (fun h => by
              have h1 := HP.out
              have h2 : but.testBit k0 = false := by simpa using h
              rw [h2, Bool.false_or] at h1
              rw [HN1.out, h1, Bool.or_true])
            clear HQ
            generalize (!but.testBit k0) = bb at HF hbi
            go_quiet (fail)
            go_wp2
            go_meet
            case rel => exact ⟨bb, rfl, HF, below_drewN' (Below.refl _ _) _⟩
          · have hq := HQ.out
            rw [decide_eq_false he] at hq
            clear HQ he
            go_quiet (fail)
            go_wp2
            go_meet
            case rel => exact ⟨false, rfl, Lib.hid (fun h => by cases h), below_drewN' (Below.refl _ _) _⟩
      case rest =>
        obtain ⟨c, rfl, HC, hbU⟩ := hcut
        rename World => U
        have hQU := HQV.out.trans (hbU.mono HQV.out.size)
        have HQU := Lib.hid hQU
        have hcU := (hbU.block _ (lt_of_block HCV.out)).trans HCV.out
        have hmU := HMX.out _ hQU
        have HB2 := Lib.hid (HB0.out.trans (hQU.mono HB0.out.size))
        cases c
        · have y6 := hmU.cells.2.2.2.2.2.2.1
          have yz := hmU.bt_lt
          have v0 := blk_cell 0 hcU rfl
          have v1 := blk_cell 1 hcU rfl
          have v2 := blk_cell 2 hcU rfl
          have vz := lt_of_block hcU
          simp only [List.getElem_toArray, List.getElem_cons_zero, List.getElem_cons_succ] at v0 v1 v2
          obtain ⟨na, rfl⟩ : ∃ n : Nat, xa = (n : Int) := ⟨xa.toNat, by omega⟩
          obtain ⟨nb, rfl⟩ : ∃ n : Nat, xb = (n : Int) := ⟨xb.toNat, by omega⟩
          have pa := HPC.out U hQU na (by omega)
          have pb := HPC.out U hQU nb (by omega)
          have pz := lt_of_block (HPX.out U hQU)
          have hbi := but_bit but hbut k (by omega)
          have hk64 : (k : Int) < 64 := by omega
          have na6 : (na : Int) < 6 := by omega
          have nb6 : (nb : Int) < 6 := by omega
          have HTB : Hid (tieB t q ⟨(na : Int), (nb : Int), xs⟩ = (decide (pAt q na = pAt q nb) == xs)) := Lib.hid rfl
          clear hcU hmU hbU HC hQU htk
          generalize pAt q na = ua at pa HTB
          generalize pAt q nb = ub at pb HTB
          cases hbt : but.testBit k
          · rw [hbt] at hbi HN1 HN2
            by_cases he : ua = ub
            · have e1 : (ua == ub) = true := by simpa using he
              cases xs
              · have HF : Hid (tiedB t but q = false) := Lib.hid (HN2.out (by rw [HTB.out]; simp [he]))
                go_wp2
                go_quiet (fail)
                have hbd := Lib.hid (below_drewN' (Below.refl U.heap.size U) nq)
                clear v0 v1 v2 pa pb y6 yz vz pz
                go_wp2
                go_ret
                exact ⟨by rw [HF.out]; rfl, HB2.out.trans (hbd.out.mono HB2.out.size)⟩
              · have HF : Hid (tiedTo t but q (k + 1) = true) := Lib.hid (by rw [HN1.out, HTB.out]; simp [he])
                go_wp2
                go_quiet (fail)
                have hbd := Lib.hid (below_drewN' (Below.refl U.heap.size U) nq)
                clear v0 v1 v2 pa pb y6 yz vz pz
                go_wp2
                go_roundw
                case rel => exact ⟨k + 1, by omega, by go_num, HF, HQU.out.trans (hbd.out.mono HQU.out.size)⟩
                case measure => simp [intOf]; omega
            · have e1 : (ua == ub) = false := by simpa using he
              cases xs
              · have HF : Hid (tiedTo t but q (k + 1) = true) := Lib.hid (by rw [HN1.out, HTB.out]; simp [he])
                go_wp2
                go_quiet (fail)
                have hbd := Lib.hid (below_drewN' (Below.refl U.heap.size U) nq)
                clear v0 v1 v2 pa pb y6 yz vz pz
                go_wp2
                go_roundw
                case rel => exact ⟨k + 1, by omega, by go_num, HF, HQU.out.trans (hbd.out.mono HQU.out.size)⟩
                case measure => simp [intOf]; omega
              · have HF : Hid (tiedB t but q = false) := Lib.hid (HN2.out (by rw [HTB.out]; simp [he]))
                go_wp2
                go_quiet (fail)
                have hbd := Lib.hid (below_drewN' (Below.refl U.heap.size U) nq)
                clear v0 v1 v2 pa pb y6 yz vz pz
                go_wp2
                go_ret
                exact ⟨by rw [HF.out]; rfl, HB2.out.trans (hbd.out.mono HB2.out.size)⟩
          · rw [hbt] at hbi HN1
            simp only [Bool.not_true] at hbi
            have HF : Hid (tiedTo t but q (k + 1) = true) := Lib.hid (by rw [HN1.out]; rfl)
            go_wp2
            go_quiet (fail)
            have hbd := Lib.hid (below_drewN' (Below.refl U.heap.size U) nq)
            clear v0 v1 v2 pa pb y6 yz vz pz
            go_wp2
            go_roundw
            case rel => exact ⟨k + 1, by omega, by go_num, HF, HQU.out.trans (hbd.out.mono HQU.out.size)⟩
            case measure => simp [intOf]; omega
        · have HF := Lib.hid (HC.out rfl)
          clear hcU hmU
          go_wp2
          go_roundw
          case rel => exact ⟨k + 1, by omega, by go_num, HF.out, hQU⟩
          case measure => simp [intOf]; omega
    · obtain rfl : k = t.ties.length := by omega
      have HE : Hid (tiedB t but q = true) := HR
      go_wp2
      go_ret
      exact ⟨by rw [HE.out]; rfl, HB0.out.trans (hb.mono HB0.out.size)⟩
end Go.Proofs.YtklconegomgjaaaGreat
