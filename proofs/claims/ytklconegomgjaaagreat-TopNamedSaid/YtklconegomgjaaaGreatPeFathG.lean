/- What is proved here: arrays of six ints in memory; the contract of named of layer 3. Conditions: the town is looked at; persons of all mentions. -/
/- What is proved here: the contract of fathered of layer 3. Conditions: the town is looked at; persons of all mentions. -/
import Derived.Test.YtklconegomgjaaaGreatPeTied
import Derived.Test.YtklconegomgjaaaGreatPnA
set_option linter.unusedVariables false
set_option linter.unusedSimpArgs false
namespace Go.Proofs.YtklconegomgjaaaGreat
open Go Go.RowKit Go.Shelf

theorem ps_cell {W : World} {b : Nat} {ty : TypeId} {L : List Int} (h : W.heap[b]? = some (.cells (psCells L) ty (0, 0))) (n : Nat) (hn : n < 6) : W.cell? ⟨b, n, none⟩ = some (.int .i64 (pAt L n)) := by
  obtain rfl | rfl | rfl | rfl | rfl | rfl : n = 0 ∨ n = 1 ∨ n = 2 ∨ n = 3 ∨ n = 4 ∨ n = 5 := by omega
  all_goals first | exact blk_cell 0 h rfl | exact blk_cell 1 h rfl | exact blk_cell 2 h rfl | exact blk_cell 3 h rfl | exact blk_cell 4 h rfl | exact blk_cell 5 h rfl
theorem ps_set {W : World} {b : Nat} {ty : TypeId} {L : List Int} (hL : L.length = 6) (h : W.heap[b]? = some (.cells (psCells L) ty (0, 0))) (n : Nat) (v : Int) : (W.setCell ⟨b, n, none⟩ (.int .i64 v)).heap[b]? = some (.cells (psCells (L.set n v)) ty (0, 0)) := by
  rw [blk_set n (.int .i64 v) h]
  match L, hL with
  | [a0, a1, a2, a3, a4, a5], _ =>
    match n with
    | 0 => rfl
    | 1 => rfl
    | 2 => rfl
    | 3 => rfl
    | 4 => rfl
    | 5 => rfl
    | n + 6 =>
      rw [List.set_eq_of_length_le (by simp)]
      rw [Array.setIfInBounds_eq_of_size_le (by simp [psCells])]
theorem pAt_set {L : List Int} {n i : Nat} (v : Int) (hn : n < L.length) : pAt (L.set n v) i = if i = n then v else pAt L i := by
  unfold pAt
  rw [List.getElem?_set]
  by_cases e : n = i
  · subst e; simp [hn]
  · rw [if_neg e, if_neg (fun h => e h.symm)]
def setsL (t : PeW) (q : List Int) (k : Nat) : List Int := (List.range 6).map fun (n : Nat) => (setTo' t q n k : Int)
theorem setsL_len (t : PeW) (q : List Int) (k : Nat) : (setsL t q k).length = 6 := by simp [setsL]
theorem setsL_at (t : PeW) (q : List Int) (k : Nat) {n : Nat} (hn : n < 6) : pAt (setsL t q k) n = (setTo' t q n k : Int) := by
  unfold pAt setsL
  rw [List.getElem?_map, List.getElem?_range hn]
  rfl
theorem six_ext {a b : List Int} (ha : a.length = 6) (hb : b.length = 6) (h : ∀ n, n < 6 → pAt a n = pAt b n) : a = b := by
  refine List.ext_getElem (by omega) fun i h1 h2 => ?_
  have := h i (by omega)
  unfold pAt at this
  rwa [List.getElem?_eq_getElem h1, List.getElem?_eq_getElem h2, Option.getD_some, Option.getD_some] at this
theorem setsL_next {t : PeW} {q : List Int} {k n0 : Nat} (hq : pAt q k = (n0 : Int)) (hn0 : n0 < 6) : (setsL t q k).set n0 ((setTo' t q n0 k ||| 2 ^ spOf t k : Nat) : Int) = setsL t q (k + 1) := by
  refine six_ext (by simp [setsL]) (setsL_len _ _ _) fun n hn => ?_
  rw [pAt_set _ (by rw [setsL_len]; exact hn0), setsL_at _ _ _ hn, setsL_at _ _ _ hn, setTo']
  by_cases e : n = n0
  · subst e; rw [if_pos rfl, if_pos hq]
  · rw [if_neg e, if_neg (fun h => e (by rw [hq] at h; omega))]
theorem setTo'_lt {t : PeW} (hv : PeOk t) (q : List Int) (n : Nat) : ∀ k, k ≤ t.ments.length → setTo' t q n k < 2 ^ t.ear.spells.length
  | 0, _ => Nat.two_pow_pos _
  | k + 1, hk => by
    rw [setTo']
    have ih := setTo'_lt hv q n k (by omega)
    split
    · exact Nat.or_lt_two_pow ih (two_ltE (hv.sp (i := k) (by omega)).2)
    · exact ih
def setOk (t : PeW) (s : Int) : Bool := s == 0 || aliveB t s.toNat
theorem named_all {t : PeW} {q : List Int} (h : ∀ n, n < 6 → setOk t (pAt (setsL t q t.ments.length) n) = true) : namedB t q = true := by
  refine named_of fun n hn => ?_
  have := h n hn
  rw [setsL_at _ _ _ hn] at this
  unfold setOk at this
  simp only [Bool.or_eq_true, beq_iff_eq, Int.toNat_natCast] at this
  rcases this with h | h
  · exact .inl (by omega)
  · exact .inr h
theorem named_not {t : PeW} {q : List Int} {n : Nat} (hn : n < 6) (h : setOk t (pAt (setsL t q t.ments.length) n) = false) : namedB t q = false := by
  unfold namedB namedTo
  rw [List.all_eq_false]
  refine ⟨n, List.mem_range.2 hn, ?_⟩
  rw [setsL_at _ _ _ hn] at h
  unfold setOk at h
  simp only [Bool.or_eq_false_iff, beq_eq_false_iff_ne, Int.toNat_natCast, ne_eq] at h
  have h1 : ¬ setTo' t q n t.ments.length = 0 := fun e => h.1 (by omega)
  simp [h1, h.2]
theorem ps_index (L : List Int) {n : Nat} (hn : n < 6) (w : World) : (Instr.index 109 (psV L) (.int .i64 (n : Int))).run Tryz.prog w = .ok (.int .i64 (pAt L n)) w := by
  obtain rfl | rfl | rfl | rfl | rfl | rfl : n = 0 ∨ n = 1 ∨ n = 2 ∨ n = 3 ∨ n = 4 ∨ n = 5 := by omega
  all_goals kernel_rfl
theorem rules_more' {t : PeW} {L : List Int} {k : Nat} (h : ∀ j, j < k → setOk t (pAt L j) = true) (e : setOk t (pAt L k) = true) : ∀ j, j < k + 1 → setOk t (pAt L j) = true := fun j hj => by
  by_cases g : j < k
  · exact h j g
  · have e2 : j = k := by omega
    subst e2
    exact e
set_option maxRecDepth 100000 in
set_option maxHeartbeats 4000000 in
theorem PNamed_any (a1 a2 a3 a4 : Option Addr) (k1 k2 k3 k4 : Nat) (t : PeW) (bt bc bk but : Nat) (q : List Int) (w : World) (hm : TownW w bt bc bk a1 a2 a3 a4 k1 k2 k3 k4 t but) (hv : PeOk t) (hq : PsOk q) :
    Calls Tryz.prog 95 #[.pointer (some ⟨bt, 0, none⟩), psV q] w fun e w' => e = .returned (.bool (namedB t q)) ∧ Lrn bc bk w w' ∧ TownW w' bt bc bk a1 a2 a3 a4 k1 k2 k3 k4 t but := by
  have hnm := hv.nm
  have hns := hv.ear.ns
  have hlm := hm.town.okm.len
  obtain ⟨X, hX⟩ : ∃ X : World, X = (w.alloc (.cells (psCells q) 109)).alloc (.cells (psCells noOf) 109) := ⟨_, rfl⟩
  have hps : X.heap[w.heap.size]? = some (.cells (psCells q) 109 (0, 0)) := by rw [hX]; exact (heap_alloc_old _ _ (by simp)).trans (alloc_atE _ _ rfl)
  have hss : X.heap[w.heap.size + 1]? = some (.cells (psCells (setsL t q 0)) 109 (0, 0)) := by rw [hX]; exact alloc_atE _ _ (by simp)
  have hb0 : Below w.heap.size w X := by rw [hX]; exact ((Below.refl _ _).alloc (Nat.le_refl _) _).alloc (by simp) _
  have HX := Lib.hid hX
  have hzX : X.heap.size = w.heap.size + 1 + 1 := by rw [hX]; simp
  clear hX
  have hmX := hm.below hb0
  have HMX := Lib.hid (fun (V : World) (h : Below w.heap.size w V) => hm.below h)
  have HLT := Lib.hid (fun n k (hk : k ≤ t.ments.length) => (show setTo' t q n k < 32 from Nat.lt_of_lt_of_le (setTo'_lt hv q n k hk) (Nat.pow_le_pow_right (n := 2) (by omega) hns)))
  have HLT2 := Lib.hid (fun n => setTo'_lt hv q n t.ments.length (Nat.le_refl _))
  have HSP := Lib.hid (fun k (hk : k < t.ments.length) => hv.sp hk)
  have HAL := Lib.hid (fun (V : World) (h : TownW V bt bc bk a1 a2 a3 a4 k1 k2 k3 k4 t but) (s : Nat) (hs : s < 2 ^ t.ear.spells.length) (h0 : s ≠ 0) => PAlike_any a1 a2 a3 a4 k1 k2 k3 k4 t bt bc bk but s V h hv hs h0)
  have HPQ := Lib.hid (fun n => hq.at n)
  have hB := hb0
  have y4 := hmX.cells.2.2.2.2.1
  have yz := hmX.bt_lt
  have HNA := Lib.hid (fun h => named_all (t := t) (q := q) h)
  have HNN := Lib.hid (fun n hn h => named_not (t := t) (q := q) (n := n) hn h)
  clear hm hv hb0 hmX hq
  go_enter Tryz.func95, Tryz.ntmps95
  go_upto_region 2 with (fail)
  rw [show (w.alloc (.cells #[.int .i64 (pAt q 0), .int .i64 (pAt q 1), .int .i64 (pAt q 2), .int .i64 (pAt q 3), .int .i64 (pAt q 4), .int .i64 (pAt q 5)] 109)).alloc (.cells #[.int .i64 0, .int .i64 0, .int .i64 0, .int .i64 0, .int .i64 0, .int .i64 0] 109) = X from HX.out.symm]
  go_wp2
  go_loopw [16] (fun i wr => ∃ k : Nat, k ≤ t.ments.length ∧ i = .int .i64 (k : Int) ∧ wr.heap[w.heap.size]? = some (.cells (psCells q) 109 (0, 0)) ∧ wr.heap[w.heap.size + 1]? = some (.cells (psCells (setsL t q k)) 109 (0, 0)) ∧ Below w.heap.size w wr) (fun i _ => t.ments.length - (intOf i).toNat)
  case atStart => exact ⟨0, Nat.zero_le _, rfl, hps, hss, hB⟩
  case round =>
    clear hps hss hB y4 yz
    obtain ⟨k, hk, rfl, hps, hss, hb⟩ := hrel
    by_cases hkt : k < t.ments.length
    · have hmr := HMX.out _ hb
      obtain ⟨b', off, ea, hb', l0, l1, l2, l3, l4⟩ := hmr.town.ments k hkt
      obtain ⟨hs1, hs2⟩ := HSP.out k hkt
      rw [hs1] at l0
      generalize t.ments[k].vill = xv at l1
      generalize t.ments[k].lo = xl at l2
      generalize t.ments[k].hi = xh at l3
      generalize t.ments[k].par = xp at l4
      obtain ⟨n0, hn0⟩ : ∃ n : Nat, pAt q k = (n : Int) := ⟨(pAt q k).toNat, by have := HPQ.out k; omega⟩
      have hn6 : n0 < 6 := by have := HPQ.out k; omega
      have HNX := Lib.hid (setsL_next (t := t) hn0 hn6)
      have hlt := HLT.out n0 k hk
      have hor := or_bitC (setTo' t q n0 k) hlt (spOf t k) (by omega)
      have hwa := pow_wrapL (spOf t k) (by omega)
      have hat := setsL_at t q k hn6
      obtain ⟨V, hV⟩ : ∃ V : World, V = wr.alloc (.cells #[.int .i64 (spOf t k : Int), .int .i64 xv, .int .i64 xl, .int .i64 xh, .int .i64 xp] 38) := ⟨_, rfl⟩
      have hbV : Below wr.heap.size wr V := by rw [hV]; exact (Below.refl _ _).alloc (Nat.le_refl _) _
      have hcV : V.heap[wr.heap.size]? = some (.cells #[.int .i64 (spOf t k : Int), .int .i64 xv, .int .i64 xl, .int .i64 xh, .int .i64 xp] 38 (0, 0)) := by rw [hV]; exact alloc_atE _ _ rfl
      have HV := Lib.hid hV
      have hpV := (hbV.block _ (lt_of_block hps)).trans hps
      have hsV := (hbV.block _ (lt_of_block hss)).trans hss
      have HBV := Lib.hid (hb.trans (hbV.mono hb.size))
      have hzw := hb.size
      clear hV hbV hb hps hss
      go_upto_region 5 with (fail)
      rw [show wr.alloc (.cells #[.int .i64 (spOf t k : Int), .int .i64 xv, .int .i64 xl, .int .i64 xh, .int .i64 xp] 38) = V from HV.out.symm]
      clear l0 l1 l2 l3 l4 ea hb' hmr hs1
      have v0 := blk_cell 0 hcV rfl
      have vz := lt_of_block hcV
      have p0 := ps_cell hpV k (by omega)
      have pz := lt_of_block hpV
      have s0 := ps_cell hsV n0 hn6
      have sz := lt_of_block hsV
      have sf := blk_free n0 hsV
      simp only [List.getElem_toArray, List.getElem_cons_zero] at v0
      rw [hn0] at p0
      rw [hat] at s0
      have HSV := Lib.hid hsV
      have HPV := Lib.hid hpV
      have hk6 : (k : Int) < 6 := by omega
      have hn6I : (n0 : Int) < 6 := by omega
      have hsp64 : (spOf t k : Int) < 64 := by omega
      generalize spOf t k = sp at *
      generalize setTo' t q n0 k = s1 at *
      clear hcV hpV hsV hat
      (focus go_region)
      all_goals
        go_wp2
        go_roundw
        case rel =>
          refine ⟨k + 1, by omega, by go_num, ?_, ?_, ?_⟩
          · exact (Below.heap_setCell _ _ _ _ (by simp)).trans HPV.out
          · have := ps_set (setsL_len t q k) HSV.out n0 ((s1 ||| 2 ^ sp : Nat) : Int)
            rw [HNX.out] at this
            exact this
          · exact below_drew' (HBV.out.setCell (by simp) _)
        case measure => simp [intOf]; omega
    · obtain rfl : k = t.ments.length := by omega
      have HL0 := Lib.hid (Lrn.of_below (bc := bc) (bk := bk) hb)
      have HM0 := Lib.hid (HMX.out _ hb)
      have HSE := Lib.hid (fun n (hn : n < 6) => setsL_at t q t.ments.length hn)
      generalize setsL t q t.ments.length = L at hss HNA HNN HSE
      have c0 := blk_cell 0 hss rfl
      have c1 := blk_cell 1 hss rfl
      have c2 := blk_cell 2 hss rfl
      have c3 := blk_cell 3 hss rfl
      have c4 := blk_cell 4 hss rfl
      have c5 := blk_cell 5 hss rfl
      have cz := lt_of_block hss
      simp only [psCells, List.getElem_toArray, List.getElem_cons_zero, List.getElem_cons_succ] at c0 c1 c2 c3 c4 c5
      clear hps hss hb
      go_wp2
      go_loopw [33] (fun i wr => ∃ j : Nat, j ≤ 6 ∧ i = .int .i64 (j : Int) ∧ Hid (∀ n, n < j → setOk t (pAt L n) = true) ∧ TownW wr bt bc bk a1 a2 a3 a4 k1 k2 k3 k4 t but ∧ Lrn bc bk w wr) (fun i _ => 6 - (intOf i).toNat)
      case atStart => exact ⟨0, by omega, rfl, Lib.hid (fun j h => absurd h (Nat.not_lt_zero j)), HM0.out, HL0.out⟩
      case round =>
        rename World => wr2
        obtain ⟨j, hj, rfl, HR, hm2, hl2⟩ := hrel
        have HM2 := Lib.hid hm2
        have HL2 := Lib.hid hl2
        clear hm2 hl2 c0 c1 c2 c3 c4 c5 cz
        by_cases hj6 : j < 6
        · have NU := Lib.hid (fun h0 : pAt L j ≠ 0 => (show Calls Tryz.prog 137 #[.pointer (some ⟨bt, 0, none⟩), .int .i64 (pAt L j)] wr2 fun e w' => e = .returned (.bool (aliveB t (pAt L j).toNat)) ∧ Lrn bc bk wr2 w' ∧ TownW w' bt bc bk a1 a2 a3 a4 k1 k2 k3 k4 t but from by
            have h1 := HSE.out j (by omega)
            rw [h1] at h0 ⊢
            rw [Int.toNat_natCast]
            exact HAL.out wr2 HM2.out (setTo' t q j t.ments.length) (HLT2.out j) (fun e => h0 (by omega))))
          have HO : Hid (setOk t (pAt L j) = (pAt L j == 0 || aliveB t (pAt L j).toNat)) := Lib.hid rfl
          have HNO := Lib.hid (HNN.out j (by omega))
          have HGO := Lib.hid (fun (h : setOk t (pAt L j) = true) => rules_more' HR.out h)
          have hix := ps_index L hj6 wr2
          unfold psV at hix
          generalize hz0 : pAt L j = z at NU HO HNO HGO hix
          clear hz0
          by_cases hz : z = 0
          · have e1 : (z != 0) = false := by simp [hz]
            have HG := Lib.hid (HGO.out (by rw [HO.out]; simp [hz]))
            clear hz
            go_wp2
            go_roundw
            case rel => exact ⟨j + 1, by omega, by go_num, HG, HM2.out, HL2.out⟩
            case measure => simp [intOf]; omega
          · have e1 : (z != 0) = true := by simpa using hz
            have NZ := Lib.hid (NU.out hz)
            generalize aliveB t z.toNat = ab at NZ HO
            cases ab
            · have HF := Lib.hid (HNO.out (by rw [HO.out]; simp [hz]))
              clear hz
              go_wp2_with (go_at_call 137; go_must ((with_reducible refine NZ.out.mono ?_); rintro e w3 ⟨rfl, hl3, ht3⟩; dsimp only))
              go_ret
              exact ⟨by rw [HF.out]; rfl, HL2.out.trans hl3, ht3⟩
            · have HG := Lib.hid (HGO.out (by rw [HO.out]; simp))
              clear hz
              go_wp2_with (go_at_call 137; go_must ((with_reducible refine NZ.out.mono ?_); rintro e w3 ⟨rfl, hl3, ht3⟩; dsimp only))
              go_roundw
              case rel => exact ⟨j + 1, by omega, by go_num, HG, ht3, HL2.out.trans hl3⟩
              case measure => simp [intOf]; omega
        · obtain rfl : j = 6 := by omega
          have HE := Lib.hid (HNA.out (fun n hn => HR.out n hn))
          go_wp2
          go_ret
          exact ⟨by rw [HE.out]; rfl, HL2.out, HM2.out⟩
end Go.Proofs.YtklconegomgjaaaGreat
namespace Go.Proofs.YtklconegomgjaaaGreat
open Go Go.RowKit Go.Shelf

theorem father_none {t : PeW} {q : List Int} {k : Nat} (h : fatherTo t q k = none) : ∀ m, fatherTo t q (k + m) = none
  | 0 => h
  | m + 1 => by rw [← Nat.add_assoc, fatherTo, father_none h m]
theorem fathered_not {t : PeW} {q : List Int} {k : Nat} (hk : k ≤ t.ments.length) (h : fatherTo t q k = none) : fatheredB t q = false := by
  unfold fatheredB
  have := father_none h (t.ments.length - k)
  rw [Nat.add_sub_of_le hk] at this
  rw [this]
  rfl
theorem fathered_yes {t : PeW} {q f : List Int} (h : fatherTo t q t.ments.length = some f) : fatheredB t q = true := by
  unfold fatheredB
  rw [h]
  rfl
theorem father_skip {t : PeW} {q f : List Int} {k : Nat} (h : fatherTo t q k = some f) (hp : (mentAt t k).par = -1) : fatherTo t q (k + 1) = some f := by
  rw [fatherTo, h]
  simp only [hp, if_true]
theorem father_own {t : PeW} {q f : List Int} {k np n0 pp : Nat} (h : fatherTo t q k = some f) (hp : (mentAt t k).par = (np : Int)) (hq : pAt q k = (n0 : Int)) (hr : pAt q np = (pp : Int)) :
    fatherTo t q (k + 1) = if n0 = pp ∨ (pAt f n0 ≠ 0 ∧ pAt f n0 ≠ (pp : Int) + 1) then none else some (f.set n0 ((pp : Int) + 1)) := by
  rw [fatherTo, h]
  simp only [hp, hq, Int.toNat_natCast, hr]
  rw [if_neg (by omega)]
  by_cases c : n0 = pp ∨ (pAt f n0 ≠ 0 ∧ pAt f n0 ≠ (pp : Int) + 1)
  · rw [if_pos c, if_pos]
    rcases c with c | c
    · exact .inl (by omega)
    · exact .inr c
  · rw [if_neg c, if_neg]
    intro h
    refine c ?_
    rcases h with h | h
    · exact .inl (by omega)
    · exact .inr h
set_option maxRecDepth 100000 in
set_option maxHeartbeats 4000000 in
theorem PFathered_any (a1 a2 a3 a4 : Option Addr) (k1 k2 k3 k4 : Nat) (t : PeW) (bt bc bk but : Nat) (q : List Int) (w : World) (hm : TownW w bt bc bk a1 a2 a3 a4 k1 k2 k3 k4 t but) (hv : PeOk t) (hq : PsOk q) :
    Calls Tryz.prog 143 #[.pointer (some ⟨bt, 0, none⟩), psV q] w fun e w' => e = .returned (.bool (fatheredB t q)) ∧ Below w.heap.size w w' := by
  have hnm := hv.nm
  have hlm := hm.town.okm.len
  obtain ⟨X, hX⟩ : ∃ X : World, X = (w.alloc (.cells (psCells q) 109)).alloc (.cells (psCells noOf) 109) := ⟨_, rfl⟩
  have hps : X.heap[w.heap.size]? = some (.cells (psCells q) 109 (0, 0)) := by rw [hX]; exact (heap_alloc_old _ _ (by simp)).trans (alloc_atE _ _ rfl)
  have hss : X.heap[w.heap.size + 1]? = some (.cells (psCells noOf) 109 (0, 0)) := by rw [hX]; exact alloc_atE _ _ (by simp)
  have hb0 : Below w.heap.size w X := by rw [hX]; exact ((Below.refl _ _).alloc (Nat.le_refl _) _).alloc (by simp) _
  have HX := Lib.hid hX
  clear hX
  have hmX := hm.below hb0
  have HMX := Lib.hid (fun (V : World) (h : Below w.heap.size w V) => hm.below h)
  have HSP := Lib.hid (fun k (hk : k < t.ments.length) => (show -1 ≤ (mentAt t k).par ∧ (mentAt t k).par < t.ments.length from by
    have := hv.ment k hk
    rw [mentAt_is hk]
    omega))
  have HPQ := Lib.hid (fun n => hq.at n)
  have hB := hb0
  have y4 := hmX.cells.2.2.2.2.1
  have yz := hmX.bt_lt
  clear hm hv hb0 hmX hq
  go_enter Tryz.func143, Tryz.ntmps143
  go_upto_region 2 with (fail)
  rw [show (w.alloc (.cells #[.int .i64 (pAt q 0), .int .i64 (pAt q 1), .int .i64 (pAt q 2), .int .i64 (pAt q 3), .int .i64 (pAt q 4), .int .i64 (pAt q 5)] 109)).alloc (.cells #[.int .i64 0, .int .i64 0, .int .i64 0, .int .i64 0, .int .i64 0, .int .i64 0] 109) = X from HX.out.symm]
  go_wp2
  go_loopw [16] (fun i wr => ∃ (k : Nat) (f : List Int), k ≤ t.ments.length ∧ i = .int .i64 (k : Int) ∧ Hid (fatherTo t q k = some f) ∧ f.length = 6 ∧ wr.heap[w.heap.size]? = some (.cells (psCells q) 109 (0, 0)) ∧ wr.heap[w.heap.size + 1]? = some (.cells (psCells f) 109 (0, 0)) ∧ Below w.heap.size w wr) (fun i _ => t.ments.length - (intOf i).toNat)
  case atStart => exact ⟨0, noOf, Nat.zero_le _, rfl, Lib.hid rfl, rfl, hps, hss, hB⟩
  case round =>
    clear hps hss hB y4 yz
    obtain ⟨k, f, hk, rfl, HF, hfl, hps, hss, hb⟩ := hrel
    by_cases hkt : k < t.ments.length
    · have hmr := HMX.out _ hb
      obtain ⟨b', off, ea, hb', l0, l1, l2, l3, l4⟩ := hmr.town.ments k hkt
      have hpar := HSP.out k hkt
      have HPK := Lib.hid (mentAt_is hkt)
      generalize t.ments[k].spell = xs at l0
      generalize t.ments[k].vill = xv at l1
      generalize t.ments[k].lo = xl at l2
      generalize t.ments[k].hi = xh at l3
      rw [← HPK.out] at l4
      generalize hxp : (mentAt t k).par = xp at l4 hpar
      have HXP := Lib.hid hxp
      clear hxp
      obtain ⟨V, hV⟩ : ∃ V : World, V = wr.alloc (.cells #[.int .i64 xs, .int .i64 xv, .int .i64 xl, .int .i64 xh, .int .i64 xp] 38) := ⟨_, rfl⟩
      have hbV : Below wr.heap.size wr V := by rw [hV]; exact (Below.refl _ _).alloc (Nat.le_refl _) _
      have hcV : V.heap[wr.heap.size]? = some (.cells #[.int .i64 xs, .int .i64 xv, .int .i64 xl, .int .i64 xh, .int .i64 xp] 38 (0, 0)) := by rw [hV]; exact alloc_atE _ _ rfl
      have HV := Lib.hid hV
      have hpV := (hbV.block _ (lt_of_block hps)).trans hps
      have hsV := (hbV.block _ (lt_of_block hss)).trans hss
      have HBV := Lib.hid (hb.trans (hbV.mono hb.size))
      have hzw := hb.size
      clear hV hbV hb hps hss
      go_upto_region 5 with (fail)
      rw [show wr.alloc (.cells #[.int .i64 xs, .int .i64 xv, .int .i64 xl, .int .i64 xh, .int .i64 xp] 38) = V from HV.out.symm]
      clear l0 l1 l2 l3 l4 ea hb' hmr
      have v3 := blk_cell 4 hcV rfl
      have vz := lt_of_block hcV
      simp only [List.getElem_toArray, List.getElem_cons_zero, List.getElem_cons_succ] at v3
      by_cases hx1 : xp = -1
      · have e1 : (xp == -1) = true := by simp [hx1]
        have HFN := Lib.hid (father_skip HF.out (HXP.out.trans hx1))
        clear hx1
        go_wp2
        go_roundw
        case rel => exact ⟨k + 1, f, by omega, by go_num, HFN, hfl, hpV, hsV, HBV.out⟩
        case measure => simp [intOf]; omega
      · have e1 : (xp == -1) = false := by simpa using hx1
        obtain ⟨np, rfl⟩ : ∃ n : Nat, xp = (n : Int) := ⟨xp.toNat, by omega⟩
        obtain ⟨n0, hn0⟩ : ∃ n : Nat, pAt q k = (n : Int) := ⟨(pAt q k).toNat, by have := HPQ.out k; omega⟩
        obtain ⟨pp, hpp⟩ : ∃ n : Nat, pAt q np = (n : Int) := ⟨(pAt q np).toNat, by have := HPQ.out np; omega⟩
        have hn6 : n0 < 6 := by have := HPQ.out k; omega
        have hp6 : pp < 6 := by have := HPQ.out np; omega
        have HFN := Lib.hid (father_own HF.out HXP.out hn0 hpp)
        have p0 := ps_cell hpV k (by omega)
        have p1 := ps_cell hpV np (by omega)
        have pz := lt_of_block hpV
        have s0 := ps_cell hsV n0 hn6
        have sz := lt_of_block hsV
        have sf := blk_free n0 hsV
        rw [hn0] at p0
        rw [hpp] at p1
        have HSV := Lib.hid hsV
        have HPV := Lib.hid hpV
        have HCV := Lib.hid hcV
        have hk6 : (k : Int) < 6 := by omega
        have hnp6 : (np : Int) < 6 := by omega
        have hn6I : (n0 : Int) < 6 := by omega
        have hp6I : (pp : Int) < 6 := by omega
        generalize hzz : pAt f n0 = z at s0 HFN
        clear hzz hcV hpV hsV hx1 hn0 hpp
        go_upto_region 6 with (fail)
        go_quiet (fail)
        obtain ⟨U, hU⟩ : ∃ U : World, U = V.drewN nq := ⟨_, rfl⟩
        rw [← hU]
        have HBU := Lib.hid (show Below w.heap.size w U from by rw [hU]; exact below_drewN' HBV.out _)
        have HPU := Lib.hid (show U.heap[w.heap.size]? = some (.cells (psCells q) 109 (0, 0)) from by rw [hU]; exact HPV.out)
        have HSU := Lib.hid (show U.heap[w.heap.size + 1]? = some (.cells (psCells f) 109 (0, 0)) from by rw [hU]; exact HSV.out)
        replace s0 : U.cell? ⟨w.heap.size + 1, n0, none⟩ = some (.int .i64 z) := by rw [hU, drewN_cell]; exact s0
        replace sz : w.heap.size + 1 < U.heap.size := by rw [hU]; exact sz
        have sf2 : U.frozen? ⟨w.heap.size + 1, n0, none⟩ = false := blk_free n0 HSU.out
        clear hU v3 vz p0 p1 pz sf
        by_cases c1 : n0 = pp
        · have e2 : ((n0 : Int) == (pp : Int)) = true := eqi_t (by omega)
          have e3 : (n0 == pp) = true := by simpa using c1
          have HF2 := Lib.hid (fathered_not (t := t) (q := q) (k := k + 1) (by omega) (by rw [HFN.out, if_pos (.inl c1)]))
          clear c1
          go_wp2
          clear s0 sz sf2
          go_ret
          exact ⟨by rw [HF2.out]; rfl, HBU.out⟩
        · have e2 : ((n0 : Int) == (pp : Int)) = false := eqi_f (by omega)
          have e3 : (n0 == pp) = false := by simpa using c1
          by_cases c2 : z = 0
          · have e4 : (z != 0) = false := by simp [c2]
            have HF2 : Hid (fatherTo t q (k + 1) = some (f.set n0 ((pp : Int) + 1))) := Lib.hid (by rw [HFN.out, if_neg (fun h => h.elim c1 (fun h => h.1 c2))])
            clear c1 c2
            have HST := Lib.hid (ps_set hfl HSU.out n0 ((pp : Int) + 1))
            go_wp2
            go_roundw
            case rel => exact ⟨k + 1, f.set n0 ((pp : Int) + 1), by omega, by go_num, HF2, by rw [List.length_set]; exact hfl, (Below.heap_setCell _ _ _ _ (by simp)).trans HPU.out, HST.out, HBU.out.setCell (by simp) _⟩
            case measure => simp [intOf]; omega
          · have e4 : (z != 0) = true := by simpa using c2
            by_cases c3 : z = (pp : Int) + 1
            · have e5 : (z != (pp : Int) + 1) = false := by simp [c3]
              have HF2 : Hid (fatherTo t q (k + 1) = some (f.set n0 ((pp : Int) + 1))) := Lib.hid (by rw [HFN.out, if_neg (fun h => h.elim c1 (fun h => h.2 c3))])
              clear c1 c2 c3
              have HST := Lib.hid (ps_set hfl HSU.out n0 ((pp : Int) + 1))
              go_wp2
              go_roundw
              case rel => exact ⟨k + 1, f.set n0 ((pp : Int) + 1), by omega, by go_num, HF2, by rw [List.length_set]; exact hfl, (Below.heap_setCell _ _ _ _ (by simp)).trans HPU.out, HST.out, HBU.out.setCell (by simp) _⟩
              case measure => simp [intOf]; omega
            · have e5 : (z != (pp : Int) + 1) = true := by simpa using c3
              have HF2 := Lib.hid (fathered_not (t := t) (q := q) (k := k + 1) (by omega) (by rw [HFN.out, if_pos (.inr ⟨c2, c3⟩)]))
              clear c1 c2 c3
              go_wp2
              clear s0 sz sf2
              go_ret
              exact ⟨by rw [HF2.out]; rfl, HBU.out⟩
    · obtain rfl : k = t.ments.length := by omega
      have HE := Lib.hid (fathered_yes HF.out)
      go_wp2
      go_ret
      exact ⟨by rw [HE.out]; rfl, hb⟩
end Go.Proofs.YtklconegomgjaaaGreat
