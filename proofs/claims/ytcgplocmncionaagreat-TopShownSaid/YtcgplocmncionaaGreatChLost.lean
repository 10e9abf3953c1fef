/- What is proved here: the contract of Lost of layer 10, at a chest in which nothing is wrong and which has a copy. Conditions: it lies in memory. -/
import Derived.Test.YtcgplocmncionaaGreatChLookG
import Derived.Test.YtcgplocmncionaaGreatChFirst
import Derived.Laws.CopyOwn
import Derived.IntWalk
import Derived.Test.YtcgplocmncionaaGreatSrG
set_option linter.unusedVariables false
set_option linter.unusedSimpArgs false
namespace Go.Proofs.YtcgplocmncionaaGreat
open Go Go.RowKit Go.Shelf

theorem E_chcopy : ElemInfo Tryz.prog 38 45 (.agg #[.int .i64 0, .int .i64 0, .int .i64 0, .int .i64 0]) 4 32 := ⟨by kernel_rfl, by kernel_rfl, rfl, by decide⟩
theorem run_copy_rowK {P : Program} (w : World) (dT sT ty elem : TypeId) (g dLen dCap : Nat) (a : Addr) (sLen sCap k : Nat) (cur : Array Value) (t : TypeId) (cs : List Value)
    (hu : P.underlying dT = some (.slice elem)) (hs : (P.info? elem).map (·.size) = some k)
    (hg : w.heap[g]? = some (.cells cur t (0, 0))) (hn : cs.length = Nat.min sLen dLen * k)
    (hsrc : ∀ j v, cs[j]? = some v → w.cell? (a.add j) = some v) (hfit : cs.length = cur.size) (h1 : ∀ v ∈ cs, v.oneCell' = true) :
    (Builtin.copy_ #[dT, sT] ty #[.slice (some ⟨g, 0, none⟩) dLen dCap, .slice (some a) sLen sCap]).run P w = .ok (goInt (Nat.min sLen dLen)) (w.setRow g cs.toArray) := by
  have hl := run_loadCells_list (P := P) w a cs hsrc
  have hst := run_storeCells_at P g 0 t cs 0 cur w hg (by omega) h1
  have hd : cur.toList.drop cs.length = [] := List.drop_of_length_le (by rw [hfit]; simp)
  simp only [Nat.zero_add, List.take_zero, List.nil_append, hd, List.append_nil] at hst
  cases hq : P.info? elem with
  | none => simp [hq] at hs
  | some i =>
    have hi : i.size = k := by simpa [hq] using hs
    simp [Builtin.copy_, run_underlying hu, Builtin.lenOf, Builtin.firstCells, sizeOf, typeInfo, hq, hi, ← hn, hl, hst]
def copyCells (x : ChC) : List Value := [.int .i64 x.number, .int .i64 x.words, .int .i64 x.facts, .int .i64 x.may]
theorem copyCells_len (x : ChC) : (copyCells x).length = 4 := rfl
theorem copies_flat {w : World} {a : Option Addr} {l : List ChC} (h : ChCopiesC w a l) : FlatAt copyCells 4 w a l := fun i hi => by
  obtain ⟨b, off, e, hb, h0, h1, h2, h3⟩ := h i hi
  refine ⟨b, off, e, hb, fun r u hr hu => ?_⟩
  obtain rfl | rfl | rfl | rfl : r = 0 ∨ r = 1 ∨ r = 2 ∨ r = 3 := by omega
  all_goals (have hu' := Option.some.inj hu; subst hu')
  · exact h0
  · exact h1
  · exact h2
  · exact h3
theorem copies_block {w : World} {g : Nat} {l : List ChC} {t : TypeId} (h : w.heap[g]? = some (.cells (flatC copyCells l).toArray t (0, 0))) : ChCopiesC w (some ⟨g, 0, none⟩) l := fun i hi => by
  have hx : ∀ r (hr : r < 4), w.cell? ⟨g, 0 + (i * 4 + r), none⟩ = (copyCells l[i])[r]? := fun r hr => by
    have := flatC_get (f := copyCells) copyCells_len l i hi r hr
    rw [Nat.zero_add]
    obtain ⟨u, hu⟩ : ∃ u, (copyCells l[i])[r]? = some u := ⟨_, List.getElem?_eq_getElem (show r < (copyCells l[i]).length from hr)⟩
    rw [hu] at this ⊢
    exact blk_cell _ h (by simpa using this)
  exact ⟨g, 0, rfl, lt_of_block h, hx 0 (by omega), hx 1 (by omega), hx 2 (by omega), hx 3 (by omega)⟩
def lostTo (c : ChH) (n : Nat) : List Int := (((List.range n).filter fun (i : Nat) => !c.copies.any fun x => x.number == (i : Int) + 1).map (· + 1)).map fun (x : Nat) => (x : Int)
theorem lostTo_len (c : ChH) (n : Nat) : (lostTo c n).length ≤ n := by
  unfold lostTo
  rw [List.length_map, List.length_map]
  have := List.length_filter_le (fun (i : Nat) => !c.copies.any fun x => x.number == (i : Int) + 1) (List.range n)
  simpa using this
theorem lostTo_yes {c : ChH} {n k : Nat} (hk : k < c.copies.length) (h : c.copies[k].number = (n : Int) + 1) : lostTo c (n + 1) = lostTo c n := by
  unfold lostTo
  rw [List.range_succ, List.filter_append]
  have : (c.copies.any fun x => x.number == (n : Int) + 1) = true := List.any_eq_true.2 ⟨_, List.getElem_mem hk, by simpa using h⟩
  simp [this]
theorem copies_mono {c : ChH} (hv : ChValid c) : ∀ i j (hi : i < c.copies.length) (hj : j < c.copies.length), i < j → c.copies[i].number < c.copies[j].number := fun i j hi hj h => by
  induction j with
  | zero => omega
  | succ j ih =>
    have h1 := hv.order j hj
    by_cases e : i = j
    · subst e; exact h1
    · have := ih (by omega) (by omega); omega
theorem lostTo_no {c : ChH} (hv : ChValid c) {n k : Nat} (h0 : ∀ j (_ : j < k) (hj : j < c.copies.length), c.copies[j].number ≤ n) (h1 : ∀ hk : k < c.copies.length, (n : Int) + 1 < c.copies[k].number) : lostTo c (n + 1) = lostTo c n ++ [(n : Int) + 1] := by
  unfold lostTo
  rw [List.range_succ, List.filter_append]
  have : (c.copies.any fun x => x.number == (n : Int) + 1) = false := by
    rw [List.any_eq_false]
    intro x hx
    obtain ⟨j, hj, rfl⟩ := List.getElem_of_mem hx
    rcases Nat.lt_or_ge j k with h | h
    · have := h0 j h hj; simp; omega
    · have h2 := h1 (by omega)
      by_cases e : k = j
      · subst e; simp; omega
      · have := copies_mono hv k j (by omega) hj (by omega); simp; omega
  simp [this]
set_option maxRecDepth 100000 in
set_option maxHeartbeats 4000000 in
theorem CLost_any (ap ac ar : Option Addr) (kp kc kr : Nat) (c : ChH) (w : World) (hm : ChestC w ap ac ar kp kc kr c) (hv : ChValid c) (hc0 : 0 < c.copies.length) :
    Calls Tryz.prog 28 #[(.agg #[.int .i64 c.words, .int .i64 c.facts, .slice ap c.people.length kp, .int .i64 c.last, .slice ac c.copies.length kc, .slice ar c.rules.length kr])] w fun e w' => ∃ v, e = .returned (.tuple #[v, .int .i64 0]) ∧ IntsN w.heap.size w' v (lostTo c c.last.toNat) ∧ Below w.heap.size w w' := by
  have l2 := hm.okc.len
  have nc6 := hv.nc
  have hla := hv.last
  have hQ := Below.refl (w.heap.size + 1) (w.alloc (.cells #[.int .i64 c.words, .int .i64 c.facts, .slice ap c.people.length kp, .int .i64 c.last, .slice ac c.copies.length kc, .slice ar c.rules.length kr] 41))
  have EN := Lib.hid (CEnter_any ap ac ar kp kc kr c none [] 0 _ (hm.mono (box_old hQ)) hv ⟨by simp, by omega, fun _ => rfl⟩ (IntsC.nil _ _) (by simp) (by simp) (fun j h _ => by simp at h))
  obtain ⟨x0, x1, x2, x3, x4, x5, xz⟩ := box_chest hQ
  go_enter Tryz.func28, Tryz.ntmps28
  go_upto_region 4 with (go_at_call 40; go_must (refine EN.out.mono ?_; rintro e w2 ⟨bm, bo, rfl, hR, hb2, hbo⟩; dsimp only))
  have hQ2 := hQ.trans (hb2.mono (by simp))
  clear x0 x1 x2 x3 x4 x5 xz hQ hR hbo
  obtain ⟨x0, x1, x2, x3, x4, x5, xz⟩ := box_chest hQ2
  have hmk : (Instr.makeSlice 38 (.int .i64 (c.copies.length : Int)) (.int .i64 (c.copies.length : Int))).run Tryz.prog w2 = .ok (.slice (some ⟨w2.heap.size, 0, none⟩) c.copies.length c.copies.length) (w2.alloc (.cells (madeCells #[.int .i64 0, .int .i64 0, .int .i64 0, .int .i64 0] (c.copies.length * 4)) 45)) := by
    obtain ⟨i, hi, hz, hsz, hby⟩ := info_parts E_chcopy.info
    have := run_makeSlice (P := Tryz.prog) w2 38 45 i _ E_chcopy.und hi hz .i64 .i64 c.copies.length c.copies.length (by omega) (Int.le_refl _) (by rw [hsz, Int.toNat_natCast]; omega) (by rw [hby]; omega) (by omega)
    rw [hsz, Int.toNat_natCast] at this
    exact this
  go_upto_region 5 with (fail)
  obtain ⟨Y, hY⟩ : ∃ Y : World, Y = w2.alloc (.cells (madeCells #[.int .i64 0, .int .i64 0, .int .i64 0, .int .i64 0] (c.copies.length * 4)) 45) := ⟨_, rfl⟩
  rw [← hY]
  have hYB : Y.heap[w2.heap.size]? = some (.cells (madeCells #[.int .i64 0, .int .i64 0, .int .i64 0, .int .i64 0] (c.copies.length * 4)) 45 (0, 0)) := by rw [hY]; exact alloc_at _ _ rfl
  have hQY : Below (w.heap.size + 1) (w.alloc (.cells #[.int .i64 c.words, .int .i64 c.facts, .slice ap c.people.length kp, .int .i64 c.last, .slice ac c.copies.length kc, .slice ar c.rules.length kr] 41)) Y := by rw [hY]; exact hQ2.alloc (box_size hQ2) _
  clear hY hmk x0 x1 x2 x3 x4 x5 xz
  obtain ⟨x0, x1, x2, x3, x4, x5, xz⟩ := box_chest hQY
  obtain ⟨b, off, rfl, hbb, -⟩ := (hm.mono (box_old hQY)).copies 0 hc0
  have hcp : ∀ ty, (Builtin.copy_ #[38, 38] ty #[.slice (some ⟨w2.heap.size, 0, none⟩) c.copies.length c.copies.length, .slice (some ⟨b, off, none⟩) c.copies.length kc]).run Tryz.prog Y = .ok (goInt c.copies.length) (Y.setRow w2.heap.size (flatC copyCells c.copies).toArray) := fun ty => by
    have hsr := SrcAt.flat (n := 4) copyCells_len (by decide) (fun x u hu => by simp [copyCells] at hu; rcases hu with rfl | rfl | rfl | rfl <;> rfl) (fun e => by cases e) (copies_flat (hm.mono (box_old hQY)).copies) (c := kc)
    obtain ⟨s1, s2, s3⟩ := hsr
    rcases s3 with ⟨s3, -⟩ | ⟨ad, cc, e, s3⟩
    · cases s3
    · cases e
      have := run_copy_rowK (P := Tryz.prog) Y 38 38 ty 45 w2.heap.size c.copies.length c.copies.length ⟨b, off, none⟩ c.copies.length kc 4 _ _ (flatC copyCells c.copies) (by kernel_rfl) (by kernel_rfl) hYB (by rw [flatC_len copyCells_len, show Nat.min c.copies.length c.copies.length = c.copies.length from Nat.min_self _]) s3 (by rw [flatC_len copyCells_len, size_madeCells]) s2
      rwa [show Nat.min c.copies.length c.copies.length = c.copies.length from Nat.min_self _] at this
  go_upto_region 6 with (fail)
  obtain ⟨Z, hZ⟩ : ∃ Z : World, Z = Y.setRow w2.heap.size (flatC copyCells c.copies).toArray := ⟨_, rfl⟩
  rw [← hZ]
  have hZB := setRow_heap Y w2.heap.size _ (flatC copyCells c.copies).toArray _ _ hYB
  have hw2 : w.heap.size < w2.heap.size := box_size hQ2
  have hQZ : Below (w.heap.size + 1) (w.alloc (.cells #[.int .i64 c.words, .int .i64 c.facts, .slice ap c.people.length kp, .int .i64 c.last, .slice (some ⟨b, off, none⟩) c.copies.length kc, .slice ar c.rules.length kr] 41)) Z := by rw [hZ]; exact below_setRow hQY hw2 _
  rw [← hZ] at hZB
  have hCZ := copies_block hZB
  have hCL := Lib.hid (fun (U : World) (h : Below Z.heap.size Z U) => hCZ.mono h)
  clear hZ hZB hYB hcp x0 x1 x2 x3 x4 x5 xz hQY hCZ
  obtain ⟨x0, x1, x2, x3, x4, x5, xz⟩ := box_chest hQZ
  obtain ⟨nl, hnl⟩ : ∃ nl : Nat, c.last = nl := ⟨c.last.toNat, by omega⟩
  have HNL := Lib.hid hnl
  have hnl30 : nl ≤ 30 := by omega
  rw [hnl] at x3
  clear hnl hla
  go_upto_region 7 with (fail)
  clear x0 x1 x2 x3 x4 x5 xz EN hQ2 hb2
  go_loopw [2, 4, 24] (fun o lf i V => ∃ (n k : Nat) (a : Option Addr) (cc : Nat), n ≤ nl ∧ k ≤ c.copies.length ∧ i = .int .i64 n ∧ lf = .slice a (c.copies.length - k) cc ∧ Hid (k < c.copies.length → a = some ⟨w2.heap.size, k * 4, none⟩ ∧ cc = c.copies.length - k) ∧ Hid (∀ j (_ : j < k) (hj : j < c.copies.length), c.copies[j].number ≤ n) ∧ Hid (∀ hk : k < c.copies.length, (n : Int) < c.copies[k].number) ∧ V.ownsRow Z.heap.size 3 1 o (lostTo c n).length ((lostTo c n).map (Value.int .i64)) ∧ Below Z.heap.size Z V) (fun _ _ i _ => nl - (intOf i).toNat)
  case atStart => exact ⟨0, 0, _, _, Nat.zero_le _, Nat.zero_le _, rfl, rfl, Lib.hid (fun _ => ⟨by rw [Nat.zero_mul], rfl⟩), Lib.hid (fun j h => absurd h (Nat.not_lt_zero j)), Lib.hid (fun hk => by have := (hv.copy 0 hk).1; simp; omega), World.ownsRow_nil _ _ _ _, Below.refl _ _⟩
  case round =>
    rename World => V
    obtain ⟨n, k, a, cc, hn, hk, rfl, rfl, HA, H0, H1, hown, hB⟩ := hrel
    have hB1 := hB.size
    by_cases hlt : n < nl
    · have hll := lostTo_len c n
      have hni : (n : Int) < nl := by omega
      have hn30 : (n : Int) ≤ 30 := by omega
      have hn1 : IntKind.i64.wrap ((n : Int) + 1) = (n : Int) + 1 := IntWalk.i64_in _ (by omega)
      by_cases hkl : k < c.copies.length
      · obtain ⟨rfl, rfl⟩ := HA.out hkl
        obtain ⟨b', off', e', hbb', h0, -⟩ := (hCL.out V hB) k hkl
        cases e'
        rw [Nat.zero_add] at h0
        have HORD := Lib.hid (fun h => hv.order k h)
        have hgt := H1.out hkl
        have HY := Lib.hid (fun h => lostTo_yes (n := n) hkl h)
        have HN := Lib.hid (fun h : (n : Int) + 1 < c.copies[k].number => lostTo_no hv (n := n) (k := k) (fun j h1 h2 => H0.out j h1 h2) (fun _ => h))
        have HXE : Hid (∀ j (hj : j < c.copies.length), j = k → c.copies[j].number = c.copies[k].number) := Lib.hid (fun j hj e => by subst e; rfl)
        obtain ⟨x, hx⟩ : ∃ x, x = c.copies[k].number := ⟨_, rfl⟩
        rw [← hx] at h0 hgt HY HN HXE
        have HX := Lib.hid hx
        clear hx
        obtain ⟨m, hmk⟩ : ∃ m, m = c.copies.length - k := ⟨_, rfl⟩
        rw [← hmk] at HA ⊢
        have HMK := Lib.hid hmk
        have hm0 : 0 < m := by omega
        have hm6 : m ≤ 6 := by omega
        have hbV := lt_of_cell h0
        clear hmk
        by_cases hxe : x = (n : Int) + 1
        · have g1 := eqi_t hxe
          have HLT := Lib.hid (HY.out hxe)
          have HXN := Lib.hid hxe
          clear hxe HY HN
          go_wp2
          go_roundw
          case rel =>
            have hmk := HMK.out
            have hk1 : c.copies.length - (k + 1) = m - 1 := by omega
            exact ⟨n + 1, k + 1, if m = 1 then some ⟨w2.heap.size, k * 4, none⟩ else some ⟨w2.heap.size, k * 4 + 4, none⟩, m - 1, by omega, by omega, by go_num, by rw [hk1], Lib.hid (fun hk2 => ⟨by rw [if_neg (by omega), Nat.succ_mul], hk1.symm⟩), Lib.hid (fun j h1 h2 => by
              by_cases hjk : j < k
              · have := H0.out j hjk h2; push_cast; omega
              · have h3 := HXE.out j h2 (by omega); have h4 := HXN.out; rw [h3, h4]; push_cast; omega), Lib.hid (fun hk2 => by have h1 := HORD.out hk2; have h2 := HX.out; have h3 := HXN.out; rw [← h2, h3] at h1; push_cast; omega), by rw [HLT.out]; exact hown, hB⟩
          case measure => simp [intOf]; omega
        · have g1 := eqi_f hxe
          have HLT := Lib.hid (HN.out (by omega))
          have HXN := Lib.hid hxe
          clear hxe HY HN
          generalize lostTo c n = L at hown HLT hll
          go_wp2_with (at_builtin; go_must (refine wpList_app (.tmp 41) (.tmp 44) E_int rfl rfl rfl rfl Z.heap.size L.length 1 (L.map (Value.int .i64)) [.int .i64 ((n : Int) + 1)] (hown.alloc _) (SrcAt.one _ _ _ rfl) (by omega) (by decide) (by simp; omega) ?_; intro v2 w3 ho2 hg2 _; (have hb2 := app_next hB (Nat.le_refl _) (Nat.le_refl _) hown hg2); clear hg2; simp only [Act.put, List.setIfInBounds_toArray, List.set_cons_succ, List.set_cons_zero]))
          go_roundw
          case rel => exact ⟨n + 1, k, _, _, by omega, hk, by go_num, by rw [HMK.out], by rw [← HMK.out]; exact HA, Lib.hid (fun j h1 h2 => by have := H0.out j h1 h2; omega), Lib.hid (fun hk2 => by have h1 := HX.out; have h2 := HXN.out; rw [← h1]; push_cast; omega), by rw [HLT.out]; simpa using ho2, hb2⟩
          case measure => simp [intOf]; omega
      · obtain rfl : k = c.copies.length := by omega
        have HLT := Lib.hid (lostTo_no hv (n := n) (k := c.copies.length) (fun j h1 h2 => H0.out j h1 h2) (fun h => absurd h (Nat.lt_irrefl _)))
        rw [Nat.sub_self]
        generalize lostTo c n = L at hown HLT hll
        go_wp2_with (at_builtin; go_must (refine wpList_app (.tmp 41) (.tmp 44) E_int rfl rfl rfl rfl Z.heap.size L.length 1 (L.map (Value.int .i64)) [.int .i64 ((n : Int) + 1)] (hown.alloc _) (SrcAt.one _ _ _ rfl) (by omega) (by decide) (by simp; omega) ?_; intro v2 w3 ho2 hg2 _; (have hb2 := app_next hB (Nat.le_refl _) (Nat.le_refl _) hown hg2); clear hg2; simp only [Act.put, List.setIfInBounds_toArray, List.set_cons_succ, List.set_cons_zero]))
        go_roundw
        case rel => exact ⟨n + 1, c.copies.length, _, _, by omega, Nat.le_refl _, by go_num, by rw [Nat.sub_self], Lib.hid (fun h => absurd h (Nat.lt_irrefl _)), Lib.hid (fun j h1 h2 => by have := H0.out j h1 h2; omega), Lib.hid (fun h => absurd h (Nat.lt_irrefl _)), by rw [HLT.out]; simpa using ho2, hb2⟩
        case measure => simp [intOf]; omega
    · obtain rfl : n = nl := by omega
      go_wp2
      go_ret2
      have hz := (box_old hQZ).size
      have hI := ints_ownN hown
      refine ⟨_, rfl, ?_, (box_old hQZ).trans (hB.mono hz)⟩
      rw [HNL.out, Int.toNat_natCast]
      exact hI.weak hz
end Go.Proofs.YtcgplocmncionaaGreat
