/- What is proved here: the contract of look. Conditions: the list is valid. -/
import Derived.Test.YtnlolliankhfmaaLook7
import Derived.Test.YtnlolliankhfmaaPlain
import Derived.Test.YtnlolliankhfmaaGround
set_option linter.unusedVariables false
set_option linter.unusedSimpArgs false
namespace Go.Proofs.Ytnlolliankhfmaa
open Go Go.RowKit Go.Shelf
attribute [local go_sem] Oper.semAt_some

/-- The block of a list that is looked at. -/
def LBlk (W : World) (bm : Nat) (ac az aw ap : Option Addr) (cc cz cw cp : Nat) (m : MoList) (c bo : Nat) (E : List Int) : Prop :=
  W.heap[bm]? = some (.cells ((([.slice ac m.claimants.length cc, .slice az m.sums.length cz, .slice aw m.words.length cw, .slice ap m.paid.length cp, .int .i64 (c : Int), .map (some bo)] : List Value) ++ E.map (Value.int .i64)).toArray) 99 (0, 0))

theorem LBlk.cells {W : World} {bm : Nat} {ac az aw ap : Option Addr} {cc cz cw cp : Nat} {m : MoList} {c bo : Nat} {E : List Int} (h : LBlk W bm ac az aw ap cc cz cw cp m c bo E) :
    W.cell? ⟨bm, 0, none⟩ = some (.slice ac m.claimants.length cc) ∧ W.cell? ⟨bm, 1, none⟩ = some (.slice az m.sums.length cz) ∧ W.cell? ⟨bm, 2, none⟩ = some (.slice aw m.words.length cw) ∧ W.cell? ⟨bm, 3, none⟩ = some (.slice ap m.paid.length cp) ∧
    W.cell? ⟨bm, 4, none⟩ = some (.int .i64 (c : Int)) ∧ W.cell? ⟨bm, 5, none⟩ = some (.map (some bo)) :=
  ⟨blk_cell 0 h rfl, blk_cell 1 h rfl, blk_cell 2 h rfl, blk_cell 3 h rfl, blk_cell 4 h rfl, blk_cell 5 h rfl⟩
theorem LBlk.free {W : World} {bm : Nat} {ac az aw ap : Option Addr} {cc cz cw cp : Nat} {m : MoList} {c bo : Nat} {E : List Int} (h : LBlk W bm ac az aw ap cc cz cw cp m c bo E) (j : Nat) : W.frozen? ⟨bm, j, none⟩ = false := blk_free j h
theorem LBlk.set4 {W : World} {bm : Nat} {ac az aw ap : Option Addr} {cc cz cw cp : Nat} {m : MoList} {c bo : Nat} {E : List Int} (h : LBlk W bm ac az aw ap cc cz cw cp m c bo E) (d : Nat) : LBlk (W.setCell ⟨bm, 4, none⟩ (.int .i64 (d : Int))) bm ac az aw ap cc cz cw cp m d bo E := by
  have := blk_set 4 (.int .i64 (d : Int)) h
  unfold LBlk
  rw [this]
  simp
theorem LBlk.set6 {W : World} {bm : Nat} {ac az aw ap : Option Addr} {cc cz cw cp : Nat} {m : MoList} {c bo : Nat} {E : List Int} (h : LBlk W bm ac az aw ap cc cz cw cp m c bo E) (j : Nat) (x : Int) : LBlk (W.setCell ⟨bm, 6 + j, none⟩ (.int .i64 x)) bm ac az aw ap cc cz cw cp m c bo (E.set j x) := by
  have := blk_set (6 + j) (.int .i64 x) h
  unfold LBlk
  rw [this]
  congr 2
  simp only [List.setIfInBounds_toArray]
  rw [List.set_append_right _ _ (by simp)]
  simp
theorem LBlk.cell6 {W : World} {bm : Nat} {ac az aw ap : Option Addr} {cc cz cw cp : Nat} {m : MoList} {c bo : Nat} {E : List Int} (h : LBlk W bm ac az aw ap cc cz cw cp m c bo E) (j : Nat) {x : Int} (hj : E[j]? = some x) : W.cell? ⟨bm, 6 + j, none⟩ = some (.int .i64 x) :=
  blk_cell (6 + j) h (by
    simp only [List.getElem?_toArray]
    rw [List.getElem?_append_right (by simp)]
    simp [hj])
theorem LBlk.same {W W' : World} {bm : Nat} {ac az aw ap : Option Addr} {cc cz cw cp : Nat} {m : MoList} {c bo : Nat} {E : List Int} (h : LBlk W bm ac az aw ap cc cz cw cp m c bo E) (e : W'.heap[bm]? = W.heap[bm]?) : LBlk W' bm ac az aw ap cc cz cw cp m c bo E := e.trans h
theorem LBlk.lt {W : World} {bm : Nat} {ac az aw ap : Option Addr} {cc cz cw cp : Nat} {m : MoList} {c bo : Nat} {E : List Int} (h : LBlk W bm ac az aw ap cc cz cw cp m c bo E) : bm < W.heap.size := lt_of_block h
theorem LBlk.look {W : World} {bm : Nat} {ac az aw ap : Option Addr} {cc cz cw cp : Nat} {m : MoList} {c bo : Nat} {E : List Int} (h : LBlk W bm ac az aw ap cc cz cw cp m c bo E) (hl : ListC W ac az aw ap cc cz cw cp m) : LookC W bm ac az aw ap cc cz cw cp m c :=
  ⟨hl, h.cells.1, h.cells.2.1, h.cells.2.2.1, h.cells.2.2.2.1, h.cells.2.2.2.2.1⟩

@[reducible] def four (m : MoList) (t : List Int) : Value := .agg #[.int .i64 (dueTo m (pad 5 t) 0 m.sums.length), .int .i64 (dueTo m (pad 5 t) 1 m.sums.length), .int .i64 (dueTo m (pad 5 t) 2 m.sums.length), .int .i64 (dueTo m (pad 5 t) 3 m.sums.length)]
def ents (m : MoList) (T : List (List Int)) : List (Value × Value) := T.map fun t => (five (pad 5 t), four m t)

/-- A list that has been looked at. -/
structure LookW (W : World) (bm bo : Nat) (ac az aw ap : Option Addr) (cc cz cw cp : Nat) (m : MoList) (c : Nat) : Prop where
  blk : LBlk W bm ac az aw ap cc cz cw cp m c bo (everyL m (truths (withBits m c)))
  map : MapV W Try.prog 96 bo (ents m (truths (withBits m c)))

theorem or_ev : ∀ e : Nat, e < 16 → ∀ x : Nat, x < 4 → bits BinOp.or .i64 (e : Int) (IntKind.i64.wrap (2 ^ x)) = ((e ||| (1 <<< x) : Nat) : Int) := by decide +kernel
theorem or_bit : ∀ c : Nat, c < 64 → ∀ k : Nat, k < 6 → bits BinOp.or .i64 (c : Int) (wrap64 (2 ^ k)) = ((c ||| (1 <<< k) : Nat) : Int) := by decide +kernel

set_option maxRecDepth 100000 in
set_option maxHeartbeats 4000000 in
theorem MLook_any (ac az aw ap : Option Addr) (cc cz cw cp : Nat) (m : MoList) (more : Nat) (w : World) (hm : ListC w ac az aw ap cc cz cw cp m) (hv : Valid m) (hmo : more < 64) :
    Calls Try.prog 85 #[(.agg #[.slice ac m.claimants.length cc, .slice az m.sums.length cz, .slice aw m.words.length cw, .slice ap m.paid.length cp]), .int .i64 (more : Int)] w fun e w' => ∃ bm bo : Nat, e = .returned (.pointer (some ⟨bm, 0, none⟩)) ∧ LookW w' bm bo ac az aw ap cc cz cw cp m (lookBits m more) ∧ Below w.heap.size w w' := by
  have l1 := hm.okc.len
  have l2 := hm.okz.len
  have l3 := hm.okw.len
  have v3 := hv.nw
  have hW0 := Below.refl (w.heap.size + 1) (w.alloc (.cells #[.slice ac m.claimants.length cc, .slice az m.sums.length cz, .slice aw m.words.length cw, .slice ap m.paid.length cp] 27))
  have hmm := @run_makeMap Try.prog
  refine (callsIn_wide (n := 0)).1 ?_
  refine callsIn_of_wp_marks Try.func85 rfl trivial ?_ rfl
  simp only [Try.ntmps85, List.size_toArray, List.length_cons, List.length_nil, Nat.reduceAdd, Nat.reduceSub, Array.replicate_succ, Array.replicate_zero, List.push_toArray, List.append_toArray, List.nil_append, List.cons_append]
  refine (wpIn_wide (n := 0)).2 ?_
  go_wp2
  go_loopw [18] (fun i wr => ∃ k : Nat, k ≤ m.words.length ∧ i = .int .i64 k ∧ LBlk wr (w.heap.size + 1 + 1) ac az aw ap cc cz cw cp m (bitsCame m more k) (w.heap.size + 1) [0, 0, 0, 0, 0] ∧ Below (w.heap.size + 1 + 1) (((w.alloc (.cells #[.slice ac m.claimants.length cc, .slice az m.sums.length cz, .slice aw m.words.length cw, .slice ap m.paid.length cp] 27))).alloc (.map #[] 0)) wr ∧ wr.heap[w.heap.size + 1 + 1 + 1]? = some (.cells #[.pointer (some ⟨w.heap.size + 1 + 1, 0, none⟩)] 92 (0, 0))) (fun i _ => m.words.length - (intOf i).toNat)
  case atStart => exact ⟨0, Nat.zero_le _, rfl, (heap_alloc_old _ _ (by simp)).trans (alloc_at _ _ (by simp)), ((Below.refl _ _).alloc (by simp) _).alloc (by simp) _, alloc_at _ _ (by simp)⟩
  case round =>
    obtain ⟨k, hk, rfl, hL, hbr, hp⟩ := hrel
    have hbw : Below w.heap.size w wr := (((Below.refl _ w).alloc (Nat.le_refl _) _).alloc (by simp) _).trans (hbr.mono (by omega))
    by_cases hlt : k < m.words.length
    · obtain ⟨b, off, rfl, hb, h1, h2, h3, h4, h5⟩ := (hm.mono hbw).words k hlt
      have HY := Lib.hid (bitsCame_yes m more k hlt)
      have HN := Lib.hid (bitsCame_no m more k hlt)
      have hc := bitsCame_lt m more hmo k (by omega)
      have c4 := hL.cells.2.2.2.2.1
      have f4 := hL.free 4
      have p0 := blk_cell 0 hp rfl
      simp only [List.getElem_toArray, List.getElem_cons_zero] at p0
      have hbm := hL.lt
      have hbp := lt_of_block hp
      have HO := Lib.hid (or_bit (bitsCame m more k) hc k (by omega))
      have HS := Lib.hid (hL.set4 (bitsCame m more k ||| (1 <<< k)))
      generalize m.words[k] = wd at h1 h2 h3 h4 h5 HY HN
      obtain ⟨says, sum, of, back, came⟩ := wd
      simp only at h1 h2 h3 h4 h5 HY HN
      cases came
      · go_wp2
        go_roundw
        case rel => exact ⟨k + 1, by omega, by go_num, by rw [HN.out rfl]; exact hL.same (heap_alloc_old _ _ hbm), hbr.alloc (by have := hbr.size; simp at this; omega) _, (heap_alloc_old _ _ hbp).trans hp⟩
        case measure => simp [intOf]; omega
      · go_wp2
        apply wp_mid _ (fun W' => LBlk W' (w.heap.size + 1 + 1) ac az (some ⟨b, off, none⟩) ap cc cz cw cp m (bitsCame m more (k+1)) (w.heap.size + 1) [0, 0, 0, 0, 0] ∧ Below (w.heap.size + 1 + 1) ((w.alloc (.cells #[.slice ac m.claimants.length cc, .slice az m.sums.length cz, .slice (some ⟨b, off, none⟩) m.words.length cw, .slice ap m.paid.length cp] 27)).alloc (.map #[] 0)) W' ∧ W'.heap[w.heap.size + 1 + 1 + 1]? = some (.cells #[.pointer (some ⟨w.heap.size + 1 + 1, 0, none⟩)] 92 (0, 0)))
        · (focus go_region)
          all_goals
            refine ⟨rfl, ?_⟩
            rw [HO.out, HY.out trivial]
            exact ⟨HS.out.same (heap_alloc_old _ _ (by simpa using hbm)), below_drew' ((hbr.setCell (Nat.le_refl _) _).alloc (by have := hbr.size; simp at this ⊢; omega) _), (heap_alloc_old _ _ (by simpa using hbp)).trans ((Below.heap_setCell _ _ _ _ (by simp)).trans hp)⟩
        rintro W' ⟨hL', hbr', hp'⟩
        go_wp2
        go_roundw
        case rel => exact ⟨k + 1, by omega, by go_num, hL', hbr', hp'⟩
        case measure => simp [intOf]; omega
    · obtain rfl : k = m.words.length := by omega
      obtain ⟨wo, hwo⟩ : ∃ wo : World, wo = wr := ⟨_, rfl⟩
      subst hwo
      have TR := Lib.hid (MTruths_any (w.heap.size + 1 + 1) wo)
      have p0 := blk_cell 0 hp rfl
      simp only [List.getElem_toArray, List.getElem_cons_zero] at p0
      go_wp2_with (go_at_call 103; go_must ((with_reducible refine TR.out.mono ?_); rintro e w3 ⟨rfl, rfl⟩; dsimp only))
      have hx : (wo.alloc (.cells #[.pointer (some ⟨w.heap.size + 1 + 1, 0, none⟩)] 92)).heap[wo.heap.size]? = some (.cells #[.pointer (some ⟨w.heap.size + 1 + 1, 0, none⟩)] 92 (0, 0)) := alloc_at _ _ rfl
      have hc : lookBits m more < 64 := bitsCame_lt m more hmo _ (by omega)
      have hM0 : MapV (((w.alloc (.cells #[.slice ac m.claimants.length cc, .slice az m.sums.length cz, .slice aw m.words.length cw, .slice ap m.paid.length cp] 27))).alloc (.map #[] 0)) Try.prog 96 (w.heap.size + 1) [] := by have := MapV.made ((w.alloc (.cells #[.slice ac m.claimants.length cc, .slice az m.sums.length cz, .slice aw m.words.length cw, .slice ap m.paid.length cp] 27))) Try.prog 96; simpa using this
      have hMp : MapV wo Try.prog 96 (w.heap.size + 1) [] := hM0.same (hbr.block (w.heap.size + 1) (by omega))
      have hbm := hL.lt
      have hbp := lt_of_block hp
      have hW1 : Below (w.heap.size + 1) (w.alloc (.cells #[.slice ac m.claimants.length cc, .slice az m.sums.length cz, .slice aw m.words.length cw, .slice ap m.paid.length cp] 27)) wo := ((Below.refl _ _).alloc (by simp) _).trans (hbr.mono (by omega))
      refine (wpIn_wide (n := 0)).1 ?_
      refine wpIn_rangeFunc_T (gf := 109) (lb := #[.pointer (some ⟨wo.heap.size, 0, none⟩)]) rfl (enters_of Try.func109 (by kernel_rfl) rfl)
        (MTruths_seq ac az aw ap cc cz cw cp m (lookBits m more) (w.heap.size + 1 + 1) wo.heap.size wo.heap.size hv hc (Nat.le_refl _) _ hx) (Below.refl _ _) (by simp) (fun _ => rfl)
        (fun pre W => LBlk W (w.heap.size + 1 + 1) ac az aw ap cc cz cw cp m (lookBits m more) (w.heap.size + 1) (everyL m pre) ∧ MapV W Try.prog 96 (w.heap.size + 1) (ents m pre) ∧ W.heap[w.heap.size + 1 + 1 + 1]? = some (.cells #[.pointer (some ⟨w.heap.size + 1 + 1, 0, none⟩)] 92 (0, 0)) ∧ Below (w.heap.size + 1) (w.alloc (.cells #[.slice ac m.claimants.length cc, .slice az m.sums.length cz, .slice aw m.words.length cw, .slice ap m.paid.length cp] 27)) W)
        (fun s A A' h hb => ⟨h.1.same (hb.block _ hbm), h.2.1.below hb (by omega), (hb.block _ hbp).trans h.2.2.1, h.2.2.2.trans (hb.mono (by omega))⟩)
        (fun s A h => h.1.look (hm.mono (box_old h.2.2.2)))
        ⟨(by rw [everyL_nil]; exact hL.same (heap_alloc_old _ _ hbm)), hMp.same (heap_alloc_old _ _ (by omega)), (heap_alloc_old _ _ hbp).trans hp, hW1.alloc (by omega) _⟩ ?round ?done
      case round =>
        intro l pre x W hl1 hl2 hI hpre
        obtain ⟨hL, hM, hp, hbr⟩ := hI
        have hxm : x ∈ truths (withBits m (lookBits m more)) := by
          obtain ⟨r, hr⟩ := hpre
          rw [← hr]; simp
        have hxl : x.length = m.sums.length := truths_len (withBits m (lookBits m more)) x hxm
        have hxb := truths_bd (withBits m (lookBits m more)) x hxm
        have v1 := hv.nc
        have v2 := hv.nz
        obtain ⟨t0, t1, t2, t3, t4, hTT⟩ := five_ex (pad 5 x) (pad_len 5 x (by omega))
        simp only [hTT, five, List.getElem?_cons_zero, List.getElem?_cons_succ, Option.getD_some]
        gi_wp2
        refine ⟨Above.of_below ((Below.refl _ _).alloc (Nat.le_refl _) _), ⟨hL.same (heap_alloc_old _ _ hL.lt), hM.same (heap_alloc_old _ _ hM.lt), (heap_alloc_old _ _ (lt_of_block hp)).trans hp, hbr.alloc (by have := hL.lt; omega) _⟩, ?_⟩
        intro Wb hsz hblk hIb
        have hT8 : BlkI Wb W.heap.size 96 [t0, t1, t2, t3, t4] := (hblk _ (by omega)).trans (alloc_at _ _ rfl)
        have hAb : Wb.heap.size = W.heap.size + 1 := by rw [hsz]; simp
        clear hsz hblk hL hM hp hbr
        obtain ⟨hL, hM, hp, hbr⟩ := hIb
        have hmW := hL.look (hm.mono (box_old hbr))
        have hxr : ∀ j, j < m.sums.length → 0 ≤ (pad 5 x)[j]?.getD 0 ∧ (pad 5 x)[j]?.getD 0 < 4 := fun j hj => by
          rw [pad_get 5 x j (by omega), List.getElem?_eq_getElem (by omega)]
          have hb := hxb _ (List.getElem_mem (l := x) (n := j) (by omega))
          have hb2 : x[j] < (m.claimants.length : Int) := hb.2
          exact ⟨hb.1, by simp only [Option.getD_some]; omega⟩
        have hdue := fun (V : World) (hV : LookC V (w.heap.size + 1 + 1) ac az aw ap cc cz cw cp m (lookBits m more)) => MDue_any ac az aw ap cc cz cw cp m (lookBits m more) (w.heap.size + 1 + 1) (pad 5 x) t0 t1 t2 t3 t4 hTT hxr V hV hv
        have hokx : ∀ y ∈ pad 5 x, okI y := fun y hy => by
          unfold pad at hy
          rcases List.mem_append.1 hy with hy | hy
          · have hb := hxb y hy
            have hb2 : y < (m.claimants.length : Int) := hb.2
            exact okI_of (by omega) (by omega)
          · have := List.eq_of_mem_replicate hy
            subst this
            exact okI_of (by decide) (by decide)
        rw [hTT] at hokx
        obtain ⟨kl, hkey⟩ := key_of t0 t1 t2 t3 t4 (hokx _ (by simp)) (hokx _ (by simp)) (hokx _ (by simp)) (hokx _ (by simp)) (hokx _ (by simp))
        have hnew : ∀ q ∈ ents m pre, q.1 ≠ .agg #[.int .i64 t0, .int .i64 t1, .int .i64 t2, .int .i64 t3, .int .i64 t4] := fun q hq e => by
          unfold ents at hq
          obtain ⟨t, ht, rfl⟩ := List.mem_map.1 hq
          have hne := truths_new (withBits m (lookBits m more)) pre x hpre t ht
          have htm : t ∈ truths (withBits m (lookBits m more)) := by
            obtain ⟨r, hr⟩ := hpre
            rw [← hr]; simp [ht]
          have htl : t.length = m.sums.length := truths_len (withBits m (lookBits m more)) t htm
          obtain ⟨s0, s1, s2, s3, s4, hSS⟩ := five_ex (pad 5 t) (pad_len 5 t (by omega))
          simp only [five, hSS, List.getElem?_cons_zero, List.getElem?_cons_succ, Option.getD_some] at e
          simp at e
          obtain ⟨rfl, rfl, rfl, rfl, rfl⟩ := e
          exact hne (pad_inj 5 t x (by omega) (by rw [hSS, hTT]))
        have hroom : (ents m pre).length < maxLen := by
          have h1 := hpre.length_le
          have h2 := truths_many (withBits m (lookBits m more)) v1 m.sums.length v2
          have h3 : (truths (withBits m (lookBits m more))).length ≤ 1024 := h2
          have hmx : maxLen = 9223372036854775807 := rfl
          simp [ents] at h1 ⊢
          omega
        have hUP := fun (V : World) (hV : MapV V Try.prog 96 (w.heap.size + 1) (ents m pre)) => hV.update key_keyed key_map hroom hkey hnew (val := .agg #[.int .i64 (dueTo m (pad 5 x) 0 m.sums.length), .int .i64 (dueTo m (pad 5 x) 1 m.sums.length), .int .i64 (dueTo m (pad 5 x) 2 m.sums.length), .int .i64 (dueTo m (pad 5 x) 3 m.sums.length)])
        clear hokx hroom hnew hkey
        have HDU := Lib.hid hdue
        have HUP := Lib.hid hUP
        have HEN : Hid (ents m (pre ++ [x]) = ents m pre ++ [(.agg #[.int .i64 t0, .int .i64 t1, .int .i64 t2, .int .i64 t3, .int .i64 t4], four m x)]) := by
          show _ = _
          unfold ents
          rw [List.map_append]
          simp only [List.map_cons, List.map_nil]
          rw [show five (pad 5 x) = .agg #[.int .i64 t0, .int .i64 t1, .int .i64 t2, .int .i64 t3, .int .i64 t4] from by unfold five; rw [hTT]; rfl]
        have HTT := Lib.hid hTT
        clear hdue hUP hTT hxr
        have p0 := blk_cell 0 hp rfl
        simp only [List.getElem_toArray, List.getElem_cons_zero] at p0
        have c5 := hL.cells.2.2.2.2.2
        have d0 := blk_cell 0 hT8 rfl
        have d1 := blk_cell 1 hT8 rfl
        have d2 := blk_cell 2 hT8 rfl
        have d3 := blk_cell 3 hT8 rfl
        have d4 := blk_cell 4 hT8 rfl
        simp only [List.map_cons, List.map_nil, List.getElem_toArray, List.getElem_cons_succ, List.getElem_cons_zero] at d0 d1 d2 d3 d4
        have hbmb := hL.lt
        have hwr : wo.heap.size < W.heap.size := by simp at hl1; omega
        have KE : Hid (∀ V, Wb.grownBy V (some (w.heap.size + 1)) → (fun V => Wb.grownBy V (some (w.heap.size + 1)) ∧ V.cell? ⟨w.heap.size + 1 + 1 + 1, 0, none⟩ = some (.pointer (some ⟨w.heap.size + 1 + 1, 0, none⟩)) ∧ V.cell? ⟨w.heap.size + 1 + 1, 5, none⟩ = some (.map (some (w.heap.size + 1))) ∧ V.cell? ⟨W.heap.size, 0, none⟩ = some (.int .i64 t0) ∧ V.cell? ⟨W.heap.size, 1, none⟩ = some (.int .i64 t1) ∧ V.cell? ⟨W.heap.size, 2, none⟩ = some (.int .i64 t2) ∧ V.cell? ⟨W.heap.size, 3, none⟩ = some (.int .i64 t3) ∧ V.cell? ⟨W.heap.size, 4, none⟩ = some (.int .i64 t4)) V) := Lib.hid (fun V hg => ⟨hg, hg.cell p0 (by simp <;> omega), hg.cell c5 (by simp <;> omega), hg.cell d0 (by simp <;> omega), hg.cell d1 (by simp <;> omega), hg.cell d2 (by simp <;> omega), hg.cell d3 (by simp <;> omega), hg.cell d4 (by simp <;> omega)⟩)
        have hg0 : Wb.grownBy Wb.drew (some (w.heap.size + 1)) := ⟨rfl, rfl, rfl, Nat.le_refl _, fun _ _ _ => rfl⟩
        have HD := Lib.hid (HDU.out Wb.drew (hmW.mono (below_drew' (Below.refl _ _))))
        gi_wp2
        apply wpIn_mid _ (fun V => Wb.grownBy V (some (w.heap.size + 1)) ∧ MapV V Try.prog 96 (w.heap.size + 1) (ents m (pre ++ [x])))
        · refine wpIn_region_round (fun V => Wb.grownBy V (some (w.heap.size + 1)) ∧ V.cell? ⟨w.heap.size + 1 + 1 + 1, 0, none⟩ = some (.pointer (some ⟨w.heap.size + 1 + 1, 0, none⟩)) ∧ V.cell? ⟨w.heap.size + 1 + 1, 5, none⟩ = some (.map (some (w.heap.size + 1))) ∧ V.cell? ⟨W.heap.size, 0, none⟩ = some (.int .i64 t0) ∧ V.cell? ⟨W.heap.size, 1, none⟩ = some (.int .i64 t1) ∧ V.cell? ⟨W.heap.size, 2, none⟩ = some (.int .i64 t2) ∧ V.cell? ⟨W.heap.size, 3, none⟩ = some (.int .i64 t3) ∧ V.cell? ⟨W.heap.size, 4, none⟩ = some (.int .i64 t4)) ?_ (by kernel_rfl) (noDefer_spec (by kernel_rfl)) (KE.out _ hg0) (fun hHeld => ?_)
          · intro h
            obtain ⟨_, _, h⟩ := h
            exact h
          (refine wpAnyH_take (i := 0) (v := ?_) rfl (by kernel_rfl) (by kernel_rfl) (by kernel_rfl) (fun _ _ _ h => h) (Or.inl ⟨by kernel_rfl, ?_⟩) (by assumption) ?_; rotate_left 1; (focus (intro w hSw; (try dsimp only at hSw); go_simp; first | done | with_reducible rfl)); simp only [Act.put, List.getElem_toArray, List.getElem_cons_succ, List.getElem_cons_zero, List.setIfInBounds_toArray, List.set_cons_succ, List.set_cons_zero])
          (refine wpAnyH_take (i := 1) (v := ?_) rfl (by kernel_rfl) (by kernel_rfl) (by kernel_rfl) (fun _ _ _ h => h) (Or.inl ⟨by kernel_rfl, ?_⟩) (by assumption) ?_; rotate_left 1; (focus (intro w hSw; (try dsimp only at hSw); go_simp; first | done | with_reducible rfl)); simp only [Act.put, List.getElem_toArray, List.getElem_cons_succ, List.getElem_cons_zero, List.setIfInBounds_toArray, List.set_cons_succ, List.set_cons_zero])
          (refine wpAnyH_take (i := 2) (v := ?_) rfl (by kernel_rfl) (by kernel_rfl) (by kernel_rfl) (fun _ _ _ h => h) (Or.inl ⟨by kernel_rfl, ?_⟩) (by assumption) ?_; rotate_left 1; (focus (intro w hSw; (try dsimp only at hSw); go_simp; first | done | with_reducible rfl)); simp only [Act.put, List.getElem_toArray, List.getElem_cons_succ, List.getElem_cons_zero, List.setIfInBounds_toArray, List.set_cons_succ, List.set_cons_zero])
          (refine wpAnyH_take (i := 3) (v := ?_) rfl (by kernel_rfl) (by kernel_rfl) (by kernel_rfl) (fun _ _ _ h => h) (Or.inl ⟨by kernel_rfl, ?_⟩) (by assumption) ?_; rotate_left 1; (focus (intro w hSw; (try dsimp only at hSw); go_simp; first | done | with_reducible rfl)); simp only [Act.put, List.getElem_toArray, List.getElem_cons_succ, List.getElem_cons_zero, List.setIfInBounds_toArray, List.set_cons_succ, List.set_cons_zero])
          (refine wpAnyH_take (i := 4) (v := ?_) rfl (by kernel_rfl) (by kernel_rfl) (by kernel_rfl) (fun _ _ _ h => h) (Or.inl ⟨by kernel_rfl, ?_⟩) (by assumption) ?_; rotate_left 1; (focus (intro w hSw; (try dsimp only at hSw); go_simp; first | done | with_reducible rfl)); simp only [Act.put, List.getElem_toArray, List.getElem_cons_succ, List.getElem_cons_zero, List.setIfInBounds_toArray, List.set_cons_succ, List.set_cons_zero])
          (refine wpAnyH_take (i := 5) (v := ?_) rfl (by kernel_rfl) (by kernel_rfl) (by kernel_rfl) (fun _ _ _ h => h) (Or.inl ⟨by kernel_rfl, ?_⟩) (by assumption) ?_; rotate_left 1; (focus (intro w hSw; (try dsimp only at hSw); go_simp; first | done | with_reducible rfl)); simp only [Act.put, List.getElem_toArray, List.getElem_cons_succ, List.getElem_cons_zero, List.setIfInBounds_toArray, List.set_cons_succ, List.set_cons_zero])
          (refine wpAnyH_take (i := 6) (v := ?_) rfl (by kernel_rfl) (by kernel_rfl) (by kernel_rfl) (fun _ _ _ h => h) (Or.inl ⟨by kernel_rfl, ?_⟩) (by assumption) ?_; rotate_left 1; (focus (intro w hSw; (try dsimp only at hSw); go_simp; first | done | with_reducible rfl)); simp only [Act.put, List.getElem_toArray, List.getElem_cons_succ, List.getElem_cons_zero, List.setIfInBounds_toArray, List.set_cons_succ, List.set_cons_zero])
          (refine wpAnyH_ready (rs := [7]) (by kernel_rfl) (by simp) ?_; refine AllReadyH.cons rfl (fun K hK => ?_) AllReadyH.nil; go_simp)
          go_wp2_with (go_at_call 104; go_must ((with_reducible refine HD.out.mono ?_); rintro e w3 ⟨rfl, hb3⟩; dsimp only))
          have hb3' : Below Wb.heap.size Wb w3 := ⟨hb3.os, hb3.tape, hb3.output, hb3.size, hb3.block⟩
          have hg1 : Wb.grownBy w3 (some (w.heap.size + 1)) := grown_of _ hb3'
          have hM3 : MapV w3 Try.prog 96 (w.heap.size + 1) (ents m pre) := hM.same (hb3'.block _ hM.lt)
          refine hK.out _ _ (KE.out _ hg1) (fun hHeld => ?_)
          (try simp only [Act.put, List.getElem_toArray, List.getElem_cons_succ, List.getElem_cons_zero, List.setIfInBounds_toArray, List.set_cons_succ, List.set_cons_zero])
          clear hK
          obtain ⟨V2, hrun, hMV2, hg2, hz2⟩ := HUP.out _ hM3
          (refine wpAnyH_ready (rs := [8]) (by kernel_rfl) (by simp) ?_; refine AllReadyH.cons rfl (fun K hK => ?_) AllReadyH.nil; go_simp)
          refine hK.out _ _ (KE.out _ (hg1.andThen hg2 (fun j e => .inr (by simpa using e)))) (fun hHeld => ?_)
          (try simp only [Act.put, List.getElem_toArray, List.getElem_cons_succ, List.getElem_cons_zero, List.setIfInBounds_toArray, List.set_cons_succ, List.set_cons_zero])
          refine wpAnyH_done (by kernel_rfl) ⟨rfl, hg1.andThen hg2 (fun j e => .inr (by simpa using e)), ?_⟩ _
          rw [HEN.out]
          exact hMV2
        rintro V ⟨hgV, hMV⟩
        have q1 := hgV.cell (box_cell hbr 1 _ rfl) (by simp)
        have qlt := lt_of_cell q1
        have hLV : LBlk V (w.heap.size + 1 + 1) ac az aw ap cc cz cw cp m (lookBits m more) (w.heap.size + 1) (everyMid m pre x 0) := by
          rw [everyMid_zero]
          exact hL.same (hgV.block _ hL.lt (by simp <;> omega))
        have hR0 : LBlk V (w.heap.size + 1 + 1) ac az aw ap cc cz cw cp m (lookBits m more) (w.heap.size + 1) (everyMid m pre x 0) ∧ MapV V Try.prog 96 (w.heap.size + 1) (ents m (pre ++ [x])) ∧ V.heap[w.heap.size + 1 + 1 + 1]? = some (.cells #[.pointer (some ⟨w.heap.size + 1 + 1, 0, none⟩)] 92 (0, 0)) ∧ Below (w.heap.size + 1) (w.alloc (.cells #[.slice ac m.claimants.length cc, .slice az m.sums.length cz, .slice aw m.words.length cw, .slice ap m.paid.length cp] 27)) V ∧ Above wo.heap.size Wb V ∧ BlkI V W.heap.size 96 [t0, t1, t2, t3, t4] := ⟨hLV, hMV, (hgV.block _ (lt_of_block hp) (by simp <;> omega)).trans hp, hbr.grown hgV (by omega) (fun k e => by have := Option.some.inj e; omega), Above.of_grown hgV (fun r e => by have := Option.some.inj e; omega), hT8.same (hgV.block _ hT8.lt (by simp <;> omega))⟩
        clear d0 d1 d2 d3 d4 p0 c5 KE hg0 HD hLV
        gi_wp2
        gi_loopw [49] (fun i vr => ∃ j : Nat, j ≤ m.sums.length ∧ i = .int .i64 j ∧ LBlk vr (w.heap.size + 1 + 1) ac az aw ap cc cz cw cp m (lookBits m more) (w.heap.size + 1) (everyMid m pre x j) ∧ MapV vr Try.prog 96 (w.heap.size + 1) (ents m (pre ++ [x])) ∧ vr.heap[w.heap.size + 1 + 1 + 1]? = some (.cells #[.pointer (some ⟨w.heap.size + 1 + 1, 0, none⟩)] 92 (0, 0)) ∧ Below (w.heap.size + 1) (w.alloc (.cells #[.slice ac m.claimants.length cc, .slice az m.sums.length cz, .slice aw m.words.length cw, .slice ap m.paid.length cp] 27)) vr ∧ Above wo.heap.size Wb vr ∧ BlkI vr W.heap.size 96 [t0, t1, t2, t3, t4]) (fun i _ => m.sums.length - (intOf i).toNat)
        case atStart => exact ⟨0, Nat.zero_le _, rfl, hR0⟩
        case round =>
          clear hR0
          obtain ⟨j, hj, rfl, hL1, hM1, hp1, hbr1, hab1, hT1⟩ := hrel
          by_cases hlt1 : j < m.sums.length
          · obtain ⟨xj, hxj⟩ : ∃ xj : Nat, x[j]?.getD 0 = (xj : Int) := by
              rw [List.getElem?_eq_getElem (by omega)]
              exact Int.eq_ofNat_of_zero_le (hxb _ (List.getElem_mem (l := x) (n := j) (by omega))).1
            have hxj4 : xj < 4 := by
              have hb := hxb _ (List.getElem_mem (l := x) (n := j) (by omega))
              rw [List.getElem?_eq_getElem (by omega)] at hxj
              simp only [Option.getD_some] at hxj
              have hb2 : x[j] < (m.claimants.length : Int) := hb.2
              omega
            have hp0' := blk_cell 0 hp1 rfl
            simp only [List.getElem_toArray, List.getElem_cons_zero] at hp0'
            have htj : wr.cell? ⟨W.heap.size, j, none⟩ = some (.int .i64 (xj : Int)) := by
              rw [← HTT.out] at hT1
              refine blk_cell j hT1 ?_
              simp only [List.getElem?_toArray, List.getElem?_map]
              rw [pad_get 5 x j (by omega), List.getElem?_eq_getElem (by omega)]
              rw [List.getElem?_eq_getElem (by omega)] at hxj
              simp only [Option.getD_some] at hxj
              simp [hxj]
            have he16 : evBit pre j < 16 := evBit_lt j pre (fun t ht => by
              have htm : t ∈ truths (withBits m (lookBits m more)) := by
                obtain ⟨r, hr⟩ := hpre
                rw [← hr]; simp [ht]
              have htl : t.length = m.sums.length := truths_len (withBits m (lookBits m more)) t htm
              have hb := truths_bd (withBits m (lookBits m more)) t htm t[j] (List.getElem_mem (by omega))
              have hb2 : t[j] < (m.claimants.length : Int) := hb.2
              rw [List.getElem?_eq_getElem (by omega)]
              simp only [Option.getD_some]
              omega)
            have hev := hL1.cell6 j (everyMid_at m pre x j (by omega) hlt1)
            have hfr := hL1.free (6 + j)
            have HOR := Lib.hid (or_ev (evBit pre j) he16 xj hxj4)
            have hSU := everyMid_succ m pre x j (by omega) hlt1
            rw [hxj, Int.toNat_natCast] at hSU
            have HSU := Lib.hid hSU
            clear hSU hxj
            have hbm1 := hL1.lt
            have hT1lt := hT1.lt
            have hj5 : j < 5 := by omega
            have hj5i : (j : Int) < 5 := by omega
            have hx4i : (xj : Int) < 64 := by omega
            have KE : Hid (∀ V, wr.grownBy V (some (w.heap.size + 1 + 1)) → (fun V => wr.grownBy V (some (w.heap.size + 1 + 1)) ∧ V.cell? ⟨w.heap.size + 1 + 1 + 1, 0, none⟩ = some (.pointer (some ⟨w.heap.size + 1 + 1, 0, none⟩)) ∧ V.cell? ⟨W.heap.size, j, none⟩ = some (.int .i64 (xj : Int))) V) := Lib.hid (fun V hg => ⟨hg, hg.cell hp0' (by simp <;> omega), hg.cell htj (by simp <;> omega)⟩)
            have hg0 : wr.grownBy wr.drew (some (w.heap.size + 1 + 1)) := ⟨rfl, rfl, rfl, Nat.le_refl _, fun _ _ _ => rfl⟩
            gi_wp2
            apply wpIn_mid _ (fun V => LBlk V (w.heap.size + 1 + 1) ac az aw ap cc cz cw cp m (lookBits m more) (w.heap.size + 1) (everyMid m pre x (j+1)) ∧ MapV V Try.prog 96 (w.heap.size + 1) (ents m (pre ++ [x])) ∧ V.heap[w.heap.size + 1 + 1 + 1]? = some (.cells #[.pointer (some ⟨w.heap.size + 1 + 1, 0, none⟩)] 92 (0, 0)) ∧ Below (w.heap.size + 1) (w.alloc (.cells #[.slice ac m.claimants.length cc, .slice az m.sums.length cz, .slice aw m.words.length cw, .slice ap m.paid.length cp] 27)) V ∧ Above wo.heap.size Wb V ∧ BlkI V W.heap.size 96 [t0, t1, t2, t3, t4])
            · refine wpIn_region_round (fun V => wr.grownBy V (some (w.heap.size + 1 + 1)) ∧ V.cell? ⟨w.heap.size + 1 + 1 + 1, 0, none⟩ = some (.pointer (some ⟨w.heap.size + 1 + 1, 0, none⟩)) ∧ V.cell? ⟨W.heap.size, j, none⟩ = some (.int .i64 (xj : Int))) ?_ (by kernel_rfl) (noDefer_spec (by kernel_rfl)) (KE.out _ hg0) (fun hHeld => ?_)
              · intro h
                obtain ⟨_, _, h⟩ := h
                exact h
              (refine wpAnyH_take (i := 0) (v := ?_) rfl (by kernel_rfl) (by kernel_rfl) (by kernel_rfl) (fun _ _ _ h => h) (Or.inl ⟨by kernel_rfl, ?_⟩) (by assumption) ?_; rotate_left 1; (focus (intro w hSw; (try dsimp only at hSw); go_simp; first | done | with_reducible rfl)); simp only [Act.put, List.getElem_toArray, List.getElem_cons_succ, List.getElem_cons_zero, List.setIfInBounds_toArray, List.set_cons_succ, List.set_cons_zero])
              (refine wpAnyH_take (i := 1) (v := ?_) rfl (by kernel_rfl) (by kernel_rfl) (by kernel_rfl) (fun _ _ _ h => h) (Or.inl ⟨by kernel_rfl, ?_⟩) (by assumption) ?_; rotate_left 1; (focus (intro w hSw; (try dsimp only at hSw); go_simp; first | done | with_reducible rfl)); simp only [Act.put, List.getElem_toArray, List.getElem_cons_succ, List.getElem_cons_zero, List.setIfInBounds_toArray, List.set_cons_succ, List.set_cons_zero])
              (refine wpAnyH_take (i := 2) (v := ?_) rfl (by kernel_rfl) (by kernel_rfl) (by kernel_rfl) (fun _ _ _ h => h) (Or.inl ⟨by kernel_rfl, ?_⟩) (by assumption) ?_; rotate_left 1; (focus (intro w hSw; (try dsimp only at hSw); go_simp; first | done | with_reducible rfl)); simp only [Act.put, List.getElem_toArray, List.getElem_cons_succ, List.getElem_cons_zero, List.setIfInBounds_toArray, List.set_cons_succ, List.set_cons_zero])
              (refine wpAnyH_take (i := 3) (v := ?_) rfl (by kernel_rfl) (by kernel_rfl) (by kernel_rfl) (fun _ _ _ h => h) (Or.inl ⟨by kernel_rfl, ?_⟩) (by assumption) ?_; rotate_left 1; (focus (intro w hSw; (try dsimp only at hSw); go_simp; first | done | with_reducible rfl)); simp only [Act.put, List.getElem_toArray, List.getElem_cons_succ, List.getElem_cons_zero, List.setIfInBounds_toArray, List.set_cons_succ, List.set_cons_zero])
              (refine wpAnyH_take (i := 4) (v := ?_) rfl (by kernel_rfl) (by kernel_rfl) (by kernel_rfl) (fun _ _ _ h => h) (Or.inl ⟨by kernel_rfl, ?_⟩) (by assumption) ?_; rotate_left 1; (focus (intro w hSw; (try dsimp only at hSw); go_simp; first | done | with_reducible rfl)); simp only [Act.put, List.getElem_toArray, List.getElem_cons_succ, List.getElem_cons_zero, List.setIfInBounds_toArray, List.set_cons_succ, List.set_cons_zero])
              (refine wpAnyH_take (i := 6) (v := ?_) rfl (by kernel_rfl) (by kernel_rfl) (by kernel_rfl) (fun _ _ _ h => h) (Or.inl ⟨by kernel_rfl, ?_⟩) (by assumption) ?_; rotate_left 1; (focus (intro w hSw; (try dsimp only at hSw); go_simp; first | done | with_reducible rfl)); simp only [Act.put, List.getElem_toArray, List.getElem_cons_succ, List.getElem_cons_zero, List.setIfInBounds_toArray, List.set_cons_succ, List.set_cons_zero])
              (refine wpAnyH_take (i := 7) (v := ?_) rfl (by kernel_rfl) (by kernel_rfl) (by kernel_rfl) (fun _ _ _ h => h) (Or.inl ⟨by kernel_rfl, ?_⟩) (by assumption) ?_; rotate_left 1; (focus (intro w hSw; (try dsimp only at hSw); go_simp; first | done | with_reducible rfl)); simp only [Act.put, List.getElem_toArray, List.getElem_cons_succ, List.getElem_cons_zero, List.setIfInBounds_toArray, List.set_cons_succ, List.set_cons_zero])
              (refine wpAnyH_take (i := 8) (v := ?_) rfl (by kernel_rfl) (by kernel_rfl) (by kernel_rfl) (fun _ _ _ h => h) (Or.inl ⟨by kernel_rfl, ?_⟩) (by assumption) ?_; rotate_left 1; (focus (intro w hSw; (try dsimp only at hSw); go_simp; first | done | with_reducible rfl)); simp only [Act.put, List.getElem_toArray, List.getElem_cons_succ, List.getElem_cons_zero, List.setIfInBounds_toArray, List.set_cons_succ, List.set_cons_zero])
              (refine wpAnyH_take (i := 9) (v := ?_) rfl (by kernel_rfl) (by kernel_rfl) (by kernel_rfl) (fun _ _ _ h => h) (Or.inl ⟨by kernel_rfl, ?_⟩) (by assumption) ?_; rotate_left 1; (focus (intro w hSw; (try dsimp only at hSw); go_simp; first | done | with_reducible rfl)); simp only [Act.put, List.getElem_toArray, List.getElem_cons_succ, List.getElem_cons_zero, List.setIfInBounds_toArray, List.set_cons_succ, List.set_cons_zero])
              (refine wpAnyH_take (i := 11) (v := ?_) rfl (by kernel_rfl) (by kernel_rfl) (by kernel_rfl) (fun _ _ _ h => h) (Or.inl ⟨by kernel_rfl, ?_⟩) (by assumption) ?_; rotate_left 1; (focus (intro w hSw; (try dsimp only at hSw); go_simp; first | done | with_reducible rfl)); simp only [Act.put, List.getElem_toArray, List.getElem_cons_succ, List.getElem_cons_zero, List.setIfInBounds_toArray, List.set_cons_succ, List.set_cons_zero])
              (refine wpAnyH_take (i := 12) (v := ?_) rfl (by kernel_rfl) (by kernel_rfl) (by kernel_rfl) (fun _ _ _ h => h) (Or.inl ⟨by kernel_rfl, ?_⟩) (by assumption) ?_; rotate_left 1; (focus (intro w hSw; (try dsimp only at hSw); go_simp; first | done | with_reducible rfl)); simp only [Act.put, List.getElem_toArray, List.getElem_cons_succ, List.getElem_cons_zero, List.setIfInBounds_toArray, List.set_cons_succ, List.set_cons_zero])
              (refine wpAnyH_ready (rs := [5]) (by kernel_rfl) (by simp) ?_; refine AllReadyH.cons rfl (fun K hK => ?_) AllReadyH.nil; go_simp)
              refine hK.out _ _ (KE.out _ hg0) (fun hHeld => ?_)
              (try simp only [Act.put, List.getElem_toArray, List.getElem_cons_succ, List.getElem_cons_zero, List.setIfInBounds_toArray, List.set_cons_succ, List.set_cons_zero])
              clear hK
              (refine wpAnyH_take (i := 10) (v := ?_) rfl (by kernel_rfl) (by kernel_rfl) (by kernel_rfl) (fun _ _ _ h => h) (Or.inl ⟨by kernel_rfl, ?_⟩) (by assumption) ?_; rotate_left 1; (focus (intro w hSw; (try dsimp only at hSw); go_simp; first | done | with_reducible rfl)); simp only [Act.put, List.getElem_toArray, List.getElem_cons_succ, List.getElem_cons_zero, List.setIfInBounds_toArray, List.set_cons_succ, List.set_cons_zero])
              (refine wpAnyH_take (i := 13) (v := ?_) rfl (by kernel_rfl) (by kernel_rfl) (by kernel_rfl) (fun _ _ _ h => h) (Or.inl ⟨by kernel_rfl, ?_⟩) (by assumption) ?_; rotate_left 1; (focus (intro w hSw; (try dsimp only at hSw); go_simp; first | done | with_reducible rfl)); simp only [Act.put, List.getElem_toArray, List.getElem_cons_succ, List.getElem_cons_zero, List.setIfInBounds_toArray, List.set_cons_succ, List.set_cons_zero])
              (refine wpAnyH_ready (rs := [14]) (by kernel_rfl) (by simp) ?_; refine AllReadyH.cons rfl (fun K hK => ?_) AllReadyH.nil; go_simp)
              rw [HOR.out]
              have hgs : wr.grownBy (wr.setCell ⟨w.heap.size + 1 + 1, 6 + j, none⟩ (.int .i64 ((evBit pre j ||| (1 <<< xj) : Nat) : Int))).drew (some (w.heap.size + 1 + 1)) := ⟨rfl, rfl, rfl, by simp, fun i _ hne => Below.heap_setCell _ _ _ _ (fun e => hne (by rw [e]))⟩
              refine hK.out _ _ (KE.out _ hgs) (fun hHeld => ?_)
              (try simp only [Act.put, List.getElem_toArray, List.getElem_cons_succ, List.getElem_cons_zero, List.setIfInBounds_toArray, List.set_cons_succ, List.set_cons_zero])
              refine wpAnyH_done (by kernel_rfl) ⟨rfl, ?_, hM1.same (hgs.block _ hM1.lt (by simp <;> omega)), (hgs.block _ (lt_of_block hp1) (by simp <;> omega)).trans hp1, below_drew' (hbr1.setCell (by simp) _), hab1.trans (Above.of_grown hgs (fun r e => by have := Option.some.inj e; omega)), hT1.same (hgs.block _ hT1.lt (by simp <;> omega))⟩ _
              rw [HSU.out]
              exact hL1.set6 j _
            rintro V2 hR2
            gi_wp2
            go_roundw
            case rel => exact ⟨j + 1, by omega, by go_num, hR2⟩
            case measure => simp [intOf]; omega
          · obtain rfl : j = m.sums.length := by omega
            rw [everyMid_all] at hL1
            gi_wp2
            exact ⟨hab1, hL1, hM1, hp1, hbr1⟩
      case done =>
        intro D W hD hI hK
        obtain ⟨hL, hM, hp, hbr⟩ := hI
        have p0 := blk_cell 0 hp rfl
        simp only [List.getElem_toArray, List.getElem_cons_zero] at p0
        go_wp2
        refine ⟨by simp, .inl ⟨_, _, rfl, run_takeDeferred hK, ?_⟩⟩
        have hD2 : wo.heap.size < D := by simp at hD; omega
        refine ⟨_, results_tmp rfl _ _ _, w.heap.size + 1 + 1, w.heap.size + 1, rfl, ⟨hL.same (World.putObj_heap_other (by omega)), hM.same (World.putObj_heap_other (by omega))⟩, ?_⟩
        exact (box_old hbr).grown (grownBy_putObj' W D _) (by have := hbr.size; simp at this; omega) (fun k e => by have := Option.some.inj e; omega)
end Go.Proofs.Ytnlolliankhfmaa
