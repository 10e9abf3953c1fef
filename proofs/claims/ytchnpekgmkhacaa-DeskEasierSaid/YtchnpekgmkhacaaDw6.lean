/- What is proved here: the contract of the laws' Any of layer 9. Conditions: the hall and the turns lie in memory; the hall is valid. -/
import Derived.Test.YtchnpekgmkhacaaDw5
set_option linter.unusedVariables false
set_option linter.unusedSimpArgs false
namespace Go.Proofs.Ytchnpekgmkhacaa
open Go Go.RowKit Go.Shelf

/-- The writers who can, of the first ones. -/
def canTo (h : DeH) (c k : Nat) : List Int := ((List.range k).filter fun w => canD h w c).map fun (w : Nat) => (w : Int)
theorem canTo_yes {h : DeH} {c k : Nat} (e : canD h k c = true) : canTo h c (k + 1) = canTo h c k ++ [(k : Int)] := by
  unfold canTo
  rw [List.range_succ, List.filter_append, List.map_append]
  simp [e]
theorem canTo_no {h : DeH} {c k : Nat} (e : canD h k c = false) : canTo h c (k + 1) = canTo h c k := by
  unfold canTo
  rw [List.range_succ, List.filter_append, List.map_append]
  simp [e]
theorem canTo_len (h : DeH) (c k : Nat) : (canTo h c k).length ≤ k := by
  unfold canTo
  rw [List.length_map]
  exact Nat.le_trans (List.length_filter_le _ _) (by simp)
theorem any_stuck {h : DeH} {x : List Int} : ∀ {m k : Nat}, k ≤ m → anyTo h x k = none → anyTo h x m = none
  | 0, k, hk, e => by obtain rfl : k = 0 := by omega
                      exact e
  | m + 1, k, hk, e => by
    by_cases h1 : k = m + 1
    · subst h1; exact e
    · rw [anyTo, any_stuck (m := m) (by omega) e]
theorem any_next {h : DeH} {x : List Int} {c : Nat} {p : List (List Int)} (e : anyTo h x c = some p) (h0 : (canL h c).length ≠ 0) : anyTo h x (c + 1) = some (insertAt p (anyW h x c) (anyI h x c p) (c : Int)) := by
  rw [anyTo, e]
  simp only
  rw [if_neg h0]
theorem any_end {h : DeH} {x : List Int} {c : Nat} {p : List (List Int)} (e : anyTo h x c = some p) (hc : c < h.customers.length) (h0 : (canL h c).length = 0) : anyD h x = none :=
  any_stuck (show c + 1 ≤ h.customers.length from hc) (by rw [anyTo, e]; simp only; rw [if_pos h0])

/-- A plan that is changed in place: a block of slices. -/
def PBlk (W : World) (B : Nat) (vs : List Value) (p : List (List Int)) : Prop :=
  W.heap[B]? = some (.cells vs.toArray 42 (0, 0)) ∧ vs.length = p.length ∧ ∀ i (h1 : i < vs.length) (h2 : i < p.length), RowT W vs[i] p[i]
theorem PBlk.mono {W V : World} {B : Nat} {vs : List Value} {p : List (List Int)} (k : PBlk W B vs p) (h : Below W.heap.size W V) : PBlk V B vs p :=
  ⟨(h.block _ (lt_of_block k.1)).trans k.1, k.2.1, fun i h1 h2 => (k.2.2 i h1 h2).same (.of_below h)⟩
theorem PBlk.set {W : World} {B : Nat} {vs : List Value} {p : List (List Int)} (k : PBlk W B vs p) (j : Nat) {u : Value} {r : List Int} (hu : RowT W u r) : PBlk (W.setCell ⟨B, j, none⟩ u) B (vs.set j u) (p.set j r) := by
  have hs : ∀ {v : Value} {l : List Int}, RowT W v l → RowT (W.setCell ⟨B, j, none⟩ u) v l := fun {v l} h => by
    obtain ⟨a, c, e, h1, h2⟩ := h
    refine ⟨a, c, e, h1, fun i hi => ?_⟩
    obtain ⟨b, off, e2, ⟨cs, z, hb⟩, hc⟩ := h2 i hi
    have hne : b ≠ B := fun e3 => by
      rw [e3, k.1] at hb
      injection hb with hb
      injection hb with _ hb _
      exact absurd hb (by decide)
    have hb2 : (W.setCell ⟨B, j, none⟩ u).heap[b]? = W.heap[b]? := Below.heap_setCell _ _ _ _ hne
    exact ⟨b, off, e2, ⟨cs, z, hb2.trans hb⟩, (World.cell?_of_block (a := ⟨b, off + i, none⟩) hb2).trans hc⟩
  refine ⟨?_, by rw [List.length_set, List.length_set]; exact k.2.1, fun i h1 h2 => ?_⟩
  · have := blk_set j u k.1
    rw [this]; simp
  · simp only [List.getElem_set]
    by_cases e : j = i
    · rw [if_pos e, if_pos e]; exact hs hu
    · rw [if_neg e, if_neg e]
      exact hs (k.2.2 i (by simpa using h1) (by simpa using h2))
theorem PBlk.rows {W : World} {B : Nat} {vs : List Value} {p : List (List Int)} (k : PBlk W B vs p) : RowsC W (some ⟨B, 0, none⟩) p := fun i hi => by
  obtain ⟨h1, h2, h3⟩ := k
  obtain ⟨a', c', e2, h5, h6⟩ := h3 i (by omega) hi
  refine ⟨B, 0, a', c', rfl, lt_of_block h1, ?_, h5, h6.ints⟩
  refine blk_cell (0 + i) h1 ?_
  rw [Nat.zero_add, ← e2]
  simp [show i < vs.length by omega]
theorem nils_flat (n : Nat) : madeCells #[.slice none 0 0] n = (List.replicate n (Value.slice none 0 0)).toArray := by
  apply Array.ext
  · rw [size_madeCells]; simp
  · intro i h1 h2
    simp [madeCells, Nat.mod_one]
def AnyPost (R : Option (List (List Int))) (e : Ending) (w' : World) : Prop := match R with
  | none => e = .returned (.tuple #[.slice none 0 0, .bool false])
  | some p => ∃ a c, e = .returned (.tuple #[.slice a p.length c, .bool true]) ∧ SlOk a p.length c ∧ RowsC w' a p
set_option maxRecDepth 100000 in
set_option maxHeartbeats 8000000 in
theorem DAny_any (aw ac : Option Addr) (kw kc : Nat) (h : DeH) (ax : Option Addr) (x : List Int) (cx : Nat) (w : World) (hm : HallC w aw ac kw kc h) (hv : DeValid h) (hox : SlOk ax x.length cx) (hix : BytesC w ax x) :
    Calls Try.prog 40 #[(.agg #[.int .i64 h.wax, .slice aw h.writers.length kw, .slice ac h.customers.length kc]), .slice ax x.length cx] w fun e w' => AnyPost (anyD h x) e w' ∧ Below w.heap.size w w' := by
  have l1 := hm.okw.len
  have l1c := hm.okw.1
  have l2 := hm.okc.len
  have l2c := hm.okc.1
  have hnc := hv.nc
  have hnw := hv.nw
  have hxl := hox.len
  have hxb := bytes_bd hix
  have hB := Below.refl (w.heap.size + 1) (w.alloc (.cells #[.int .i64 h.wax, .slice aw h.writers.length kw, .slice ac h.customers.length kc] 25))
  have HCL := Lib.hid (fun (V : World) (hq : Below (w.heap.size + 1) (w.alloc (.cells #[.int .i64 h.wax, .slice aw h.writers.length kw, .slice ac h.customers.length kc] 25)) V) => box_hall hq)
  have HBN := Lib.hid (fun (V V' : World) (hq : Below (w.heap.size + 1) (w.alloc (.cells #[.int .i64 h.wax, .slice aw h.writers.length kw, .slice ac h.customers.length kc] 25)) V) (hq2 : Below V.heap.size V V') => hq.trans (hq2.mono (by have := hq.size; simp at this; omega)))
  have hBz : ∀ V, Below (w.heap.size + 1) (w.alloc (.cells #[.int .i64 h.wax, .slice aw h.writers.length kw, .slice ac h.customers.length kc] 25)) V → w.heap.size + 1 ≤ V.heap.size := fun V hq => by have := hq.size; simpa using this
  replace hBz := Lib.hid hBz
  obtain ⟨x0, x1, x2, z0⟩ := box_hall hB
  obtain ⟨i, hi, hz, hsz, hby⟩ := info_parts E_ints.info
  have TU := Lib.hid (fun (W : World) (n : Nat) (hn : n ≤ 1000) (hq : Below (w.heap.size + 1) (w.alloc (.cells #[.int .i64 h.wax, .slice aw h.writers.length kw, .slice ac h.customers.length kc] 25)) W) => DTurn_any ax x cx n W hxl hn (hix.mono (box_old hq)))
  have TB := Lib.hid (fun n => turnD_bd hxb n)
  have CN := Lib.hid (fun (k c : Nat) (hk : k < h.writers.length) (hc : c < h.customers.length) (V : World) (hb : Below (w.heap.size + 1) (w.alloc (.cells #[.int .i64 h.wax, .slice aw h.writers.length kw, .slice ac h.customers.length kc] 25)) V) => DRCan_any aw ac kw kc h k c V (hm.mono (box_old hb)) hv hk hc)
  have HRN := Lib.hid (fun (c : Nat) (p : List (List Int)) (e : anyTo h x c = some p) (hc : c < h.customers.length) (h0 : (canL h c).length = 0) => any_end e hc h0)
  have HRS := Lib.hid (fun (p : List (List Int)) (e : anyTo h x h.customers.length = some p) => show anyD h x = some p from e)
  generalize anyD h x = R at HRN HRS ⊢
  go_enter Try.func40, Try.ntmps40
  go_upto_region 2 with (refine wpList_make_row _ rfl (.tmp 15) (.tmp 15) _ rfl 42 i (.slice none 0 0) E_ints.und hi hz hsz rfl .i64 .i64 h.writers.length rfl rfl (by rw [hby]; omega) (by omega) ?_; go_frame)
  rw [show (w.alloc (.cells #[.int .i64 h.wax, .slice aw h.writers.length kw, .slice ac h.customers.length kc] 25)).heap.size = w.heap.size + 1 from by simp]
  obtain ⟨Y, hY⟩ : ∃ Y : World, Y = ((w.alloc (.cells #[.int .i64 h.wax, .slice aw h.writers.length kw, .slice ac h.customers.length kc] 25)).alloc (.cells (madeCells #[.slice none 0 0] h.writers.length) 42)) := ⟨_, rfl⟩
  rw [← hY]
  have hYb : Below (w.heap.size + 1) (w.alloc (.cells #[.int .i64 h.wax, .slice aw h.writers.length kw, .slice ac h.customers.length kc] 25)) Y := by rw [hY]; exact (by (repeat' (first | assumption | exact Below.refl _ _ | refine below_drew' ?_ | refine Below.setCell ?_ (by first | omega | (simp <;> omega)) _ | refine Below.alloc ?_ (by first | omega | (simp <;> omega)) _)))
  have hYP : PBlk Y (w.heap.size + 1) (List.replicate h.writers.length (.slice none 0 0)) (List.replicate h.writers.length []) := by
    rw [hY, nils_flat]
    refine ⟨alloc_at _ _ (by simp), by simp, fun i h1 h2 => ?_⟩
    simp only [List.getElem_replicate]
    exact RowT.nil _
  clear hY x0 x1 x2 z0 hi hz hsz hby
  go_wp2
  go_loopw [7, 8, 9, 10, 11, 12] (fun i d1 d2 d3 d4 d5 wr => ∃ (c : Nat) (p : List (List Int)) (vs : List Value), c ≤ h.customers.length ∧ i = .int .i64 c ∧ anyTo h x c = some p ∧ PBlk wr (w.heap.size + 1) vs p ∧ Below (w.heap.size + 1) (w.alloc (.cells #[.int .i64 h.wax, .slice aw h.writers.length kw, .slice ac h.customers.length kc] 25)) wr) (fun i _ _ _ _ _ _ => h.customers.length - (intOf i).toNat)
  case atStart => exact ⟨0, _, _, Nat.zero_le _, rfl, rfl, hYP, hYb⟩
  case round =>
    clear hYb hYP
    obtain ⟨c, p, vs, hc, rfl, hAT, hPB, hB0⟩ := hrel
    obtain ⟨W0, hW0⟩ : ∃ W0 : World, W0 = wr := ⟨_, rfl⟩
    subst hW0
    by_cases hlc : c < h.customers.length
    · obtain ⟨x0, x1, x2, z0⟩ := HCL.out _ hB0
      have HBW := Lib.hid (fun (V : World) (hb : Below W0.heap.size W0 V) => HBN.out _ _ hB0 hb)
      have hW0z := hBz.out _ hB0
      have hok := any_ok hAT
      have hpl := hok.len
      go_wp2
      go_loopw [8, 9] (fun v i V => ∃ k : Nat, k ≤ h.writers.length ∧ i = .int .i64 k ∧ V.ownsRow W0.heap.size 3 1 v (canTo h c k).length ((canTo h c k).map (Value.int .i64)) ∧ Below W0.heap.size W0 V) (fun _ i _ => h.writers.length - (intOf i).toNat)
      case atStart => exact ⟨0, Nat.zero_le _, rfl, World.ownsRow_nil _ _ _ _, Below.refl _ _⟩
      case round =>
        clear x0 x1 x2 z0
        obtain ⟨k, hk, rfl, hown, hb⟩ := hrel
        have hBV := HBW.out _ hb
        obtain ⟨x0, x1, x2, z0⟩ := HCL.out _ hBV
        have hcl := canTo_len h c k
        by_cases hlk : k < h.writers.length
        · have C1 := CN.out k c hlk hlc _ hBV
          cases hcan : canD h k c with
          | true =>
            rw [hcan] at C1
            replace C1 := Lib.hid C1
            have hy := Lib.hid (canTo_yes hcan)
            go_upto_region 10 with (go_at_call 88; go_must ((with_reducible refine C1.out.mono ?_); rintro e w3 ⟨rfl, hb3⟩; dsimp only))
            have hb3w := hb.trans (hb3.mono hb.size)
            have ho3 := own_below hown hb3
            have hz3 := hb3w.size
            go_wp2_with (at_builtin; go_must (refine wpList_app (.tmp 35) (.tmp 37) E_int rfl rfl rfl rfl W0.heap.size (canTo h c k).length 1 ((canTo h c k).map (Value.int .i64)) [Value.int .i64 (k : Int)] (ho3.alloc _) (SrcAt.one _ _ _ rfl) (by omega) (by decide) (by simp; omega) ?_; intro v4 w4 ho4 hg4 _; (have hb4 := app_next hb3w (Nat.le_refl _) (Nat.le_refl _) ho3 hg4); clear hg4; simp only [Act.put, List.setIfInBounds_toArray, List.set_cons_succ, List.set_cons_zero]))
            go_roundw
            case rel => exact ⟨k + 1, by omega, by go_num, by rw [hy.out, List.length_append, List.map_append]; exact ho4, hb4⟩
            case measure => simp [intOf]; omega
          | false =>
            rw [hcan] at C1
            replace C1 := Lib.hid C1
            have hy := Lib.hid (canTo_no hcan)
            go_wp2_with (go_at_call 88; go_must ((with_reducible refine C1.out.mono ?_); rintro e w3 ⟨rfl, hb3⟩; dsimp only))
            go_roundw
            case rel => exact ⟨k + 1, by omega, by go_num, by rw [hy.out]; exact own_below hown hb3, hb.trans (hb3.mono hb.size)⟩
            case measure => simp [intOf]; omega
        · obtain rfl : k = h.writers.length := by omega
          have e : canTo h c h.writers.length = canL h c := rfl
          rw [e] at hown hcl
          clear e
          by_cases h0 : (canL h c).length = 0
          · obtain rfl := HRN.out c p hAT hlc h0
            have q0 := eqi_t (show ((canL h c).length : Int) = 0 by omega)
            obtain ⟨ao, co, rfl, hso, -⟩ := IntsV.of_own hown
            replace h0 := Lib.hid h0
            go_wp2
            go_ret2
            exact ⟨rfl, box_old hBV⟩
          · have q0 := eqi_f (show ((canL h c).length : Int) ≠ 0 by omega)
            have hAN := Lib.hid (any_next hAT h0)
            obtain ⟨hw1, hw2⟩ := anyW_ok (x := x) h0
            obtain ⟨go, co, rfl⟩ := ownsRow_pos (by omega) hown
            obtain ⟨ao, co', e, hso, hio⟩ := IntsV.of_own hown
            cases e
            have T1 := TB.out (2 * c)
            have T2 := TB.out (2 * c + 1)
            have C1 := fun (V : World) (hq : Below W0.heap.size W0 V) => TU.out V (2 * c) (by omega) (HBW.out _ hq)
            have C2 := fun (V : World) (hq : Below W0.heap.size W0 V) => TU.out V (2 * c + 1) (by omega) (HBW.out _ hq)
            have hWI : Hid (anyW h x c = ((canL h c)[(turnD x (2 * c)).toNat % (canL h c).length]?.getD 0).toNat) := Lib.hid rfl
            have hAI : Hid (anyI h x c p = (turnD x (2 * c + 1)).toNat % ((p[anyW h x c]?.getD []).length + 1)) := Lib.hid rfl
            have hcm : ∀ y ∈ canL h c, 0 ≤ y := fun y hy => by obtain ⟨v, -, -, rfl⟩ := mem_canL.1 hy; omega
            generalize turnD x (2 * c) = t1 at T1 C1 hWI
            generalize turnD x (2 * c + 1) = t2 at T2 C2 hAI
            obtain ⟨t1, rfl⟩ := Int.eq_ofNat_of_zero_le T1.1
            obtain ⟨t2, rfl⟩ := Int.eq_ofNat_of_zero_le T2.1
            rw [Int.toNat_natCast] at hWI hAI
            have hjl : t1 % (canL h c).length < (canL h c).length := Nat.mod_lt _ (by omega)
            have hji := hio _ hjl
            have hj0 := hcm _ (List.getElem_mem hjl)
            have hWJ : Hid (anyW h x c = ((canL h c)[t1 % (canL h c).length]).toNat) := Lib.hid (by rw [hWI.out, List.getElem?_eq_getElem hjl]; rfl)
            generalize (canL h c)[t1 % (canL h c).length] = y at hji hj0 hWJ
            obtain ⟨v, rfl⟩ := Int.eq_ofNat_of_zero_le hj0
            rw [Int.toNat_natCast] at hWJ
            rw [hWJ.out] at hw1 hAI hAN
            clear hWI hWJ hcm hj0
            obtain ⟨bg, og, eg, hbg, hcg⟩ := hji
            cases eg
            have hcw := hso.1
            rw [Nat.zero_add] at hcg
            generalize (canL h c).length = many at *
            replace h0 := Lib.hid h0
            rw [show ((2 * c : Nat) : Int) = 2 * (c : Int) by omega] at C1
            rw [show ((2 * c + 1 : Nat) : Int) = 2 * (c : Int) + 1 by omega] at C2
            have hm2 : IntKind.i64.wrap (2 * (c : Int)) = 2 * (c : Int) := wrap_id (by omega) (by omega)
            have hm3 : IntKind.i64.wrap (2 * (c : Int) + 1) = 2 * (c : Int) + 1 := wrap_id (by omega) (by omega)
            go_upto_region 14 with (go_at_call 89; (try rw [hm2]); go_must ((with_reducible refine (C1 _ hb).mono ?_); rintro e w5 ⟨rfl, rfl⟩; dsimp only))
            have hvp : v < p.length := by omega
            have hvv : v < vs.length := by have := hPB.2.1; omega
            have hP5 := hPB.mono hb
            obtain ⟨ar, cr, er, hsr, hir⟩ := hP5.2.2 v hvv hvp
            have hrl : p[v].length ≤ 5 := by have := row_short hvp; have := plan_shortK hok; omega
            have hAJ : Hid (anyI h x c p = t2 % (p[v].length + 1)) := Lib.hid (by rw [hAI.out, List.getElem?_eq_getElem hvp, Option.getD_some])
            have hIN : Hid (insertAt p v (anyI h x c p) (c : Int) = p.set v (p[v].take (t2 % (p[v].length + 1)) ++ (c : Int) :: p[v].drop (t2 % (p[v].length + 1)))) := Lib.hid (by unfold insertAt; rw [modify_set _ _ _ hvp, hAJ.out])
            have hIB := insert_len p v (anyI h x c p) (c : Int)
            rw [hIN.out] at hAN hIB
            have hcv : w5.cell? ⟨w.heap.size + 1, v, none⟩ = some (.slice ar p[v].length cr) := blk_cell v hP5.1 (by rw [← er]; simp [hvv])
            clear hIN hAJ hAI
            generalize hrow : p[v] = row at hcv hsr hir hrl hAN er hIB
            replace hrow := Lib.hid hrow
            have hal : t2 % (row.length + 1) ≤ row.length := by have := Nat.mod_lt t2 (show 0 < row.length + 1 by omega); omega
            have hrm : (t2 : Int) % ((row.length : Int) + 1) = ((t2 % (row.length + 1) : Nat) : Int) := by rw [Int.natCast_emod]; rfl
            have hrt : (t2 : Int).tmod ((row.length : Int) + 1) = ((t2 % (row.length + 1) : Nat) : Int) := by rw [Int.tmod_eq_emod_of_nonneg (by omega)]; exact hrm
            generalize t2 % (row.length + 1) = a at hal hrm hrt hAN hIB
            replace hrt := Lib.hid hrt
            replace hrm := Lib.hid hrm
            have hsl := hsr.len
            have hs1 := hsr.1
            have hrne : ((row.length : Int) + 1 == 0) = false := eqi_f (by omega)
            have hvn : (v : Int) < h.writers.length := by omega
            have hwl : IntKind.i64.wrap ((row.length : Int) + 1) = (row.length : Int) + 1 := wrap_id (by omega) (by omega)
            have hrn2 : ¬ (row.length : Int) + 1 = 0 := by omega
            have hrn3 : (0 : Int) < (row.length : Int) + 1 := by omega
            have C2b := Lib.hid (fun (V : World) (hq : Below w5.heap.size w5 V) => (C2 V (hb.trans (hq.mono hb.size))).mono (R' := fun e w' => e = .returned (.int .i64 (t2 : Int)) ∧ Below V.heap.size V w') (fun e w' ⟨e1, e2⟩ => ⟨e1, by rw [e2]; exact Below.refl _ _⟩))
            have KE := Lib.hid (fun (V : World) (hq : Below w5.heap.size w5 V) => (⟨hq, cell_below hq hcv, lt_of_cell (cell_below hq hcv)⟩ : Below w5.heap.size w5 V ∧ V.cell? ⟨w.heap.size + 1, v, none⟩ = some (.slice ar row.length cr) ∧ w.heap.size + 1 < V.heap.size))
            have hww : Below w5.heap.size w5 w5.drew := below_drew' (Below.refl _ _)
            go_region_held3 (fun V => Below w5.heap.size w5 V ∧ V.cell? ⟨w.heap.size + 1, v, none⟩ = some (.slice ar row.length cr) ∧ w.heap.size + 1 < V.heap.size) (first | exact KE.out _ (by assumption)) (first
              | (go_at_call 89; (try rw [hm2]); (try rw [hm3]); ((with_reducible refine (C2b.out _ (And.left (by assumption))).mono ?_); rintro e w6 ⟨rfl, hb6⟩; have hbV := q_on (And.left (by assumption)) hb6; dsimp only)))
            simp only [hrt.out]
            have hb6w := hb.trans (hbV.mono hb.size)
            have hP6 := hP5.mono hbV
            have hi6 := hir.same (.of_below hbV)
            have hc6 := cell_below hbV hcv
            have hz6 := lt_of_cell hc6
            have hal2 : (a : Int) ≤ row.length := by omega
            have hal3 : (0 : Int) ≤ (a : Int) := by omega
            have hc6b := hc6
            clear hb6 hbV hb hcv hir hww KE C2b C1 C2 hrt hrm hwl hrne hrn2 hrn3 hm2 hm3 hP5 hcg hbg x0 x1 x2 z0 hBV hPB hown hio
            go_upto_region 16 with (first
              | (at_builtin; have hh := hb7; go_must (refine wpList_app (.tmp 71) (.tmp 73) E_int rfl rfl rfl rfl w6.heap.size a 1 ((row.take a).map (Value.int .i64)) [.int .i64 (c : Int)] (ho7.alloc _) (SrcAt.one _ _ _ rfl) (by omega) (by decide) (by have := hb7.size; simp; omega) ?_; intro v8 w8 ho8 hg8 _; (have hb8 := app_next hb7 (Nat.le_refl _) (Nat.le_refl _) ho7 hg8); clear hg8; simp only [Act.put, List.setIfInBounds_toArray, List.set_cons_succ, List.set_cons_zero]))
              | (at_builtin; go_must (refine wpList_app (.tmp 64) (.tmp 70) E_int rfl rfl rfl rfl w6.heap.size 0 a [] ((row.take a).map (Value.int .i64)) (made_row w6 _ 1) (show SrcAt (w6.alloc (.cells #[] 3)) (.slice ar a cr) a 1 _ from SrcAt.takeI hsr.2.2 (hi6.ints.mono ((Below.refl _ _).alloc (Nat.le_refl _) _)) hal) (by omega) (by decide) (by simp) ?_; intro v7 w7 ho7 hg7 _; (have hb7 := app_fresh hg7); (simp only [Nat.zero_add, List.nil_append] at ho7); clear hg7; simp only [Act.put, List.setIfInBounds_toArray, List.set_cons_succ, List.set_cons_zero])))
            have hc8 := cell_below hb8 hc6
            have hz8 := lt_of_cell hc8
            have hi8 := hi6.same (.of_below hb8)
            clear hc6 hz6 hb7 ho7
            go_wp2_with (at_builtin; go_must (refine wpList_app (.tmp 77) (.tmp 83) E_int rfl rfl rfl rfl w6.heap.size (a + 1) (row.length - a) ((row.take a).map (Value.int .i64) ++ [Value.int .i64 (c : Int)]) ((row.drop a).map (Value.int .i64)) ho8 ?g1 (by omega) (by decide) (by have := hb8.size; omega) ?_; (case g1 => go_simp; exact SrcAt.dropI hsr hi8.ints hal); intro v9 w9 ho9 hg9 _; (have hb9 := hb8.grown hg9 hb8.size (fun k e => (ho8.lt k e).1)); (obtain ⟨g9, cap9, rfl⟩ := ownsRow_pos (by omega) ho9); have hP9 := hP6.mono hb9; have q0 := cell_below hb9 hc6b; have qf := blk_free v hP9.1; have qz := lt_of_block hP9.1; clear hg9; simp only [Act.put, List.setIfInBounds_toArray, List.set_cons_succ, List.set_cons_zero]))
            have hel : ((row.take a).map (Value.int .i64) ++ [Value.int .i64 (c : Int)]) ++ (row.drop a).map (Value.int .i64) = (row.take a ++ (c : Int) :: row.drop a).map (Value.int .i64) := by simp
            rw [hel] at ho9
            have hb9w := HBW.out _ (hb6w.trans (hb9.mono hb6w.size))
            go_roundw
            case rel => exact ⟨c + 1, _, _, by omega, by go_num, hAN.out, hP9.set v (RowT.of_own ho9), hb9w.setCell (Nat.le_refl _) _⟩
            case measure => simp [intOf]; omega
    · obtain rfl : c = h.customers.length := by omega
      obtain ⟨x0, x1, x2, z0⟩ := HCL.out _ hB0
      have hpl := Lib.hid (any_ok hAT).len
      obtain rfl := HRS.out _ hAT
      go_wp2
      go_ret2
      exact ⟨⟨some ⟨w.heap.size + 1, 0, none⟩, h.writers.length, by rw [hpl.out]; rfl, ⟨by rw [hpl.out]; exact Nat.le_refl _, by omega, fun h => by cases h⟩, hPB.rows⟩, box_old hB0⟩
theorem DAny_none (aw ac : Option Addr) (kw kc : Nat) (h : DeH) (ax : Option Addr) (x : List Int) (cx : Nat) (hn : anyD h x = none) (w : World) (hm : HallC w aw ac kw kc h) (hv : DeValid h) (hox : SlOk ax x.length cx) (hix : BytesC w ax x) :
    Calls Try.prog 40 #[(.agg #[.int .i64 h.wax, .slice aw h.writers.length kw, .slice ac h.customers.length kc]), .slice ax x.length cx] w fun e w' => e = .returned (.tuple #[.slice none 0 0, .bool false]) ∧ Below w.heap.size w w' := by
  have C := DAny_any aw ac kw kc h ax x cx w hm hv hox hix
  rw [hn] at C
  exact C
theorem DAny_some (aw ac : Option Addr) (kw kc : Nat) (h : DeH) (ax : Option Addr) (x : List Int) (cx : Nat) (p : List (List Int)) (hn : anyD h x = some p) (w : World) (hm : HallC w aw ac kw kc h) (hv : DeValid h) (hox : SlOk ax x.length cx) (hix : BytesC w ax x) :
    Calls Try.prog 40 #[(.agg #[.int .i64 h.wax, .slice aw h.writers.length kw, .slice ac h.customers.length kc]), .slice ax x.length cx] w fun e w' => ∃ a c, e = .returned (.tuple #[.slice a p.length c, .bool true]) ∧ SlOk a p.length c ∧ RowsC w' a p ∧ Below w.heap.size w w' := by
  have C := DAny_any aw ac kw kc h ax x cx w hm hv hox hix
  rw [hn] at C
  exact C.mono fun e w' ⟨⟨a, c, h1, h2, h3⟩, h4⟩ => ⟨a, c, h1, h2, h3, h4⟩
theorem DIn_is (n lo hi : Int) (b : Bool) (hb : inB n lo hi = b) (w : World) : Calls Try.prog 41 #[.int .i64 n, .int .i64 lo, .int .i64 hi] w fun e w' => e = .returned (.bool b) ∧ Below w.heap.size w w' := by
  have C := In_any n lo hi w
  rw [hb] at C
  exact C.mono fun e w' ⟨h1, h2⟩ => ⟨h1, by rw [h2]; exact Below.refl _ _⟩
end Go.Proofs.Ytchnpekgmkhacaa
