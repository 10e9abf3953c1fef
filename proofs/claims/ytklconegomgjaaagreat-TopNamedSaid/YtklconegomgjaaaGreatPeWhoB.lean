/- What is proved here: the contract of Who of layer 3. Conditions: the town is valid, and so is the new mention. -/
import Derived.Test.YtklconegomgjaaaGreatPeWho
import Derived.Test.YtklconegomgjaaaGreatPeEqG
import Derived.Test.YtklconegomgjaaaGreatPeBorn
import Derived.Test.YtklconegomgjaaaGreatOnly
set_option linter.unusedVariables false
set_option linter.unusedSimpArgs false
namespace Go.Proofs.YtklconegomgjaaaGreat
open Go Go.RowKit Go.Shelf
attribute [local go_sem] Oper.semAt_some

/-- What the truths so far say of a new mention. -/
theorem whoBits_snoc (n : Nat) (l : List (List Int × Nat)) (x : List Int × Nat) : whoBits n (l ++ [x]) = whoBits n l ||| eaBits (fun i => pAt x.1 i == pAt x.1 n) n := by
  unfold whoBits
  apply Nat.eq_of_testBit_eq
  intro i
  rw [Nat.testBit_or, eaBits_bit, eaBits_bit, eaBits_bit, List.any_append]
  simp only [List.any_cons, List.any_nil, Bool.or_false]
  cases decide (i < n) <;> simp
theorem whoBits_nil (n : Nat) : whoBits n [] = 0 := by
  unfold whoBits
  apply Nat.eq_of_testBit_eq
  intro i
  rw [eaBits_bit]
  simp
/-- A slice of mentions that the call owns, with one more. -/
theorem ment_own {w : World} {base : Nat} {v : Value} {k : Nat} {l : List PeM} (h : w.ownsRow base 38 5 v k (flatC mentCells l)) (hk : k = l.length) : ∃ a c, v = .slice a l.length c ∧ SlOk a l.length c ∧ PeMentsC w a l := by
  obtain ⟨h0, a, c, h1, h2, h3⟩ := flat_own mentCells_len (by decide) h
  subst hk
  exact ⟨a, c, h1, h2, flat_ments h3⟩
theorem own_baseP {w : World} {base B : Nat} {e : TypeId} {size n : Nat} {v : Value} {xs : List Value} (h : w.ownsRow base e size v n xs) (hb : B ≤ base) : w.ownsRow B e size v n xs := by
  refine ⟨h.1, ?_⟩
  rcases h.2 with h2 | ⟨g, cap, cur, h2, h3, h4⟩
  · exact .inl h2
  · exact .inr ⟨g, cap, cur, h2, Nat.le_trans hb h3, h4⟩
theorem SrcAt.boxP {vs : List Value} (W : World) (h1 : ∀ u ∈ vs, u.oneCell' = true) (t : TypeId) : SrcAt (W.alloc (.cells vs.toArray t)) (.slice (some ⟨W.heap.size, 0, none⟩) 1 1) 1 vs.length vs := by
  refine ⟨by simp, h1, .inr ⟨_, _, rfl, fun j u hj => ?_⟩⟩
  rw [Addr.add_lit, Nat.zero_add]
  exact blk_cell j (heap_alloc_new W _) (by simpa using hj)
theorem SrcAt.ment1 (W : World) (a b c d e : Int) (t : TypeId) : SrcAt (W.alloc (.cells #[.int .i64 a, .int .i64 b, .int .i64 c, .int .i64 d, .int .i64 e] t)) (.slice (some ⟨W.heap.size, 0, none⟩) 1 1) 1 5 [.int .i64 a, .int .i64 b, .int .i64 c, .int .i64 d, .int .i64 e] :=
  SrcAt.boxP (vs := [.int .i64 a, .int .i64 b, .int .i64 c, .int .i64 d, .int .i64 e]) W (fun u hu => by simp at hu; rcases hu with rfl | rfl | rfl | rfl | rfl <;> rfl) t
theorem keeps_putP {A : World} {b : Nat} {d : Option (List Deferred)} (h : A.heap[b]? = some (.deferred d)) (o : Obj) : Keeps A (A.putObj b o) := ⟨by simp [World.putObj], fun p v e => by
  by_cases hb : p.block = b
  · simp [World.cell?, hb, h] at e
  · unfold World.cell? at e ⊢
    rw [World.putObj_heap_other hb]
    exact e⟩
theorem IntsN.keepV {B : Nat} {w W : World} {v : Value} {l : List Int} (h : IntsN B w v l) (hb : Keeps w W) : IntsV W v l := by
  obtain ⟨a, c, e, h1, h2, h3⟩ := h
  exact ⟨a, c, e, h1, h2.keep hb⟩
def WhoPost (t : PeW) (x : PeM) (w : World) (e : Ending) (w' : World) : Prop :=
  ((fairL t 0 = [] ∧ e = .returned (.tuple #[.slice none 0 0, .int .i64 8])) ∨ (fairL t 0 ≠ [] ∧ ∃ v, e = .returned (.tuple #[v, .int .i64 0]) ∧ IntsV w' v (whoN t x))) ∧ Below w.heap.size w w'
set_option maxRecDepth 100000 in
set_option maxHeartbeats 4000000 in
theorem PWho_any (a1 a2 a3 a4 : Option Addr) (k1 k2 k3 k4 : Nat) (t : PeW) (x : PeM) (w : World) (hm : TownC w a1 a2 a3 a4 k1 k2 k3 k4 t) (hv : PeValid t) (hx : mentErr t t.ments.length x = 0) :
    Calls Tryz.prog 13 #[(.agg #[.int .i64 t.ear.sounds, .slice a1 t.ear.alphas.length k1, .slice a2 t.ear.spells.length k2, .int .i64 t.vills, .slice a3 t.ments.length k3, .slice a4 t.ties.length k4]), .agg #[.int .i64 x.spell, .int .i64 x.vill, .int .i64 x.lo, .int .i64 x.hi, .int .i64 x.par]] w (WhoPost t x w) := by
  have hnm := hv.nm
  have hlm := hm.okm.len
  obtain ⟨Y, hY⟩ : ∃ Y : World, Y = (w.alloc (.cells #[.int .i64 t.ear.sounds, .slice a1 t.ear.alphas.length k1, .slice a2 t.ear.spells.length k2, .int .i64 t.vills, .slice a3 t.ments.length k3, .slice a4 t.ties.length k4] 29)).alloc (.cells #[.int .i64 x.spell, .int .i64 x.vill, .int .i64 x.lo, .int .i64 x.hi, .int .i64 x.par] 38) := ⟨_, rfl⟩
  have hbY : Below w.heap.size w Y := by rw [hY]; exact ((Below.refl _ _).alloc (Nat.le_refl _) _).alloc (by simp) _
  have h1 : Y.heap[w.heap.size]? = some (.cells #[.int .i64 t.ear.sounds, .slice a1 t.ear.alphas.length k1, .slice a2 t.ear.spells.length k2, .int .i64 t.vills, .slice a3 t.ments.length k3, .slice a4 t.ties.length k4] 29 (0, 0)) := by rw [hY]; exact (heap_alloc_old _ _ (by simp)).trans (alloc_atE _ _ rfl)
  have h2 : Y.heap[w.heap.size + 1]? = some (.cells #[.int .i64 x.spell, .int .i64 x.vill, .int .i64 x.lo, .int .i64 x.hi, .int .i64 x.par] 38 (0, 0)) := by rw [hY]; exact alloc_atE _ _ (by simp)
  have HY := Lib.hid hY
  clear hY
  have x0 := blk_cell 0 h1 rfl
  have x1 := blk_cell 1 h1 rfl
  have x2 := blk_cell 2 h1 rfl
  have x3 := blk_cell 3 h1 rfl
  have x4 := blk_cell 4 h1 rfl
  have x5 := blk_cell 5 h1 rfl
  have xz := lt_of_block h1
  simp only [List.getElem_toArray, List.getElem_cons_zero, List.getElem_cons_succ] at x0 x1 x2 x3 x4 x5
  have HBY := Lib.hid hbY
  have HB1 := Lib.hid h1
  have HB2 := Lib.hid h2
  have hmY := hm.mono hbY
  have HM := Lib.hid hm
  have HV := Lib.hid hv
  have HX := Lib.hid hx
  have hOT : ∀ U, Below Y.heap.size Y U → Calls Tryz.prog 56 #[.pointer (some ⟨w.heap.size, 0, none⟩), .pointer (some ⟨w.heap.size + 1, 0, none⟩)] U fun e w' => e = .returned (.int .i64 0) ∧ Below U.heap.size U w' := fun U hU =>
    PWho1_any a1 a2 a3 a4 k1 k2 k3 k4 t _ _ x U (hmY.mono hU) hv.vills hx ((hU.block _ (lt_of_block h1)).trans h1) ((hU.block _ (lt_of_block h2)).trans h2)
  by_cases hne : fairL t 0 = []
  · have EN := Lib.hid (PEnter_none a1 a2 a3 a4 k1 k2 k3 k4 t 56 #[.pointer (some ⟨w.heap.size, 0, none⟩), .pointer (some ⟨w.heap.size + 1, 0, none⟩)] Y hmY hv (enters_of Tryz.func56 (by kernel_rfl) rfl) hOT hne)
    have HNE := Lib.hid hne
    clear hne hm hmY h1 h2 hbY hOT hv hx
    go_enter Tryz.func13, Tryz.ntmps13
    go_upto_region 1 with (fail)
    rw [← HY.out]
    go_wp2_with (go_at_call 43; go_must ((with_reducible refine EN.out.mono ?_); rintro e w3 ⟨rfl, hb3⟩; dsimp only))
    go_ret2
    exact ⟨.inl ⟨HNE.out, rfl⟩, HBY.out.trans (hb3.mono HBY.out.size)⟩
  · have EN := Lib.hid (PEnter_some a1 a2 a3 a4 k1 k2 k3 k4 t 56 #[.pointer (some ⟨w.heap.size, 0, none⟩), .pointer (some ⟨w.heap.size + 1, 0, none⟩)] Y hmY hv (enters_of Tryz.func56 (by kernel_rfl) rfl) hOT hne)
    have CL := Lib.hid (fun (V : World) (h : Below w.heap.size w V) => PClone_any a3 t.ments k3 V (by omega) hm.okm (hm.ments.mono h))
    have FR := Lib.hid (fun (bt : Nat) (W : World) => PFair_any bt W)
    have HNE := Lib.hid hne
    clear hne hm hmY h1 h2 hbY hOT hv hx
    obtain ⟨xs, xv, xl, xh, xq⟩ := x
    simp only at HY HB2 HX EN ⊢
    refine (callsIn_wide (n := 0)).1 ?_
    refine callsIn_of_wp_marks Tryz.func13 rfl trivial ?_ rfl
    simp only [Tryz.ntmps13, List.size_toArray, List.length_cons, List.length_nil, Nat.reduceAdd, Nat.reduceSub, Array.replicate_succ, Array.replicate_zero, List.push_toArray, List.append_toArray, List.nil_append, List.cons_append]
    refine (wpIn_wide (n := 0)).2 ?_
    go_upto_region 1 with (fail)
    rw [← HY.out]
    go_upto_region 4 with (go_at_call 43; go_must ((with_reducible refine EN.out.mono ?_); rintro e w3 ⟨bt, bc, bk, rfl, ht3, hb3, g1, g2, g3⟩; dsimp only))
    have hbw3 := HBY.out.trans (hb3.mono HBY.out.size)
    have hyz := HBY.out.size
    have hzb := hb3.size
    have h1 := (hb3.block _ (lt_of_block HB1.out)).trans HB1.out
    have h2 := (hb3.block _ (lt_of_block HB2.out)).trans HB2.out
    have b4 := blk_cell 4 h1 rfl
    have bz := lt_of_block h1
    simp only [List.getElem_toArray, List.getElem_cons_zero, List.getElem_cons_succ] at b4
    go_upto_region 5 with (fail)
    obtain ⟨Z, hZ⟩ : ∃ Z : World, Z = w3.alloc (.cells #[.int .i64 (t.ments.length : Int)] 3) := ⟨_, rfl⟩
    rw [← hZ]
    have hbZ : Below w3.heap.size w3 Z := by rw [hZ]; exact (Below.refl _ _).alloc (Nat.le_refl _) _
    have h3 : Z.heap[w3.heap.size]? = some (.cells #[.int .i64 (t.ments.length : Int)] 3 (0, 0)) := by rw [hZ]; exact alloc_atE _ _ rfl
    clear hZ
    have hbwZ := hbw3.trans (hbZ.mono hbw3.size)
    replace h1 := (hbZ.block _ (lt_of_block h1)).trans h1
    replace h2 := (hbZ.block _ (lt_of_block h2)).trans h2
    have hsz3 := hbZ.size
    clear b4 bz ht3 g1 g2 g3 hb3 EN x0 x1 x2 x3 x4 x5 xz hbZ hbw3
    go_cut [29] from 24 to 30 (fun v W => ∃ (V : World) (a : Option Addr) (c : Nat), v = .slice a (t.ments.length + 1) c ∧ W = V.setCell ⟨w.heap.size, 4, none⟩ (.slice a (t.ments.length + 1) c) ∧ SlOk a (t.ments.length + 1) c ∧ PeMentsC V a (t.ments ++ [⟨xs, xv, xl, xh, xq⟩]) ∧ (∀ ad, a = some ad → Z.heap.size ≤ ad.block) ∧ Below Z.heap.size Z V)
    case first =>
      have SF : Hid (∀ U, Below Z.heap.size Z U → (fun U => Below Z.heap.size Z U ∧ U.cell? ⟨w.heap.size, 4, none⟩ = some (.slice a3 t.ments.length k3) ∧ U.cell? ⟨w.heap.size + 1, 0, none⟩ = some (.int .i64 xs) ∧ U.cell? ⟨w.heap.size + 1, 1, none⟩ = some (.int .i64 xv) ∧ U.cell? ⟨w.heap.size + 1, 2, none⟩ = some (.int .i64 xl) ∧ U.cell? ⟨w.heap.size + 1, 3, none⟩ = some (.int .i64 xh) ∧ U.cell? ⟨w.heap.size + 1, 4, none⟩ = some (.int .i64 xq) ∧ w.heap.size < U.heap.size ∧ w.heap.size + 1 < U.heap.size) U) := Lib.hid (fun U h => by
        have q1 := (h.block _ (lt_of_block h1)).trans h1
        have q2 := (h.block _ (lt_of_block h2)).trans h2
        exact ⟨h, blk_cell 4 q1 rfl, blk_cell 0 q2 rfl, blk_cell 1 q2 rfl, blk_cell 2 q2 rfl, blk_cell 3 q2 rfl, blk_cell 4 q2 rfl, lt_of_block q1, lt_of_block q2⟩)
      have hZ0 := below_drew' (Below.refl Z.heap.size Z)
      refine wp_only ?_
      refine wp_region_z (fun U => Below Z.heap.size Z U ∧ U.cell? ⟨w.heap.size, 4, none⟩ = some (.slice a3 t.ments.length k3) ∧ U.cell? ⟨w.heap.size + 1, 0, none⟩ = some (.int .i64 xs) ∧ U.cell? ⟨w.heap.size + 1, 1, none⟩ = some (.int .i64 xv) ∧ U.cell? ⟨w.heap.size + 1, 2, none⟩ = some (.int .i64 xl) ∧ U.cell? ⟨w.heap.size + 1, 3, none⟩ = some (.int .i64 xh) ∧ U.cell? ⟨w.heap.size + 1, 4, none⟩ = some (.int .i64 xq) ∧ w.heap.size < U.heap.size ∧ w.heap.size + 1 < U.heap.size) 7 (by kernel_rfl) (SF.out Z.drew hZ0) (fun hHeld => ?_)
      (refine wpZ_take (i := 0) (v := ?_) rfl (by kernel_rfl) (by kernel_rfl) (by kernel_rfl) (by kernel_rfl) (fun _ _ _ h => h) (Or.inl ⟨by kernel_rfl, ?_⟩) (by assumption) ?_; rotate_left 1; (focus (intro w hSw; (try dsimp only at hSw); go_simp; first | done | with_reducible rfl)); simp only [Act.put, List.getElem_toArray, List.getElem_cons_succ, List.getElem_cons_zero, List.setIfInBounds_toArray, List.set_cons_succ, List.set_cons_zero])
      (refine wpZ_take (i := 1) (v := ?_) rfl (by kernel_rfl) (by kernel_rfl) (by kernel_rfl) (by kernel_rfl) (fun _ _ _ h => h) (Or.inl ⟨by kernel_rfl, ?_⟩) (by assumption) ?_; rotate_left 1; (focus (intro w hSw; (try dsimp only at hSw); go_simp; first | done | with_reducible rfl)); simp only [Act.put, List.getElem_toArray, List.getElem_cons_succ, List.getElem_cons_zero, List.setIfInBounds_toArray, List.set_cons_succ, List.set_cons_zero])
      (refine wpZ_take (i := 3) (v := ?_) rfl (by kernel_rfl) (by kernel_rfl) (by kernel_rfl) (by kernel_rfl) (fun _ _ _ h => h) (Or.inl ⟨by kernel_rfl, ?_⟩) (by assumption) ?_; rotate_left 1; (focus (intro w hSw; (try dsimp only at hSw); go_simp; first | done | with_reducible rfl)); simp only [Act.put, List.getElem_toArray, List.getElem_cons_succ, List.getElem_cons_zero, List.setIfInBounds_toArray, List.set_cons_succ, List.set_cons_zero])
      refine wpZ_ready (rs := [2, 4]) (by kernel_rfl) (by simp) (AllZ.cons rfl (fun K hK => ?_) (AllZ.cons rfl (fun K hK => ?_) AllZ.nil))
      · go_simp
        refine (CL.out _ (hbwZ.trans (hZ0.mono hbwZ.size))).mono ?_
        rintro e V1 ⟨v1, rfl, ho1, hb1⟩
        dsimp only
        have hB1 := hZ0.trans (hb1.mono hZ0.size)
        refine hK.out _ _ (fun _ => SF.out _ hB1) ?_
        (try simp only [Act.put, List.getElem_toArray, List.getElem_cons_succ, List.getElem_cons_zero, List.setIfInBounds_toArray, List.set_cons_succ, List.set_cons_zero])
        clear hK
        refine wpZ_ready (rs := [4]) (by kernel_rfl) (by simp) (AllZ.cons rfl (fun K hK => ?_) AllZ.nil)
        go_simp
        have hB1' := hB1.alloc hB1.size (.cells #[.int .i64 xs, .int .i64 xv, .int .i64 xl, .int .i64 xh, .int .i64 xq] 38)
        refine hK.out _ _ (fun _ => SF.out _ hB1') ?_
        (try simp only [Act.put, List.getElem_toArray, List.getElem_cons_succ, List.getElem_cons_zero, List.setIfInBounds_toArray, List.set_cons_succ, List.set_cons_zero])
        clear hK
        refine wpZ_ready (rs := [5]) (by kernel_rfl) (by simp) (AllZ.cons rfl (fun K hK => ?_) AllZ.nil)
        refine step_app (.tmp 26) (.tmp 28) (v := v1) E_ment (by rfl) (by rfl) (by rfl) (by rfl) Z.heap.size t.ments.length 1 (flatC mentCells t.ments) (mentCells ⟨xs, xv, xl, xh, xq⟩) (own_baseP (ho1.alloc _) hZ0.size) (SrcAt.ment1 V1 xs xv xl xh xq 38) (by omega) (by decide) (by have := hB1.size; simp; omega) ?_
        intro v2 V2 ho2 hg2 _
        have hB2 : Below Z.heap.size Z V2 := app_grown hB1' (own_baseP (ho1.alloc _) hZ0.size) hg2
        rw [flatC_snoc] at ho2
        have hHeld2 := SF.out _ hB2
        refine hK.out _ _ (fun _ => hHeld2) ?_
        (try simp only [Act.put, List.getElem_toArray, List.getElem_cons_succ, List.getElem_cons_zero, List.setIfInBounds_toArray, List.set_cons_succ, List.set_cons_zero])
        clear hK
        obtain ⟨ar, cr, rfl, hsr2, hmr2⟩ := ment_own ho2 (by simp)
        have har : ∀ ad, (ar : Option Addr) = some ad → Z.heap.size ≤ ad.block := fun ad e => by
          have hlt := (ho2.lt ad.block (by rw [e]; rfl)).1
          exact hlt
        have k2 := (hB2.block _ (lt_of_block h1)).trans h1
        have kk2 := blk_cell 4 k2 rfl
        have kk3 := blk_free 4 k2
        have kkz := lt_of_block k2
        simp only [List.length_append, List.length_singleton] at hsr2
        clear ho2 hg2 k2
        (refine wpZ_take (i := 6) (v := ?_) rfl (by kernel_rfl) (by kernel_rfl) (by kernel_rfl) (by kernel_rfl) (fun _ _ _ h => h) (Or.inl ⟨by kernel_rfl, ?_⟩) (by assumption) ?_; rotate_left 1; (focus (intro w hSw; (try dsimp only at hSw); go_simp; first | done | with_reducible rfl)); simp only [Act.put, List.getElem_toArray, List.getElem_cons_succ, List.getElem_cons_zero, List.setIfInBounds_toArray, List.set_cons_succ, List.set_cons_zero])
        refine wpZ_ready (rs := [7]) (by kernel_rfl) (by simp) (AllZ.cons rfl (fun K hK => ?_) AllZ.nil)
        (go_simp; refine hK.out _ _ (fun h => absurd rfl h) ?_; (try simp only [Act.put, List.getElem_toArray, List.getElem_cons_succ, List.getElem_cons_zero, List.setIfInBounds_toArray, List.set_cons_succ, List.set_cons_zero]); clear hK; refine wpZ_done (by kernel_rfl) ?_ _)
        dsimp only [onlyN]
        go_wp2
        go_meet
        case rel => exact ⟨V2, ar, cr, rfl, rfl, hsr2, hmr2, har, hB2⟩
      · have hBa := hZ0.alloc hZ0.size (.cells #[.int .i64 xs, .int .i64 xv, .int .i64 xl, .int .i64 xh, .int .i64 xq] 38)
        go_simp
        refine hK.out _ _ (fun _ => SF.out _ hBa) ?_
        (try simp only [Act.put, List.getElem_toArray, List.getElem_cons_succ, List.getElem_cons_zero, List.setIfInBounds_toArray, List.set_cons_succ, List.set_cons_zero])
        clear hK
        refine wpZ_ready (rs := [2]) (by kernel_rfl) (by simp) (AllZ.cons rfl (fun K hK => ?_) AllZ.nil)
        go_simp
        refine (CL.out _ (hbwZ.trans (hBa.mono hbwZ.size))).mono ?_
        rintro e V1 ⟨v1, rfl, ho1, hb1⟩
        dsimp only
        have hB1 := hBa.trans (hb1.mono hBa.size)
        refine hK.out _ _ (fun _ => SF.out _ hB1) ?_
        (try simp only [Act.put, List.getElem_toArray, List.getElem_cons_succ, List.getElem_cons_zero, List.setIfInBounds_toArray, List.set_cons_succ, List.set_cons_zero])
        clear hK
        refine wpZ_ready (rs := [5]) (by kernel_rfl) (by simp) (AllZ.cons rfl (fun K hK => ?_) AllZ.nil)
        refine step_app (.tmp 26) (.tmp 28) (v := v1) E_ment (by rfl) (by rfl) (by rfl) (by rfl) Z.heap.size t.ments.length 1 (flatC mentCells t.ments) (mentCells ⟨xs, xv, xl, xh, xq⟩) (own_baseP ho1 hBa.size) ((SrcAt.ment1 Z.drew xs xv xl xh xq 38).below hb1) (by omega) (by decide) hB1.size ?_
        intro v2 V2 ho2 hg2 _
        have hB2 : Below Z.heap.size Z V2 := app_grown hB1 (own_baseP ho1 hBa.size) hg2
        rw [flatC_snoc] at ho2
        have hHeld2 := SF.out _ hB2
        refine hK.out _ _ (fun _ => hHeld2) ?_
        (try simp only [Act.put, List.getElem_toArray, List.getElem_cons_succ, List.getElem_cons_zero, List.setIfInBounds_toArray, List.set_cons_succ, List.set_cons_zero])
        clear hK
        obtain ⟨ar, cr, rfl, hsr2, hmr2⟩ := ment_own ho2 (by simp)
        have har : ∀ ad, (ar : Option Addr) = some ad → Z.heap.size ≤ ad.block := fun ad e => by
          have hlt := (ho2.lt ad.block (by rw [e]; rfl)).1
          exact hlt
        have k2 := (hB2.block _ (lt_of_block h1)).trans h1
        have kk2 := blk_cell 4 k2 rfl
        have kk3 := blk_free 4 k2
        have kkz := lt_of_block k2
        simp only [List.length_append, List.length_singleton] at hsr2
        clear ho2 hg2 k2
        (refine wpZ_take (i := 6) (v := ?_) rfl (by kernel_rfl) (by kernel_rfl) (by kernel_rfl) (by kernel_rfl) (fun _ _ _ h => h) (Or.inl ⟨by kernel_rfl, ?_⟩) (by assumption) ?_; rotate_left 1; (focus (intro w hSw; (try dsimp only at hSw); go_simp; first | done | with_reducible rfl)); simp only [Act.put, List.getElem_toArray, List.getElem_cons_succ, List.getElem_cons_zero, List.setIfInBounds_toArray, List.set_cons_succ, List.set_cons_zero])
        refine wpZ_ready (rs := [7]) (by kernel_rfl) (by simp) (AllZ.cons rfl (fun K hK => ?_) AllZ.nil)
        (go_simp; refine hK.out _ _ (fun h => absurd rfl h) ?_; (try simp only [Act.put, List.getElem_toArray, List.getElem_cons_succ, List.getElem_cons_zero, List.setIfInBounds_toArray, List.set_cons_succ, List.set_cons_zero]); clear hK; refine wpZ_done (by kernel_rfl) ?_ _)
        dsimp only [onlyN]
        go_wp2
        go_meet
        case rel => exact ⟨V2, ar, cr, rfl, rfl, hsr2, hmr2, har, hB2⟩
    case rest =>
      rename World => G
      obtain ⟨V, a', c', -, hWc, hsl, hmc, hab, hbV⟩ := hcut
      have hwY := lt_of_block HB2.out
      have hzV := hbV.size
      have hwV := lt_of_block h1
      have h1V := (hbV.block _ hwV).trans h1
      have hbwV := hbwZ.trans (hbV.mono hbwZ.size)
      have HTC : TownC G a1 a2 a' a4 k1 k2 c' k4 (withM t ⟨xs, xv, xl, xh, xq⟩) := by
        have hbG : Below w.heap.size w G := by rw [hWc]; exact hbwV.setCell (by simp) _
        have h9 := HM.out.mono hbG
        refine ⟨h9.book, ?_, h9.okt, ?_, h9.ties⟩
        · show SlOk a' (t.ments ++ _).length c'
          rw [List.length_append, List.length_singleton]
          exact hsl
        · intro i hi
          obtain ⟨b, off, e, hlt, q0, q1, q2, q3, q4⟩ := hmc i hi
          have hne := hab _ e
          simp only at hne
          have hh : G.heap[b]? = V.heap[b]? := by rw [hWc]; exact setP_other (by omega)
          exact ⟨b, off, e, by rw [hWc]; simpa using hlt, cell_same hh q0, cell_same hh q1, cell_same hh q2, cell_same hh q3, cell_same hh q4⟩
      have HG1 : G.heap[w.heap.size]? = some (.cells #[.int .i64 t.ear.sounds, .slice a1 t.ear.alphas.length k1, .slice a2 t.ear.spells.length k2, .int .i64 t.vills, .slice a' (t.ments.length + 1) c', .slice a4 t.ties.length k4] 29 (0, 0)) := by rw [hWc]; exact blk_set 4 _ h1V
      have HG3 : G.heap[w3.heap.size]? = some (.cells #[.int .i64 (t.ments.length : Int)] 3 (0, 0)) := by rw [hWc, setP_other (by omega)]; exact (hbV.block _ (lt_of_block h3)).trans h3
      have HGB : Hid (Below w.heap.size w G) := Lib.hid (by rw [hWc]; exact hbwV.setCell (by simp) _)
      have hwG : w.heap.size < w3.heap.size ∧ w3.heap.size < G.heap.size := ⟨by omega, lt_of_block HG3⟩
      have LK := Lib.hid (fun (U : World) (h : Below G.heap.size G U) => PLook0_any a1 a2 a' a4 k1 k2 c' k4 (withM t ⟨xs, xv, xl, xh, xq⟩) U (HTC.mono h))
      have hml : (withM t ⟨xs, xv, xl, xh, xq⟩).ments.length = t.ments.length + 1 := by simp [withM]
      change Hid (∀ (U : World), _ → Calls _ _ #[.agg #[.int .i64 t.ear.sounds, .slice a1 t.ear.alphas.length k1, .slice a2 t.ear.spells.length k2, .int .i64 t.vills, .slice a' (withM t ⟨xs, xv, xl, xh, xq⟩).ments.length c', .slice a4 t.ties.length k4], _] _ _) at LK
      rw [hml] at LK
      have HV2 := Lib.hid (HV.out.with HX.out)
      have HTC0 := Lib.hid HTC
      obtain ⟨t', ht'⟩ : ∃ t', t' = withM t ⟨xs, xv, xl, xh, xq⟩ := ⟨_, rfl⟩
      have hmn : t'.ments.length = t.ments.length + 1 := by rw [ht', hml]
      rw [← ht'] at LK HV2 HTC0
      have HT' := Lib.hid ht'
      clear hWc hmc hab hsl HTC h1 h2 h3 h1V hbwV hbV hwV hml ht' CL
      have z0 := blk_cell 0 HG1 rfl
      have z1 := blk_cell 1 HG1 rfl
      have z2 := blk_cell 2 HG1 rfl
      have z3 := blk_cell 3 HG1 rfl
      have z4 := blk_cell 4 HG1 rfl
      have z5 := blk_cell 5 HG1 rfl
      have zz := lt_of_block HG1
      simp only [List.getElem_toArray, List.getElem_cons_zero, List.getElem_cons_succ] at z0 z1 z2 z3 z4 z5
      have HG3' := Lib.hid HG3
      have hbX0 : Below G.heap.size G (G.alloc (.cells #[.int .i64 0] 3)) := (Below.refl _ _).alloc (Nat.le_refl _) _
      clear HG1 HG3
      go_wp2_with (first
        | (go_at_call 44; go_must ((with_reducible refine (FR.out _ _).mono ?_); rintro e w6 ⟨rfl, rfl⟩; dsimp only))
        | (go_at_call 41; go_must ((with_reducible refine (LK.out _ hbX0).mono ?_); rintro e w5 ⟨bt', bc', bk', rfl, ht5, hb5, g1, g2, g3⟩; dsimp only)))
      have hg0 : (G.alloc (.cells #[.int .i64 0] 3)).heap[G.heap.size]? = some (.cells #[.int .i64 0] 3 (0, 0)) := alloc_atE _ _ rfl
      have hg5 := (hb5.block _ (by simp)).trans hg0
      have hbG5 := hbX0.trans (hb5.mono hbX0.size)
      simp only [World.size_alloc] at g1 g2 g3
      have hlo0 := ht5.bt_lt
      have hlo1 := ht5.bc_lt
      have hlo2 := ht5.bk_lt
      have hz5 := lt_of_block hg5
      have hP5 := TwP.of hbG5 ht5 (by omega) (by omega) (by omega)
      have hSE := PFair_seq a1 a2 a' a4 k1 k2 c' k4 t' bt' bc' bk' 0 w5.heap.size HV2.out (by omega)
      clear z0 z1 z2 z3 z4 z5 zz LK hg0 hb5 hbX0 ht5
      obtain ⟨X, hX⟩ : ∃ X : World, X = w5.alloc (.cells #[.pointer (some ⟨bt', 0, none⟩)] 100) := ⟨_, rfl⟩
      have hsz : X.heap.size = w5.heap.size + 1 := by rw [hX]; simp
      have hb0 : Below w5.heap.size w5 X := by rw [hX]; exact (Below.refl _ w5).alloc (Nat.le_refl _) _
      have hc0 : X.heap[w5.heap.size]? = some (.cells #[.pointer (some ⟨bt', 0, none⟩)] 100 (0, 0)) := by rw [hX]; exact alloc_atE _ _ rfl
      rw [← hX]
      clear hX
      refine (wpIn_wide (n := 0)).1 ?_
      refine wpIn_rangeFunc_Y (gf := 93) (lb := #[.pointer (some ⟨w5.heap.size, 0, none⟩)]) (by go_simp) (enters_of Tryz.func93 (by kernel_rfl) rfl) hSE (Nat.le_refl X.heap.size)
        (fun A A' h => h.1.above (by omega) (by omega)) (fun _ => rfl)
        (fun pre A => TwP G A bt' bc' bk' a1 a2 a' a4 k1 k2 c' k4 t' ∧ A.heap[G.heap.size]? = some (.cells #[.int .i64 (whoBits t.ments.length pre : Int)] 3 (0, 0)) ∧ A.heap[w5.heap.size]? = some (.cells #[.pointer (some ⟨bt', 0, none⟩)] 100 (0, 0)))
        (fun c pre A => False)
        (fun s A A' h hb => ⟨h.1.belowB hb.below (by omega) (by omega) (by omega) (by omega), (hb.below.block _ (by omega)).trans h.2.1, (hb.below.block _ (by omega)).trans h.2.2⟩)
        (fun c s A A' h hb => h.elim)
        (fun s A A' h hR => ⟨h.1.step hR.1 hR.2, hR.1.cellsN h.2.1 (by omega) (by omega), hR.1.cellsN h.2.2 (by omega) (by omega)⟩)
        (fun s A h => ⟨h.1.town HTC0.out, h.2.2⟩)
        ⟨hP5.belowB hb0 (by omega) (by omega) (by omega) (by omega), by rw [whoBits_nil]; exact (hb0.block _ hz5).trans hg5, hc0⟩ ?round ?done ?stop
      case stop =>
        intro D c pre V hD hI hK
        exact hI.elim
      case round =>
        intro l pre x V hl1 hl2 hI hpre
        have HBS := Lib.hid (whoBits_snoc t.ments.length pre x)
        have hbl : whoBits t.ments.length pre < 2 ^ t.ments.length := eaBits_lt _ _
        have HI := Lib.hid hI
        obtain ⟨xp, xm⟩ := x
        simp only at HBS
        simp only [encP, psV]
        clear hI hpre
        generalize whoBits t.ments.length pre = wb at *
        gi_wp2
        have hbV : Below V.heap.size V (V.alloc (.cells #[.int .i64 (pAt xp 0), .int .i64 (pAt xp 1), .int .i64 (pAt xp 2), .int .i64 (pAt xp 3), .int .i64 (pAt xp 4), .int .i64 (pAt xp 5)] 109)) := (Below.refl _ _).alloc (Nat.le_refl _) _
        refine ⟨Above.of_below hbV, ⟨HI.out.1.belowB hbV (by omega) (by omega) (by omega) (by omega), (hbV.block _ (by omega)).trans HI.out.2.1, (hbV.block _ (by omega)).trans HI.out.2.2⟩, ?_⟩
        intro Wb hs2 hblk hIb
        obtain ⟨hG1, hO1, hC1⟩ := hIb
        have hP1 : Wb.heap[V.heap.size]? = some (.cells (psCells xp) 109 (0, 0)) := (hblk _ (by omega)).trans (alloc_atE _ _ rfl)
        have hz1 : Wb.heap.size = V.heap.size + 1 := by rw [hs2]; simp
        clear hblk hs2 hbV HI
        have hmany := (hG1.below.block _ (lt_of_block HG3'.out)).trans HG3'.out
        have m0 := blk_cell 0 hmany rfl
        have mz := lt_of_block hmany
        simp only [List.getElem_toArray, List.getElem_cons_zero] at m0
        have HG1 := Lib.hid hG1
        have HO1 := Lib.hid hO1
        have HC1 := Lib.hid hC1
        have HP1 := Lib.hid hP1
        clear hG1 hO1 hC1 hP1 hmany
        gi_wp2
        clear m0 mz
        gi_loopw [37] (fun i vr => ∃ j : Nat, j ≤ t.ments.length ∧ i = .int .i64 (j : Int) ∧ TwP G vr bt' bc' bk' a1 a2 a' a4 k1 k2 c' k4 t' ∧ vr.heap[G.heap.size]? = some (.cells #[.int .i64 ((wb ||| eaBits (fun i => pAt xp i == pAt xp t.ments.length) j : Nat) : Int)] 3 (0, 0)) ∧ vr.heap[w5.heap.size]? = some (.cells #[.pointer (some ⟨bt', 0, none⟩)] 100 (0, 0)) ∧ vr.heap[V.heap.size]? = some (.cells (psCells xp) 109 (0, 0)) ∧ Above X.heap.size Wb vr) (fun i _ => t.ments.length - (intOf i).toNat)
        case atStart => exact ⟨0, Nat.zero_le _, rfl, HG1.out, by simpa [eaBits] using HO1.out, HC1.out, HP1.out, Above.refl _ _⟩
        case round =>
          clear HG1 HO1 HC1 HP1
          rename World => Z1
          obtain ⟨j, hj, rfl, hG1, hO1, hC1, hP1, hA1⟩ := hrel
          by_cases hlt : j < t.ments.length
          · have hlti : (j : Int) < (t.ments.length : Int) := by omega
            have hej : eaBits (fun i => pAt xp i == pAt xp t.ments.length) j < 2 ^ t.ments.length := Nat.lt_of_lt_of_le (eaBits_lt _ j) (Nat.pow_le_pow_right (by omega) (by omega))
            have hsu : Hid (wb ||| eaBits (fun i => pAt xp i == pAt xp t.ments.length) (j + 1) = if (pAt xp j == pAt xp t.ments.length) = true then (wb ||| eaBits (fun i => pAt xp i == pAt xp t.ments.length) j) ||| 2 ^ j else wb ||| eaBits (fun i => pAt xp i == pAt xp t.ments.length) j) := Lib.hid (by
              rw [eaBits]
              split
              · rw [Nat.or_assoc]
              · rw [Nat.or_zero])
            have h32 : (wb ||| eaBits (fun i => pAt xp i == pAt xp t.ments.length) j) < 32 := Nat.lt_of_lt_of_le (Nat.or_lt_two_pow hbl hej) (show 2 ^ t.ments.length ≤ 2 ^ 5 from Nat.pow_le_pow_right (by omega) hnm)
            clear hej
            generalize eaBits (fun i => pAt xp i == pAt xp t.ments.length) j = ej at *
            have hor := or_bitC (wb ||| ej) h32 j (by omega)
            have hpw := pow_wrapL j (by omega)
            have hj64 : (j : Int) < 64 := by omega
            have hj6 : (j : Int) < 6 := by omega
            have hn6 : (t.ments.length : Int) < 6 := by omega
            have hj0 : (0 : Int) ≤ (j : Int) := by omega
            have hn0 : (0 : Int) ≤ (t.ments.length : Int) := by omega
            have hmany := (hG1.below.block _ (lt_of_block HG3'.out)).trans HG3'.out
            have KZ := Lib.hid (fun (U : World) (h : Below Z1.heap.size Z1 U) => (show Below Z1.heap.size Z1 U ∧ U.cell? ⟨w3.heap.size, 0, none⟩ = some (.int .i64 (t.ments.length : Int)) ∧ U.cell? ⟨V.heap.size, j, none⟩ = some (.int .i64 (pAt xp j)) ∧ U.cell? ⟨V.heap.size, t.ments.length, none⟩ = some (.int .i64 (pAt xp t.ments.length)) ∧ w3.heap.size < U.heap.size ∧ V.heap.size < U.heap.size from by
              have q1 := (h.block _ (lt_of_block hmany)).trans hmany
              have q3 := (h.block _ (lt_of_block hP1)).trans hP1
              exact ⟨h, blk_cell 0 q1 rfl, ps_cell q3 j (by omega), ps_cell q3 _ (by omega), lt_of_block q1, lt_of_block q3⟩))
            have hZ0 := below_drew' (Below.refl Z1.heap.size Z1)
            have hx0 := lt_of_block hC1
            have hx1 := lt_of_block hP1
            gi_upto_region 12 with (fail)
            apply wpIn_mid _ (fun U => Below Z1.heap.size Z1 U)
            · refine wpIn_region_round (fun U => Below Z1.heap.size Z1 U ∧ U.cell? ⟨w3.heap.size, 0, none⟩ = some (.int .i64 (t.ments.length : Int)) ∧ U.cell? ⟨V.heap.size, j, none⟩ = some (.int .i64 (pAt xp j)) ∧ U.cell? ⟨V.heap.size, t.ments.length, none⟩ = some (.int .i64 (pAt xp t.ments.length)) ∧ w3.heap.size < U.heap.size ∧ V.heap.size < U.heap.size) ?_ (by kernel_rfl) (noDefer_spec (by kernel_rfl)) (KZ.out _ hZ0) (fun hHeld => ?_)
              · intro h
                obtain ⟨_, _, h⟩ := h
                exact h
              (refine wpAnyH_take (i := 0) (v := ?_) rfl (by kernel_rfl) (by kernel_rfl) (by kernel_rfl) (fun _ _ _ h => h) (Or.inl ⟨by kernel_rfl, ?_⟩) (by assumption) ?_; rotate_left 1; (focus (intro w hSw; (try dsimp only at hSw); go_simp; first | done | with_reducible rfl)); simp only [Act.put, List.getElem_toArray, List.getElem_cons_succ, List.getElem_cons_zero, List.setIfInBounds_toArray, List.set_cons_succ, List.set_cons_zero])
              (refine wpAnyH_take (i := 1) (v := ?_) rfl (by kernel_rfl) (by kernel_rfl) (by kernel_rfl) (fun _ _ _ h => h) (Or.inl ⟨by kernel_rfl, ?_⟩) (by assumption) ?_; rotate_left 1; (focus (intro w hSw; (try dsimp only at hSw); go_simp; first | done | with_reducible rfl)); simp only [Act.put, List.getElem_toArray, List.getElem_cons_succ, List.getElem_cons_zero, List.setIfInBounds_toArray, List.set_cons_succ, List.set_cons_zero])
              (refine wpAnyH_take (i := 2) (v := ?_) rfl (by kernel_rfl) (by kernel_rfl) (by kernel_rfl) (fun _ _ _ h => h) (Or.inl ⟨by kernel_rfl, ?_⟩) (by assumption) ?_; rotate_left 1; (focus (intro w hSw; (try dsimp only at hSw); go_simp; first | done | with_reducible rfl)); simp only [Act.put, List.getElem_toArray, List.getElem_cons_succ, List.getElem_cons_zero, List.setIfInBounds_toArray, List.set_cons_succ, List.set_cons_zero])
              (refine wpAnyH_take (i := 3) (v := ?_) rfl (by kernel_rfl) (by kernel_rfl) (by kernel_rfl) (fun _ _ _ h => h) (Or.inl ⟨by kernel_rfl, ?_⟩) (by assumption) ?_; rotate_left 1; (focus (intro w hSw; (try dsimp only at hSw); go_simp; first | done | with_reducible rfl)); simp only [Act.put, List.getElem_toArray, List.getElem_cons_succ, List.getElem_cons_zero, List.setIfInBounds_toArray, List.set_cons_succ, List.set_cons_zero])
              (refine wpAnyH_take (i := 4) (v := ?_) rfl (by kernel_rfl) (by kernel_rfl) (by kernel_rfl) (fun _ _ _ h => h) (Or.inl ⟨by kernel_rfl, ?_⟩) (by assumption) ?_; rotate_left 1; (focus (intro w hSw; (try dsimp only at hSw); go_simp; first | done | with_reducible rfl)); simp only [Act.put, List.getElem_toArray, List.getElem_cons_succ, List.getElem_cons_zero, List.setIfInBounds_toArray, List.set_cons_succ, List.set_cons_zero])
              (refine wpAnyH_take (i := 5) (v := ?_) rfl (by kernel_rfl) (by kernel_rfl) (by kernel_rfl) (fun _ _ _ h => h) (Or.inl ⟨by kernel_rfl, ?_⟩) (by assumption) ?_; rotate_left 1; (focus (intro w hSw; (try dsimp only at hSw); go_simp; first | done | with_reducible rfl)); simp only [Act.put, List.getElem_toArray, List.getElem_cons_succ, List.getElem_cons_zero, List.setIfInBounds_toArray, List.set_cons_succ, List.set_cons_zero])
              (refine wpAnyH_take (i := 6) (v := ?_) rfl (by kernel_rfl) (by kernel_rfl) (by kernel_rfl) (fun _ _ _ h => h) (Or.inl ⟨by kernel_rfl, ?_⟩) (by assumption) ?_; rotate_left 1; (focus (intro w hSw; (try dsimp only at hSw); go_simp; first | done | with_reducible rfl)); simp only [Act.put, List.getElem_toArray, List.getElem_cons_succ, List.getElem_cons_zero, List.setIfInBounds_toArray, List.set_cons_succ, List.set_cons_zero])
              exact wpAnyH_done (by kernel_rfl) ⟨rfl, hZ0⟩ _
            rintro U hU
            have hzU := hU.size
            have hXZ : X.heap.size ≤ Z1.heap.size := by omega
            have hG2 := hG1.belowB hU (by omega) (by omega) (by omega) (by omega)
            have hO2 := (hU.block _ (lt_of_block hO1)).trans hO1
            have hC2 := (hU.block _ hx0).trans hC1
            have hP2 := (hU.block _ hx1).trans hP1
            have hA2 := hA1.trans (Above.of_below hU)
            clear KZ hZ0 hmany hG1 hO1 hC1 hP1 hA1 hU
            generalize (pAt xp j == pAt xp t.ments.length) = eqb at hsu ⊢
            cases eqb
            · have hS := Lib.hid (hsu.out.trans (if_neg (by decide)))
              have HG2 := Lib.hid hG2
              have HO2 := Lib.hid hO2
              have HC2 := Lib.hid hC2
              have HP2 := Lib.hid hP2
              clear hsu hG2 hO2 hC2 hP2
              gi_wp2
              go_roundw
              case rel => exact ⟨j + 1, by omega, by go_num, HG2.out, by rw [hS.out]; exact HO2.out, HC2.out, HP2.out, hA2⟩
              case measure => simp [intOf]; omega
            · have hS := Lib.hid (hsu.out.trans (if_pos rfl))
              generalize wb ||| ej = we at *
              have s0 := blk_cell 0 hO2 rfl
              have sf := blk_free 0 hO2
              have sz := lt_of_block hO2
              simp only [List.getElem_toArray, List.getElem_cons_zero] at s0
              gi_upto_region 13 with (fail)
              apply wpIn_mid _ (fun U3 => U3 = U.drew.setCell ⟨G.heap.size, 0, none⟩ (.int .i64 ((we ||| 2 ^ j : Nat) : Int)))
              · refine wpIn_region_roundZ (fun U3 => U3.cell? ⟨G.heap.size, 0, none⟩ = some (.int .i64 (we : Int)) ∧ G.heap.size < U3.heap.size) 4 ?_ (by kernel_rfl) (noDefer_spec (by kernel_rfl)) ⟨s0, sz⟩ (fun hHeld => ?_)
                · intro h
                  obtain ⟨_, _, h⟩ := h
                  exact h
                (refine wpZ_take (i := 0) (v := ?_) rfl (by kernel_rfl) (by kernel_rfl) (by kernel_rfl) (by kernel_rfl) (fun _ _ _ h => h) (Or.inl ⟨by kernel_rfl, ?_⟩) (by assumption) ?_; rotate_left 1; (focus (intro w hSw; (try dsimp only at hSw); go_simp; first | done | with_reducible rfl)); simp only [Act.put, List.getElem_toArray, List.getElem_cons_succ, List.getElem_cons_zero, List.setIfInBounds_toArray, List.set_cons_succ, List.set_cons_zero])
                (refine wpZ_take (i := 1) (v := ?_) rfl (by kernel_rfl) (by kernel_rfl) (by kernel_rfl) (by kernel_rfl) (fun _ _ _ h => h) (Or.inl ⟨by kernel_rfl, ?_⟩) (by assumption) ?_; rotate_left 1; (focus (intro w hSw; (try dsimp only at hSw); go_simp; first | done | with_reducible rfl)); simp only [Act.put, List.getElem_toArray, List.getElem_cons_succ, List.getElem_cons_zero, List.setIfInBounds_toArray, List.set_cons_succ, List.set_cons_zero])
                (refine wpZ_take (i := 2) (v := ?_) rfl (by kernel_rfl) (by kernel_rfl) (by kernel_rfl) (by kernel_rfl) (fun _ _ _ h => h) (Or.inl ⟨by kernel_rfl, ?_⟩) (by assumption) ?_; rotate_left 1; (focus (intro w hSw; (try dsimp only at hSw); go_simp; first | done | with_reducible rfl)); simp only [Act.put, List.getElem_toArray, List.getElem_cons_succ, List.getElem_cons_zero, List.setIfInBounds_toArray, List.set_cons_succ, List.set_cons_zero])
                (refine wpZ_take (i := 3) (v := ?_) rfl (by kernel_rfl) (by kernel_rfl) (by kernel_rfl) (by kernel_rfl) (fun _ _ _ h => h) (Or.inl ⟨by kernel_rfl, ?_⟩) (by assumption) ?_; rotate_left 1; (focus (intro w hSw; (try dsimp only at hSw); go_simp; first | done | with_reducible rfl)); simp only [Act.put, List.getElem_toArray, List.getElem_cons_succ, List.getElem_cons_zero, List.setIfInBounds_toArray, List.set_cons_succ, List.set_cons_zero])
                refine wpZ_ready (rs := [4]) (by kernel_rfl) (by simp) (AllZ.cons rfl (fun K hK => ?_) AllZ.nil)
                (go_simp; refine hK.out _ _ (fun h => absurd rfl h) ?_; (try simp only [Act.put, List.getElem_toArray, List.getElem_cons_succ, List.getElem_cons_zero, List.setIfInBounds_toArray, List.set_cons_succ, List.set_cons_zero]); clear hK; refine wpZ_done (by kernel_rfl) ?_ _)
                exact ⟨rfl, rfl⟩
              rintro U3 hU3
              have hbU3 : Below G.heap.size U U3 := by rw [hU3]; exact (below_drew' (Below.refl G.heap.size U)).setCell (p := ⟨G.heap.size, 0, none⟩) (Nat.le_refl _) _
              have hE3 : ∀ b, b ≠ G.heap.size → U3.heap[b]? = U.heap[b]? := fun b hb => by rw [hU3]; exact setP_other hb
              have hO3 : U3.heap[G.heap.size]? = some (.cells #[.int .i64 ((we ||| 2 ^ j : Nat) : Int)] 3 (0, 0)) := by rw [hU3]; exact blk_set 0 _ hO2
              have hG3 : TwP G U3 bt' bc' bk' a1 a2 a' a4 k1 k2 c' k4 t' := by
                rw [hU3]
                exact (hG2.belowB (below_drew' (Below.refl U.heap.size U)) (by omega) (by omega) (by omega) (by omega)).set _ _ _ (Nat.le_refl _) (by omega) (by omega) (by omega)
              have hA3 : Above X.heap.size Wb U3 := hA2.trans ⟨hbU3.os, hbU3.tape, hbU3.output, hbU3.size, fun b q1 q2 => hE3 b (by omega)⟩
              have hC3 := (hE3 _ (by omega)).trans hC2
              have hP3 := (hE3 _ (by omega)).trans hP2
              have HG3 := Lib.hid hG3
              have HO3 := Lib.hid hO3
              have HC3 := Lib.hid hC3
              have HP3 := Lib.hid hP3
              clear hU3 hbU3 hE3 hO3 hG3 hC3 hP3 hG2 hO2 hC2 hP2 s0 sf sz hsu hor
              gi_wp2
              go_roundw
              case rel => exact ⟨j + 1, by omega, by go_num, HG3.out, by rw [hS.out]; exact HO3.out, HC3.out, HP3.out, hA3⟩
              case measure => simp [intOf]; omega
          · obtain rfl : j = t.ments.length := by omega
            have hlti : ¬ (t.ments.length : Int) < (t.ments.length : Int) := by omega
            have HG2 := Lib.hid hG1
            have HO2 := Lib.hid hO1
            have HC2 := Lib.hid hC1
            clear hG1 hO1 hC1 hP1
            gi_wp2
            exact ⟨by rw [← hsz]; exact hA1, HG2.out, by rw [HBS.out]; exact HO2.out, HC2.out⟩
      case done =>
        intro D V hD hI hK
        obtain ⟨hG1, hO1, hC1⟩ := hI
        have HEQ : Hid (whoN t ⟨xs, xv, xl, xh, xq⟩ = bitsList (whoBits t.ments.length (fairL t' 0)) t.ments.length) := Lib.hid (by unfold whoN; rw [HT'.out])
        have hbl : whoBits t.ments.length (fairL t' 0) < 2 ^ t.ments.length := eaBits_lt _ _
        have h32 := Nat.lt_of_lt_of_le hbl (show 2 ^ t.ments.length ≤ 2 ^ 5 from Nat.pow_le_pow_right (by omega) hnm)
        have hmany := (hG1.below.block _ (lt_of_block HG3'.out)).trans HG3'.out
        have hbV := HGB.out.trans (hG1.below.mono HGB.out.size)
        have NU := Lib.hid (PNumbersN_any (whoBits t.ments.length (fairL t' 0)) t.ments.length (by omega) (by omega) V)
        rw [← HEQ.out] at NU
        clear hbl h32
        generalize whoBits t.ments.length (fairL t' 0) = wb at *
        have s0 := blk_cell 0 hO1 rfl
        have s1 := blk_cell 0 hmany rfl
        have sz := lt_of_block hO1
        have sy := lt_of_block hmany
        simp only [List.getElem_toArray, List.getElem_cons_zero] at s0 s1
        clear hG1 hO1 hC1 hmany
        go_wp2_with (go_at_call 59; go_must ((with_reducible refine NU.out.mono ?_); rintro e w9 ⟨v9, rfl, hn9, hb9⟩; dsimp only))
        have hK9 := (hb9.block _ (lt_of_block hK)).trans hK
        refine ⟨by simp, .inl ⟨_, _, rfl, run_takeDeferred hK9, ?_⟩⟩
        refine ⟨_, results_tmp2 rfl _ _ _, .inr ⟨HNE.out, v9, rfl, ?_⟩, ?_⟩
        · exact hn9.keepV (keeps_putP hK9 _)
        · exact (hbV.trans (hb9.mono hbV.size)).trans (below_putP _ _ _ _ (by have := HGB.out.size; omega))
end Go.Proofs.YtklconegomgjaaaGreat
