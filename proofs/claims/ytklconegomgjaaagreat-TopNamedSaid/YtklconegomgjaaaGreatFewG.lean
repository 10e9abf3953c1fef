/- What is proved here: the contract of look of layer 1. Conditions: the book lies in memory and is valid. -/
/- What is proved here: the contract of fewest. Conditions: a function that answers as a plain one does, and turns one old block at most. -/
import Derived.Test.YtklconegomgjaaaGreatRoundG
import Derived.Test.YtklconegomgjaaaGreatRangeTG
import Derived.Test.YtklconegomgjaaaGreatEaFlawG
import Derived.Test.YtklconegomgjaaaGreatNum
import Derived.Test.YtklconegomgjaaaGreatCmpG
set_option linter.unusedVariables false
set_option linter.unusedSimpArgs false
namespace Go.Proofs.YtklconegomgjaaaGreat
open Go Go.RowKit Go.Shelf
attribute [local go_sem] Oper.semAt_some

/-- Marks of ranges over functions that have been gone through. -/
def markD (D : Nat) : Deferred := { target := .collected D, args := #[] }
def MarksAt (Ds : List Nat) (W : World) : Prop := Ds.Nodup ∧ ∀ D ∈ Ds, W.heap[D]? = some (.deferred (some []))
theorem MarksAt.same {Ds : List Nat} {W W' : World} (h : MarksAt Ds W) (hs : ∀ D ∈ Ds, W'.heap[D]? = W.heap[D]?) : MarksAt Ds W' := ⟨h.1, fun D hD => (hs D hD).trans (h.2 D hD)⟩
theorem MarksAt.lt {Ds : List Nat} {W : World} (h : MarksAt Ds W) : ∀ D ∈ Ds, D < W.heap.size := fun D hD => (Array.getElem?_eq_some_iff.1 (h.2 D hD)).1
theorem leaves_marks {P : Program} {F : Fence} {n : Nat} {fn : Func} {tmps : Array Value} {R : Ending → World → Prop} : ∀ (Ds : List Nat) (W : World), MarksAt Ds W →
    (∀ W' : World, W'.os = W.os → W'.tape = W.tape → W'.output = W.output → W'.heap.size = W.heap.size → (∀ b, b ∉ Ds → W'.heap[b]? = W.heap[b]?) → LeavesIn F n P fn tmps R [] .returning W') → LeavesInM F n P fn tmps R (Ds.map markD) .returning W
  | [], W, _, h => h W rfl rfl rfl rfl fun _ _ => rfl
  | D :: Ds, W, hm, h => by
    have hD := hm.2 D (by simp)
    obtain ⟨h1, h2⟩ := List.nodup_cons.1 hm.1
    refine ⟨by simp, .inl ⟨D, W.putObj D (.deferred none), rfl, run_takeDeferred hD, leaves_marks Ds _ ⟨h2, fun E hE => ?_⟩ fun W' g1 g2 g3 g4 g5 => ?_⟩⟩
    · rw [World.putObj_heap_other (fun e => h1 (by rw [← e]; exact hE))]
      exact hm.2 E (by simp [hE])
    · have hg := grownBy_putObj' W D (.deferred none)
      refine h W' (g1.trans hg.os) (g2.trans hg.tape) (g3.trans hg.output) (by rw [g4]; simp [World.putObj]) fun b hb => ?_
      have hb1 : b ≠ D := fun e => hb (by simp [e])
      have hb2 : b ∉ Ds := fun e => hb (by simp [e])
      rw [g5 b hb2, World.putObj_heap_other hb1]
theorem or_bitE : ∀ c : Nat, c < 32 → ∀ k : Nat, k < 5 → bits BinOp.or .i64 (c : Int) (IntKind.i64.wrap (2 ^ k)) = ((c ||| 2 ^ k : Nat) : Int) := by decide +kernel
/-- What holds while a spelling's sound strings are gone through. -/
structure LookI (a1 a2 : Option Addr) (k1 k2 : Nat) (b : EaB) (w : World) (ib p1 p3 k : Nat) (Ds : List Nat) (pre : List (List Int)) (W : World) : Prop where
  map : ∃ T, MapV W Tryz.prog 95 (w.heap.size + 1) T ∧ KnownM b k pre T
  blk : BkB W (w.heap.size + 1 + 1) (w.heap.size + 1) a1 a2 k1 k2 b
  pb : W.heap[w.heap.size + 1 + 1 + 1]? = some (.cells #[.pointer (some ⟨w.heap.size + 1 + 1, 0, none⟩)] 90 (0, 0))
  ic : W.heap[ib]? = some (.cells #[.int .i64 (k : Int)] 3 (0, 0))
  c1 : W.heap[p1]? = some (.cells #[.pointer (some ⟨w.heap.size + 1 + 1, 0, none⟩)] 90 (0, 0))
  c3 : W.heap[p3]? = some (.cells #[.int .i64 (k : Int)] 3 (0, 0))
  bel : Below (w.heap.size + 1) (w.alloc (.cells #[.int .i64 b.sounds, .slice a1 b.alphas.length k1, .slice a2 b.spells.length k2] 25)) W
  mks : MarksAt Ds W
/-- It stays while memory from B on turns, or the map alone does. -/
theorem LookI.below {a1 a2 : Option Addr} {k1 k2 : Nat} {b : EaB} {w : World} {ib p1 p3 k B : Nat} {Ds : List Nat} {pre : List (List Int)} {A A' : World} (h : LookI a1 a2 k1 k2 b w ib p1 p3 k Ds pre A) (hb : Below B A A') (h0 : w.heap.size + 1 + 1 + 1 < B) (h1 : ib < B) (h2 : p1 < B) (h3 : p3 < B) (h4 : ∀ D ∈ Ds, D < B) : LookI a1 a2 k1 k2 b w ib p1 p3 k Ds pre A' := by
  obtain ⟨T, m1, m2⟩ := h.map
  exact ⟨⟨T, m1.below hb (by omega), m2⟩, h.blk.same (hb.block _ (by omega)), (hb.block _ h0).trans h.pb, (hb.block _ h1).trans h.ic, (hb.block _ h2).trans h.c1, (hb.block _ h3).trans h.c3, h.bel.trans (hb.mono (by omega)), h.mks.same (fun D hD => hb.block _ (h4 D hD))⟩
theorem LookI.learn {a1 a2 : Option Addr} {k1 k2 : Nat} {b : EaB} {w : World} {ib p1 p3 k : Nat} {Ds : List Nat} {pre pre' : List (List Int)} {A A' : World} (h : LookI a1 a2 k1 k2 b w ib p1 p3 k Ds pre A) (hg : A.grownBy A' (some (w.heap.size + 1))) (hd : ∀ D ∈ Ds, w.heap.size + 1 + 1 + 1 < D) (hm : ∃ T, MapV A' Tryz.prog 95 (w.heap.size + 1) T ∧ KnownM b k pre' T) : LookI a1 a2 k1 k2 b w ib p1 p3 k Ds pre' A' := by
  obtain ⟨T, ⟨es, cl, hbk, _⟩, _⟩ := h.map
  have ne : ∀ {x : Nat} {cs : Array Value} {t : TypeId}, A.heap[x]? = some (.cells cs t (0, 0)) → A'.heap[x]? = some (.cells cs t (0, 0)) := fun {x cs t} hx => by
    refine (hg.block x (lt_of_block hx) (fun e => ?_)).trans hx
    have e := Option.some.inj e
    rw [e, hbk] at hx
    cases hx
  refine ⟨hm, ne h.blk, ne h.pb, ne h.ic, ne h.c1, ne h.c3, ?_, h.mks.same (fun D hD => hg.block D (h.mks.lt D hD) (fun e => ?_))⟩
  · exact h.bel.grown hg (by have := h.bel.size; simpa using this) (fun r e => by have := Option.some.inj e; omega)
  · have := Option.some.inj e
    have := hd D hD
    omega
set_option maxRecDepth 100000 in
set_option maxHeartbeats 4000000 in
theorem ELook_any (a1 a2 : Option Addr) (k1 k2 : Nat) (b : EaB) (w : World) (hm : BookC w a1 a2 k1 k2 b) (hv : EaValid b) :
    Calls Tryz.prog 85 #[(.agg #[.int .i64 b.sounds, .slice a1 b.alphas.length k1, .slice a2 b.spells.length k2])] w fun e w' => ∃ bm bo : Nat, e = .returned (.pointer (some ⟨bm, 0, none⟩)) ∧ BookW w' bm bo a1 a2 k1 k2 b ∧ Below w.heap.size w w' ∧ w.heap.size ≤ bm ∧ w.heap.size ≤ bo := by
  have l1 := hm.oka.len
  have l2 := hm.oks.len
  have hns := hv.ns
  have hmm := @run_makeMap Tryz.prog
  have hW0 := Below.refl (w.heap.size + 1) (w.alloc (.cells #[.int .i64 b.sounds, .slice a1 b.alphas.length k1, .slice a2 b.spells.length k2] 25))
  refine (callsIn_wide (n := 0)).1 ?_
  refine callsIn_of_wp_marks Tryz.func85 rfl trivial ?_ rfl
  simp only [Tryz.ntmps85, List.size_toArray, List.length_cons, List.length_nil, Nat.reduceAdd, Nat.reduceSub, Array.replicate_succ, Array.replicate_zero, List.push_toArray, List.append_toArray, List.nil_append, List.cons_append]
  refine (wpIn_wide (n := 0)).2 ?_
  go_upto_region 3 with (fail)
  obtain ⟨w0, hw0⟩ : ∃ w0 : World, w0 = (((w.alloc (.cells #[.int .i64 b.sounds, .slice a1 b.alphas.length k1, .slice a2 b.spells.length k2] 25)).alloc (.map #[] 0)).alloc (.cells #[.int .i64 b.sounds, .slice a1 b.alphas.length k1, .slice a2 b.spells.length k2, .map (some (w.heap.size + 1))] 144)).alloc (.cells #[.pointer (some ⟨w.heap.size + 1 + 1, 0, none⟩)] 90) := ⟨_, rfl⟩
  rw [← hw0]
  have hM0 : MapV w0 Tryz.prog 95 (w.heap.size + 1) [] := by
    have := MapV.made (w.alloc (.cells #[.int .i64 b.sounds, .slice a1 b.alphas.length k1, .slice a2 b.spells.length k2] 25)) Tryz.prog 95
    rw [hw0]
    refine MapV.same (by simpa using this) ?_
    exact (heap_alloc_old _ _ (by simp)).trans (heap_alloc_old _ _ (by simp))
  have hB0 : BkB w0 (w.heap.size + 1 + 1) (w.heap.size + 1) a1 a2 k1 k2 b := by rw [hw0]; exact (heap_alloc_old _ _ (by simp)).trans (alloc_atE _ _ (by simp))
  have hP0 : w0.heap[w.heap.size + 1 + 1 + 1]? = some (.cells #[.pointer (some ⟨w.heap.size + 1 + 1, 0, none⟩)] 90 (0, 0)) := by rw [hw0]; exact alloc_atE _ _ (by simp)
  have hb0 : Below (w.heap.size + 1) (w.alloc (.cells #[.int .i64 b.sounds, .slice a1 b.alphas.length k1, .slice a2 b.spells.length k2] 25)) w0 := by rw [hw0]; exact (((Below.refl _ _).alloc (by simp) _).alloc (by simp) _).alloc (by simp) _
  clear hw0
  refine wp_loop (fun a V => ∃ (k : Nat) (Ds : List Nat) (T : List (Value × Value)) (u4 u5 u14 u15 u16 u17 u18 u19 u20 u21 u22 u23 u24 u25 u26 u27 u28 u29 u30 u31 u32 : Value), a = { tmps := #[(.agg #[.int .i64 b.sounds, .slice a1 b.alphas.length k1, .slice a2 b.spells.length k2]), .pointer (some ⟨w.heap.size, 0, none⟩), .pointer none, .pointer (some ⟨w.heap.size + 1 + 1 + 1, 0, none⟩), u4, u5, (.agg #[.int .i64 b.sounds, .slice a1 b.alphas.length k1, .slice a2 b.spells.length k2]), .map (some (w.heap.size + 1)), .agg #[.int .i64 b.sounds, .slice a1 b.alphas.length k1, .slice a2 b.spells.length k2, .map (some (w.heap.size + 1))], .pointer (some ⟨w.heap.size + 1 + 1, 0, none⟩), .pointer (some ⟨w.heap.size, 2, none⟩), .slice a2 b.spells.length k2, .int .i64 (b.spells.length : Int), .int .i64 (k : Int), u14, u15, u16, u17, u18, u19, u20, u21, u22, u23, u24, u25, u26, u27, u28, u29, u30, u31, u32], defers := Ds.map markD } ∧ k ≤ b.spells.length ∧ MapV V Tryz.prog 95 (w.heap.size + 1) T ∧ KnownM b k [] T ∧ BkB V (w.heap.size + 1 + 1) (w.heap.size + 1) a1 a2 k1 k2 b ∧
      V.heap[w.heap.size + 1 + 1 + 1]? = some (.cells #[.pointer (some ⟨w.heap.size + 1 + 1, 0, none⟩)] 90 (0, 0)) ∧ Below (w.heap.size + 1) (w.alloc (.cells #[.int .i64 b.sounds, .slice a1 b.alphas.length k1, .slice a2 b.spells.length k2] 25)) V ∧ MarksAt Ds V ∧ ∀ D ∈ Ds, w.heap.size + 1 + 1 + 1 < D)
    (fun a _ => b.spells.length - (intOf (a.tmps.getD 13 undef)).toNat) ?start ?round
  case start => exact ⟨0, [], [], _, _, _, _, _, _, _, _, _, _, _, _, _, _, _, _, _, _, _, _, _, rfl, Nat.zero_le _, hM0, known_nil b, hB0, hP0, hb0, ⟨List.nodup_nil, fun D h => by cases h⟩, fun D h => by cases h⟩
  case round =>
    clear hM0 hB0 hP0 hb0
    rintro a V ⟨k, Ds, T, u4, u5, u14, u15, u16, u17, u18, u19, u20, u21, u22, u23, u24, u25, u26, u27, u28, u29, u30, u31, u32, rfl, hk, hM, hK, hB, hP, hb, hMk, hlo⟩
    have hbm := hB.cells.2.2.2.2
    have p0 := blk_cell 0 hP rfl
    simp only [List.getElem_toArray, List.getElem_cons_zero] at p0
    have hpz := lt_of_block hP
    by_cases hlt : k < b.spells.length
    · have hltI : (k : Int) < (b.spells.length : Int) := by omega
      go_upto_region 5 with (fail)
      obtain ⟨X, hX⟩ : ∃ X : World, X = V.alloc (.cells #[.int .i64 (k : Int)] 3) := ⟨_, rfl⟩
      rw [← hX]
      have hbX : Below V.heap.size V X := by rw [hX]; exact (Below.refl _ _).alloc (Nat.le_refl _) _
      have hiX : X.heap[V.heap.size]? = some (.cells #[.int .i64 (k : Int)] 3 (0, 0)) := by rw [hX]; exact alloc_atE _ _ rfl
      clear hX
      have i0 := blk_cell 0 hiX rfl
      have iz := lt_of_block hiX
      simp only [List.getElem_toArray, List.getElem_cons_zero] at i0
      replace p0 := cell_below hbX p0
      replace hpz := Nat.lt_of_lt_of_le hpz hbX.size
      have SC := Lib.hid (EStrings_any (w.heap.size + 1 + 1) k X)
      go_wp2_with (go_at_call 135; go_must ((with_reducible refine SC.out.mono ?_); rintro e w3 ⟨rfl, rfl⟩; dsimp only))
      obtain ⟨Y, hY⟩ : ∃ Y : World, Y = (X.alloc (.cells #[.pointer (some ⟨w.heap.size + 1 + 1, 0, none⟩)] 90)).alloc (.cells #[.int .i64 (k : Int)] 3) := ⟨_, rfl⟩
      rw [← hY]
      have hXY : Below X.heap.size X Y := by rw [hY]; exact ((Below.refl _ _).alloc (Nat.le_refl _) _).alloc (by simp) _
      have hq1 : Y.heap[X.heap.size]? = some (.cells #[.pointer (some ⟨w.heap.size + 1 + 1, 0, none⟩)] 90 (0, 0)) := by rw [hY]; exact (heap_alloc_old _ _ (by simp)).trans (alloc_atE _ _ rfl)
      have hq3 : Y.heap[X.heap.size + 1]? = some (.cells #[.int .i64 (k : Int)] 3 (0, 0)) := by rw [hY]; exact alloc_atE _ _ (by simp)
      clear hY
      have hVY : Below V.heap.size V Y := hbX.trans (hXY.mono hbX.size)
      have hzY := hVY.size
      have hiY := (hXY.block _ iz).trans hiX
      have hMY := hM.below hVY hM.lt
      have hBY := hB.same (hVY.block _ hbm)
      have hPY := (hVY.block _ (lt_of_block hP)).trans hP
      have hbY : Below (w.heap.size + 1) (w.alloc (.cells #[.int .i64 b.sounds, .slice a1 b.alphas.length k1, .slice a2 b.spells.length k2] 25)) Y := hb.trans (hVY.mono (by omega))
      have hMkY := hMk.same (fun D hD => hVY.block _ (hMk.lt D hD))
      have hlt' : ∀ D ∈ Ds, D < Y.heap.size := hMkY.lt
      clear hbX hiX iz i0 p0 hpz hXY hM hB hP hb hMk
      refine (wpIn_wide (n := 0)).1 ?_
      refine wpIn_rangeFunc_T (gf := 170) (lb := #[.pointer (some ⟨X.heap.size, 0, none⟩), .pointer (some ⟨X.heap.size + 1, 0, none⟩)]) rfl (enters_of Tryz.func170 (by kernel_rfl) rfl)
        (EStr_seq a1 a2 k1 k2 b (w.heap.size + 1 + 1) (w.heap.size + 1) X.heap.size (X.heap.size + 1) k Y hv hlt) (Below.refl _ _) (Nat.le_refl _) (fun _ => rfl)
        (fun pre W => LookI a1 a2 k1 k2 b w V.heap.size X.heap.size (X.heap.size + 1) k Ds pre W)
        ?closed ?reads ⟨⟨T, hMY, hK⟩, hBY, hPY, hiY, hq1, hq3, hbY, hMkY⟩ ?round ?done
      case closed => exact fun s A A' h hb => h.below hb (lt_of_block hPY) (lt_of_block hiY) (lt_of_block hq1) (lt_of_block hq3) hlt'
      case reads => exact fun s A h => ⟨h.blk, hm.mono (box_old h.bel), h.c1, h.c3⟩
      case round =>
        intro l pre x W hl1 hl2 hI hpre
        have hxs : x ∈ strsN b k := by obtain ⟨r, hr⟩ := hpre; rw [← hr]; simp
        have hps : ∀ y ∈ pre, y ∈ strsN b k := fun y hy => by obtain ⟨r, hr⟩ := hpre; rw [← hr]; simp [hy]
        have hxo := strs_ok hv hlt hxs
        gi_wp2
        obtain ⟨U, hU⟩ : ∃ U : World, U = W.alloc (.cells (heardCells x) 95) := ⟨_, rfl⟩
        have hbU : Below W.heap.size W U := by rw [hU]; exact (Below.refl _ _).alloc (Nat.le_refl _) _
        have hxU : U.heap[W.heap.size]? = some (.cells (heardCells x) 95 (0, 0)) := by rw [hU]; exact alloc_atE _ _ rfl
        rw [← hU]
        clear hU
        have hIU := hI.below (hbU.mono (by omega : Y.heap.size ≤ W.heap.size)) (lt_of_block hPY) (lt_of_block hiY) (lt_of_block hq1) (lt_of_block hq3) hlt'
        refine ⟨Above.of_below hbU, hIU, ?_⟩
        intro Wb hsz hblk hIb
        have hxb : Wb.heap[W.heap.size]? = some (.cells (heardCells x) 95 (0, 0)) := (hblk _ (by omega)).trans hxU
        clear hsz hblk hIU hI hbU hxU
        obtain ⟨T', hM, hKM⟩ := hIb.map
        obtain ⟨v0, hv0, HLK, HEN⟩ := known_ops hv hlt hxs hps hKM (w.heap.size + 1)
        have hk5 : (k : Int) < 64 := by omega
        have HO := or_bitE v0 hv0 k (by omega)
        have p0 := blk_cell 0 hIb.pb rfl
        have i0 := blk_cell 0 hIb.ic rfl
        have c3 := hIb.blk.cells.2.2.2.1
        have d0 := blk_cell 0 hxb rfl
        have d1 := blk_cell 1 hxb rfl
        have d2 := blk_cell 2 hxb rfl
        have d3 := blk_cell 3 hxb rfl
        have d4 := blk_cell 4 hxb rfl
        have d5 := blk_cell 5 hxb rfl
        simp only [heardCells, List.getElem_toArray, List.getElem_cons_zero, List.getElem_cons_succ] at p0 i0 d0 d1 d2 d3 d4 d5
        have hYW : Y.heap.size < W.heap.size := by omega
        have hVY' : V.heap.size < Y.heap.size := lt_of_block hiY
        have KE : Hid (∀ U, Wb.grownBy U (some (w.heap.size + 1)) → (fun U => Wb.grownBy U (some (w.heap.size + 1)) ∧ U.cell? ⟨w.heap.size + 1 + 1 + 1, 0, none⟩ = some (.pointer (some ⟨w.heap.size + 1 + 1, 0, none⟩)) ∧ U.cell? ⟨w.heap.size + 1 + 1, 3, none⟩ = some (.map (some (w.heap.size + 1))) ∧ U.cell? ⟨V.heap.size, 0, none⟩ = some (.int .i64 (k : Int)) ∧ U.cell? ⟨W.heap.size, 0, none⟩ = some (.int .i64 (x.length : Int)) ∧ U.cell? ⟨W.heap.size, 1, none⟩ = some (.int .i64 (hrd x 0)) ∧ U.cell? ⟨W.heap.size, 2, none⟩ = some (.int .i64 (hrd x 1)) ∧ U.cell? ⟨W.heap.size, 3, none⟩ = some (.int .i64 (hrd x 2)) ∧ U.cell? ⟨W.heap.size, 4, none⟩ = some (.int .i64 (hrd x 3)) ∧ U.cell? ⟨W.heap.size, 5, none⟩ = some (.int .i64 (hrd x 4))) U) := Lib.hid (fun U hg => ⟨hg, hg.cell p0 (by simp <;> omega), hg.cell c3 (by simp <;> omega), hg.cell i0 (by simp <;> omega), hg.cell d0 (by simp <;> omega), hg.cell d1 (by simp <;> omega), hg.cell d2 (by simp <;> omega), hg.cell d3 (by simp <;> omega), hg.cell d4 (by simp <;> omega), hg.cell d5 (by simp <;> omega)⟩)
        have hg0 : Wb.grownBy Wb.drew (some (w.heap.size + 1)) := ⟨rfl, rfl, rfl, Nat.le_refl _, fun _ _ _ => rfl⟩
        replace HLK := Lib.hid HLK
        replace HEN := Lib.hid HEN
        have HIB := Lib.hid hIb
        have HMb := Lib.hid hM
        clear hIb hM hKM p0 i0 c3 d0 d1 d2 d3 d4 d5
        gi_wp2
        refine wpIn_region_round (fun U => Wb.grownBy U (some (w.heap.size + 1)) ∧ U.cell? ⟨w.heap.size + 1 + 1 + 1, 0, none⟩ = some (.pointer (some ⟨w.heap.size + 1 + 1, 0, none⟩)) ∧ U.cell? ⟨w.heap.size + 1 + 1, 3, none⟩ = some (.map (some (w.heap.size + 1))) ∧ U.cell? ⟨V.heap.size, 0, none⟩ = some (.int .i64 (k : Int)) ∧ U.cell? ⟨W.heap.size, 0, none⟩ = some (.int .i64 (x.length : Int)) ∧ U.cell? ⟨W.heap.size, 1, none⟩ = some (.int .i64 (hrd x 0)) ∧ U.cell? ⟨W.heap.size, 2, none⟩ = some (.int .i64 (hrd x 1)) ∧ U.cell? ⟨W.heap.size, 3, none⟩ = some (.int .i64 (hrd x 2)) ∧ U.cell? ⟨W.heap.size, 4, none⟩ = some (.int .i64 (hrd x 3)) ∧ U.cell? ⟨W.heap.size, 5, none⟩ = some (.int .i64 (hrd x 4))) ?_ (by kernel_rfl) (noDefer_spec (by kernel_rfl)) (KE.out _ hg0) (fun hHeld => ?_)
        · intro h
          obtain ⟨_, _, h⟩ := h
          exact h
        (refine wpAnyH_take (i := 0) (v := ?_) rfl (by kernel_rfl) (by kernel_rfl) (by kernel_rfl) (fun _ _ _ h => h) (Or.inl ⟨by kernel_rfl, ?_⟩) (by assumption) ?_; rotate_left 1; (focus (intro w hSw; (try dsimp only at hSw); go_simp; first | done | with_reducible rfl)); simp only [Act.put, List.getElem_toArray, List.getElem_cons_succ, List.getElem_cons_zero, List.setIfInBounds_toArray, List.set_cons_succ, List.set_cons_zero])
        (refine wpAnyH_take (i := 1) (v := ?_) rfl (by kernel_rfl) (by kernel_rfl) (by kernel_rfl) (fun _ _ _ h => h) (Or.inl ⟨by kernel_rfl, ?_⟩) (by assumption) ?_; rotate_left 1; (focus (intro w hSw; (try dsimp only at hSw); go_simp; first | done | with_reducible rfl)); simp only [Act.put, List.getElem_toArray, List.getElem_cons_succ, List.getElem_cons_zero, List.setIfInBounds_toArray, List.set_cons_succ, List.set_cons_zero])
        (refine wpAnyH_take (i := 2) (v := ?_) rfl (by kernel_rfl) (by kernel_rfl) (by kernel_rfl) (fun _ _ _ h => h) (Or.inl ⟨by kernel_rfl, ?_⟩) (by assumption) ?_; rotate_left 1; (focus (intro w hSw; (try dsimp only at hSw); go_simp; first | done | with_reducible rfl)); simp only [Act.put, List.getElem_toArray, List.getElem_cons_succ, List.getElem_cons_zero, List.setIfInBounds_toArray, List.set_cons_succ, List.set_cons_zero])
        (refine wpAnyH_take (i := 3) (v := ?_) rfl (by kernel_rfl) (by kernel_rfl) (by kernel_rfl) (fun _ _ _ h => h) (Or.inl ⟨by kernel_rfl, ?_⟩) (by assumption) ?_; rotate_left 1; (focus (intro w hSw; (try dsimp only at hSw); go_simp; first | done | with_reducible rfl)); simp only [Act.put, List.getElem_toArray, List.getElem_cons_succ, List.getElem_cons_zero, List.setIfInBounds_toArray, List.set_cons_succ, List.set_cons_zero])
        (refine wpAnyH_take (i := 4) (v := ?_) rfl (by kernel_rfl) (by kernel_rfl) (by kernel_rfl) (fun _ _ _ h => h) (Or.inl ⟨by kernel_rfl, ?_⟩) (by assumption) ?_; rotate_left 1; (focus (intro w hSw; (try dsimp only at hSw); go_simp; first | done | with_reducible rfl)); simp only [Act.put, List.getElem_toArray, List.getElem_cons_succ, List.getElem_cons_zero, List.setIfInBounds_toArray, List.set_cons_succ, List.set_cons_zero])
        (refine wpAnyH_take (i := 6) (v := ?_) rfl (by kernel_rfl) (by kernel_rfl) (by kernel_rfl) (fun _ _ _ h => h) (Or.inl ⟨by kernel_rfl, ?_⟩) (by assumption) ?_; rotate_left 1; (focus (intro w hSw; (try dsimp only at hSw); go_simp; first | done | with_reducible rfl)); simp only [Act.put, List.getElem_toArray, List.getElem_cons_succ, List.getElem_cons_zero, List.setIfInBounds_toArray, List.set_cons_succ, List.set_cons_zero])
        (refine wpAnyH_take (i := 7) (v := ?_) rfl (by kernel_rfl) (by kernel_rfl) (by kernel_rfl) (fun _ _ _ h => h) (Or.inl ⟨by kernel_rfl, ?_⟩) (by assumption) ?_; rotate_left 1; (focus (intro w hSw; (try dsimp only at hSw); go_simp; first | done | with_reducible rfl)); simp only [Act.put, List.getElem_toArray, List.getElem_cons_succ, List.getElem_cons_zero, List.setIfInBounds_toArray, List.set_cons_succ, List.set_cons_zero])
        have hMd : MapV Wb.drew Tryz.prog 95 (w.heap.size + 1) T' := HMb.out.same rfl
        (refine wpAnyH_ready (rs := [5, 9]) (by kernel_rfl) (by simp) ?_; refine AllReadyH.cons rfl (fun K hK => ?_) (AllReadyH.cons rfl (fun K hK => ?_) AllReadyH.nil))
        · have hlk := HLK.out _ hMd
          unfold lookE at hlk
          go_simp
          refine hK.out _ _ (KE.out _ hg0) (fun hHeld => ?_)
          (try simp only [Act.put, List.getElem_toArray, List.getElem_cons_succ, List.getElem_cons_zero, List.setIfInBounds_toArray, List.set_cons_succ, List.set_cons_zero])
          clear hK hlk
          (refine wpAnyH_take (i := 8) (v := ?_) rfl (by kernel_rfl) (by kernel_rfl) (by kernel_rfl) (fun _ _ _ h => h) (Or.inl ⟨by kernel_rfl, ?_⟩) (by assumption) ?_; rotate_left 1; (focus (intro w hSw; (try dsimp only at hSw); go_simp; first | done | with_reducible rfl)); simp only [Act.put, List.getElem_toArray, List.getElem_cons_succ, List.getElem_cons_zero, List.setIfInBounds_toArray, List.set_cons_succ, List.set_cons_zero])
          obtain ⟨T1, st, V1, e1, e2, e3, e4, e5, e6⟩ := HEN.out _ hMd
          (refine wpAnyH_ready (rs := [9]) (by kernel_rfl) (by simp) ?_; refine AllReadyH.cons rfl (fun K hK => ?_) AllReadyH.nil; go_simp)
          have hg1 := hg0.andThen e3 (fun j e => .inr (by simpa using e))
          refine hK.out _ _ (KE.out _ hg1) (fun hHeld => ?_)
          (try simp only [Act.put, List.getElem_toArray, List.getElem_cons_succ, List.getElem_cons_zero, List.setIfInBounds_toArray, List.set_cons_succ, List.set_cons_zero])
          clear hK e1
          (refine wpAnyH_take (i := 10) (v := ?_) rfl (by kernel_rfl) (by kernel_rfl) (by kernel_rfl) (fun _ _ _ h => h) (Or.inl ⟨by kernel_rfl, ?_⟩) (by assumption) ?_; rotate_left 1; (focus (intro w hSw; (try dsimp only at hSw); go_simp; first | done | with_reducible rfl)); simp only [Act.put, List.getElem_toArray, List.getElem_cons_succ, List.getElem_cons_zero, List.setIfInBounds_toArray, List.set_cons_succ, List.set_cons_zero])
          obtain ⟨U1, f1, ⟨T2, f2, f3⟩, f4, f5⟩ := e6 V1 rfl
          (refine wpAnyH_ready (rs := [11]) (by kernel_rfl) (by simp) ?_; refine AllReadyH.cons rfl (fun K hK => ?_) AllReadyH.nil; go_simp)
          have hg2 := hg1.andThen f4 (fun j e => .inr (by simpa using e))
          refine hK.out _ _ (KE.out _ hg2) (fun hHeld => ?_)
          (try simp only [Act.put, List.getElem_toArray, List.getElem_cons_succ, List.getElem_cons_zero, List.setIfInBounds_toArray, List.set_cons_succ, List.set_cons_zero])
          exact wpAnyH_done (by kernel_rfl) ⟨Above.of_grown hg2 (fun r e => by have := Option.some.inj e; omega), HIB.out.learn hg2 hlo ⟨T2, f2, f3⟩⟩ _
        · obtain ⟨T1, st, V1, e1, e2, e3, e4, e5, e6⟩ := HEN.out _ hMd
          go_simp
          have hg1 := hg0.andThen e3 (fun j e => .inr (by simpa using e))
          refine hK.out _ _ (KE.out _ hg1) (fun hHeld => ?_)
          (try simp only [Act.put, List.getElem_toArray, List.getElem_cons_succ, List.getElem_cons_zero, List.setIfInBounds_toArray, List.set_cons_succ, List.set_cons_zero])
          clear hK e1
          (refine wpAnyH_take (i := 10) (v := ?_) rfl (by kernel_rfl) (by kernel_rfl) (by kernel_rfl) (fun _ _ _ h => h) (Or.inl ⟨by kernel_rfl, ?_⟩) (by assumption) ?_; rotate_left 1; (focus (intro w hSw; (try dsimp only at hSw); go_simp; first | done | with_reducible rfl)); simp only [Act.put, List.getElem_toArray, List.getElem_cons_succ, List.getElem_cons_zero, List.setIfInBounds_toArray, List.set_cons_succ, List.set_cons_zero])
          have hlk := e5 V1 e2
          unfold lookE at hlk
          (refine wpAnyH_ready (rs := [5]) (by kernel_rfl) (by simp) ?_; refine AllReadyH.cons rfl (fun K hK => ?_) AllReadyH.nil; go_simp)
          refine hK.out _ _ (KE.out _ hg1) (fun hHeld => ?_)
          (try simp only [Act.put, List.getElem_toArray, List.getElem_cons_succ, List.getElem_cons_zero, List.setIfInBounds_toArray, List.set_cons_succ, List.set_cons_zero])
          clear hK hlk
          (refine wpAnyH_take (i := 8) (v := ?_) rfl (by kernel_rfl) (by kernel_rfl) (by kernel_rfl) (fun _ _ _ h => h) (Or.inl ⟨by kernel_rfl, ?_⟩) (by assumption) ?_; rotate_left 1; (focus (intro w hSw; (try dsimp only at hSw); go_simp; first | done | with_reducible rfl)); simp only [Act.put, List.getElem_toArray, List.getElem_cons_succ, List.getElem_cons_zero, List.setIfInBounds_toArray, List.set_cons_succ, List.set_cons_zero])
          obtain ⟨U1, f1, ⟨T2, f2, f3⟩, f4, f5⟩ := e6 V1 rfl
          (refine wpAnyH_ready (rs := [11]) (by kernel_rfl) (by simp) ?_; refine AllReadyH.cons rfl (fun K hK => ?_) AllReadyH.nil; go_simp)
          have hg2 := hg1.andThen f4 (fun j e => .inr (by simpa using e))
          refine hK.out _ _ (KE.out _ hg2) (fun hHeld => ?_)
          (try simp only [Act.put, List.getElem_toArray, List.getElem_cons_succ, List.getElem_cons_zero, List.setIfInBounds_toArray, List.set_cons_succ, List.set_cons_zero])
          exact wpAnyH_done (by kernel_rfl) ⟨Above.of_grown hg2 (fun r e => by have := Option.some.inj e; omega), HIB.out.learn hg2 hlo ⟨T2, f2, f3⟩⟩ _
      case done =>
        intro D W hD hI hK2
        obtain ⟨T2, m1, m2⟩ := hI.map
        have hw1 : IntKind.i64.wrap ((k : Int) + 1) = (k : Int) + 1 := IntWalk.i64_in _ (by omega)
        have hDY : Y.heap.size ≤ D := hD
        go_wp2
        refine ⟨⟨k + 1, D :: Ds, T2, _, _, _, _, _, _, _, _, _, _, _, _, _, _, _, _, _, _, _, _, _, rfl, by omega, m1, known_next m2, hI.blk, hI.pb, hI.bel, ⟨List.nodup_cons.2 ⟨fun h => by have := hlt' D h; omega, hI.mks.1⟩, fun E hE => ?_⟩, fun E hE => ?_⟩, ?_⟩
        · rcases List.mem_cons.1 hE with rfl | h
          · exact hK2
          · exact hI.mks.2 E h
        · rcases List.mem_cons.1 hE with rfl | h
          · have := lt_of_block hPY; omega
          · exact hlo E h
        · show b.spells.length - (intOf (.int .i64 _)).toNat < b.spells.length - (intOf (.int .i64 _)).toNat
          simp [intOf]
          omega
    · obtain rfl : k = b.spells.length := by omega
      go_wp2
      refine leaves_marks Ds V hMk fun W' g1 g2 g3 g4 g5 => ?_
      have hVW : Below (w.heap.size + 1 + 1 + 1 + 1) V W' := ⟨g1, g2, g3, by omega, fun i hi => g5 i (fun h => by have := hlo i h; omega)⟩
      have hwV := box_old hb
      have hwW : Below w.heap.size w W' := hwV.trans (hVW.mono (by omega))
      exact ⟨_, results_tmp rfl _ _ _, w.heap.size + 1 + 1, w.heap.size + 1, rfl, ⟨hm.mono hwW, hB.same (hVW.block _ (by omega)), T, hM.below hVW (by omega), known_all hK⟩, hwW, by omega, by omega⟩
end Go.Proofs.YtklconegomgjaaaGreat
namespace Go.Proofs.YtklconegomgjaaaGreat
open Go Go.RowKit

theorem two_pow_wrap : ∀ n : Nat, n ≤ 6 → wrap64 (2 ^ n) = ((2 ^ n : Nat) : Int) := by decide +kernel
theorem two_pow_le : ∀ n : Nat, n ≤ 6 → 2 ^ n ≤ 64 := by decide +kernel

set_option maxRecDepth 100000 in
set_option maxHeartbeats 800000 in
theorem MFewestG_any (n F : Nat) (hn : n ≤ 6) (caps : Array Value) (so : Nat → Bool) (w : World) (row : Option Nat) (hrow : ∀ r, row = some r → r < w.heap.size) (I : World → Prop) (hI : ∀ A A', I A → Below A.heap.size A A' → I A') (h0 : I w)
    (hCF : ∀ (xs : Array Value) (W : World), (callFunc F xs).run Tryz.prog W = .ok (.enter F xs) W) (hF : ∀ (s : Nat) (W : World), s < 2 ^ n → w.heap.size ≤ W.heap.size → I W → Calls Tryz.prog F (#[.int .i64 (s : Int)] ++ caps) W fun e W' => e = .returned (.bool (so s)) ∧ W.grownBy W' row ∧ I W') :
    Calls Tryz.prog 105 #[.int .i64 (n : Int), .func (.func F) #[] caps] w fun e w' => ∃ v best found, e = .returned (.tuple #[v, .bool found]) ∧ IntsN w.heap.size w' v best ∧ Hid (Found n so (2 ^ n) best found) ∧ w.grownBy w' row ∧ I w' := by
  have hp := two_pow_wrap n hn
  have hp64 := two_pow_le n hn
  have NU := Lib.hid (fun (s : Nat) (hs : s < 64) (W : World) => MNumbersN_any s n hs hn W)
  generalize hNN : 2 ^ n = N at hp hp64 hF ⊢
  replace hF := Lib.hid hF
  replace hI := Lib.hid hI
  replace hrow := Lib.hid hrow
  clear hNN
  go_enter Tryz.func105, Tryz.ntmps105
  go_wp2
  rw [hp]
  clear hp
  go_loopw [4, 5, 10] (fun v f i wr => ∃ (k : Nat) (best : List Int) (found : Bool), k ≤ N ∧ i = .int .i64 k ∧ f = .bool found ∧ IntsN w.heap.size wr v best ∧ Hid (Found n so k best found) ∧ w.grownBy wr row ∧ I wr) (fun _ _ i _ => N - (intOf i).toNat)
  case atStart => exact ⟨0, [], false, Nat.zero_le _, rfl, rfl, ⟨none, 0, rfl, ⟨by simp, by omega, fun _ => rfl⟩, IntsC.nil _ _, fun _ h => by cases h⟩, Lib.hid (found_zero n so), World.grownBy.refl _ _, h0⟩
  case round =>
    obtain ⟨k, best, found, hk, rfl, rfl, ⟨ab, cb, rfl, hsb, hib, hlb0⟩, HFO, hG, hJ⟩ := hrel
    have hbl := hsb.len
    by_cases hlt : k < N
    · have HK1 := Lib.hid (fun (e : found = true) (h : fewer best (bitsList k n) = true) => (found_skip (e ▸ HFO.out) (.inr h) : Found n so (k + 1) best true))
      have HK2 := Lib.hid (fun (h : so k = false) => found_no HFO.out h)
      have HK3 := Lib.hid (fun (h : so k = true) (hf : found = true → fewer best (bitsList k n) = false) => found_yes HFO.out h hf)
      replace NU := fun W => NU.out k (by omega) W
      have C := fun W h h2 => hF.out k W hlt h h2
      generalize bitsList k n = l at HK1 HK3 NU
      generalize so k = sk at HK2 HK3 C
      replace NU := Lib.hid NU
      replace C := Lib.hid C
      have hkN : (k : Int) < 64 := by omega
      cases found
      · replace HK3 := Lib.hid (fun h => HK3.out h (fun e => by cases e))
        cases sk
        · go_wp2_with (first | (go_at_call 62; go_must (refine (NU.out _).mono ?_; rintro e w2 ⟨v2, rfl, ⟨a2, c2, rfl, ho2, hi2, hn2⟩, hb2⟩; dsimp only)) | ((with_reducible refine (C.out _ (Nat.le_trans hG.size hb2.size) (hI.out _ _ hJ hb2)).mono ?_); rintro e w3 ⟨rfl, hg3, hJ3⟩; dsimp only))
          (go_roundw; case rel => exact ⟨k + 1, best, _, by omega, by go_num, rfl, IntsN.grown (IntsN.mono ⟨ab, cb, rfl, hsb, hib, hlb0⟩ hb2) hg3 hrow.out, Lib.hid (HK2.out rfl), (hG.trans (grown_of row hb2)).trans hg3, hJ3⟩)
          (case measure => simp [intOf]; omega)
        · replace HK3 := Lib.hid (HK3.out rfl)
          go_wp2_with (first | (go_at_call 62; go_must (refine (NU.out _).mono ?_; rintro e w2 ⟨v2, rfl, ⟨a2, c2, rfl, ho2, hi2, hn2⟩, hb2⟩; dsimp only)) | ((with_reducible refine (C.out _ (Nat.le_trans hG.size hb2.size) (hI.out _ _ hJ hb2)).mono ?_); rintro e w3 ⟨rfl, hg3, hJ3⟩; dsimp only))
          (go_roundw; case rel => exact ⟨k + 1, l, true, by omega, by go_num, rfl, IntsN.grown ⟨a2, c2, rfl, ho2, hi2, fun ad e => Nat.le_trans hG.size (hn2 ad e)⟩ hg3 hrow.out, Lib.hid HK3.out, (hG.trans (grown_of row hb2)).trans hg3, hJ3⟩)
          (case measure => simp [intOf]; omega)
      · by_cases h1 : best.length < l.length
        · have hK := Lib.hid (HK1.out rfl (by unfold fewer; rw [if_neg (by omega)]; simpa using h1))
          go_wp2_with (go_at_call 62; go_must (refine (NU.out _).mono ?_; rintro e w2 ⟨v2, rfl, ⟨a2, c2, rfl, ho2, hi2, hn2⟩, hb2⟩; dsimp only))
          go_roundw
          case rel => exact ⟨k + 1, best, true, by omega, by go_num, rfl, IntsN.mono ⟨ab, cb, rfl, hsb, hib, hlb0⟩ hb2, hK, hG.trans (grown_of row hb2), hI.out _ _ hJ hb2⟩
          (case measure => simp [intOf]; omega)
        · by_cases h2 : l.length = best.length
          · have g2 := eqn_t h2
            have hle := Lib.hid h2
            replace HK1 := Lib.hid (fun h => HK1.out rfl h)
            replace HK3 := Lib.hid (fun h e => HK3.out h (fun _ => e))
            have hfw : fewer best l = less best l := by unfold fewer; rw [if_pos h2.symm]
            rw [hfw] at HK1 HK3
            clear hfw h2
            obtain ⟨lb, hlb1⟩ : ∃ lb, less best l = lb := ⟨_, rfl⟩
            rw [hlb1] at HK1 HK3
            have hlb := Lib.hid hlb1
            clear hlb1
            cases lb
            · replace HK3 := Lib.hid (fun h => HK3.out h rfl)
              cases sk
              · go_wp2_with (first | (go_at_call 62; go_must (refine (NU.out _).mono ?_; rintro e w2 ⟨v2, rfl, ⟨a2, c2, rfl, ho2, hi2, hn2⟩, hb2⟩; dsimp only)) | (go_at_call 71; go_must (refine (Cmp2_any a2 ab l best c2 cb w2 hle.out hbl hi2 (hib.mono hb2)).mono ?_; rintro e w4 ⟨q, rfl, hq, hw4⟩; obtain rfl := hw4.symm; have hq := hq.out.trans hlb.out; simp only [decide_eq_true_eq, decide_eq_false_iff_not] at hq; dsimp only)) | ((with_reducible refine (C.out _ (Nat.le_trans hG.size hb2.size) (hI.out _ _ hJ hb2)).mono ?_); rintro e w3 ⟨rfl, hg3, hJ3⟩; dsimp only))
                (go_roundw; case rel => exact ⟨k + 1, best, _, by omega, by go_num, rfl, IntsN.grown (IntsN.mono ⟨ab, cb, rfl, hsb, hib, hlb0⟩ hb2) hg3 hrow.out, Lib.hid (HK2.out rfl), (hG.trans (grown_of row hb2)).trans hg3, hJ3⟩)
                (case measure => simp [intOf]; omega)
              · replace HK3 := Lib.hid (HK3.out rfl)
                go_wp2_with (first | (go_at_call 62; go_must (refine (NU.out _).mono ?_; rintro e w2 ⟨v2, rfl, ⟨a2, c2, rfl, ho2, hi2, hn2⟩, hb2⟩; dsimp only)) | (go_at_call 71; go_must (refine (Cmp2_any a2 ab l best c2 cb w2 hle.out hbl hi2 (hib.mono hb2)).mono ?_; rintro e w4 ⟨q, rfl, hq, hw4⟩; obtain rfl := hw4.symm; have hq := hq.out.trans hlb.out; simp only [decide_eq_true_eq, decide_eq_false_iff_not] at hq; dsimp only)) | ((with_reducible refine (C.out _ (Nat.le_trans hG.size hb2.size) (hI.out _ _ hJ hb2)).mono ?_); rintro e w3 ⟨rfl, hg3, hJ3⟩; dsimp only))
                (go_roundw; case rel => exact ⟨k + 1, l, true, by omega, by go_num, rfl, IntsN.grown ⟨a2, c2, rfl, ho2, hi2, fun ad e => Nat.le_trans hG.size (hn2 ad e)⟩ hg3 hrow.out, Lib.hid HK3.out, (hG.trans (grown_of row hb2)).trans hg3, hJ3⟩)
                (case measure => simp [intOf]; omega)
            · have hK := Lib.hid (HK1.out rfl)
              go_wp2_with (first | (go_at_call 62; go_must (refine (NU.out _).mono ?_; rintro e w2 ⟨v2, rfl, ⟨a2, c2, rfl, ho2, hi2, hn2⟩, hb2⟩; dsimp only)) | (go_at_call 71; go_must (refine (Cmp2_any a2 ab l best c2 cb w2 hle.out hbl hi2 (hib.mono hb2)).mono ?_; rintro e w4 ⟨q, rfl, hq, hw4⟩; obtain rfl := hw4.symm; have hq := hq.out.trans hlb.out; simp only [decide_eq_true_eq, decide_eq_false_iff_not] at hq; dsimp only)))
              go_roundw
              case rel => exact ⟨k + 1, best, true, by omega, by go_num, rfl, IntsN.mono ⟨ab, cb, rfl, hsb, hib, hlb0⟩ hb2, hK, hG.trans (grown_of row hb2), hI.out _ _ hJ hb2⟩
              (case measure => simp [intOf]; omega)
          · have g2 := eqn_f h2
            replace HK3 := Lib.hid (fun h => HK3.out h (fun _ => by unfold fewer; rw [if_neg (by omega)]; simpa using h1))
            cases sk
            · go_wp2_with (first | (go_at_call 62; go_must (refine (NU.out _).mono ?_; rintro e w2 ⟨v2, rfl, ⟨a2, c2, rfl, ho2, hi2, hn2⟩, hb2⟩; dsimp only)) | ((with_reducible refine (C.out _ (Nat.le_trans hG.size hb2.size) (hI.out _ _ hJ hb2)).mono ?_); rintro e w3 ⟨rfl, hg3, hJ3⟩; dsimp only))
              (go_roundw; case rel => exact ⟨k + 1, best, _, by omega, by go_num, rfl, IntsN.grown (IntsN.mono ⟨ab, cb, rfl, hsb, hib, hlb0⟩ hb2) hg3 hrow.out, Lib.hid (HK2.out rfl), (hG.trans (grown_of row hb2)).trans hg3, hJ3⟩)
              (case measure => simp [intOf]; omega)
            · replace HK3 := Lib.hid (HK3.out rfl)
              go_wp2_with (first | (go_at_call 62; go_must (refine (NU.out _).mono ?_; rintro e w2 ⟨v2, rfl, ⟨a2, c2, rfl, ho2, hi2, hn2⟩, hb2⟩; dsimp only)) | ((with_reducible refine (C.out _ (Nat.le_trans hG.size hb2.size) (hI.out _ _ hJ hb2)).mono ?_); rintro e w3 ⟨rfl, hg3, hJ3⟩; dsimp only))
              (go_roundw; case rel => exact ⟨k + 1, l, true, by omega, by go_num, rfl, IntsN.grown ⟨a2, c2, rfl, ho2, hi2, fun ad e => Nat.le_trans hG.size (hn2 ad e)⟩ hg3 hrow.out, Lib.hid HK3.out, (hG.trans (grown_of row hb2)).trans hg3, hJ3⟩)
              (case measure => simp [intOf]; omega)
    · obtain rfl : k = N := by omega
      go_wp2
      go_ret2
      exact ⟨_, best, found, rfl, ⟨ab, cb, rfl, hsb, hib, hlb0⟩, HFO, hG, hJ⟩
theorem MFewest_any (n F : Nat) (hn : n ≤ 6) (caps : Array Value) (so : Nat → Bool) (w : World) (hCF : ∀ (xs : Array Value) (W : World), (callFunc F xs).run Tryz.prog W = .ok (.enter F xs) W) (hF : ∀ (s : Nat) (W : World), s < 2 ^ n → Below w.heap.size w W → Calls Tryz.prog F (#[.int .i64 (s : Int)] ++ caps) W fun e W' => e = .returned (.bool (so s)) ∧ Below W.heap.size W W') :
    Calls Tryz.prog 105 #[.int .i64 (n : Int), .func (.func F) #[] caps] w fun e w' => ∃ v best found, e = .returned (.tuple #[v, .bool found]) ∧ IntsV w' v best ∧ Hid (Found n so (2 ^ n) best found) ∧ Below w.heap.size w w' :=
  (MFewestG_any n F hn caps so w none (fun _ h => by cases h) (fun W => Below w.heap.size w W) (fun A A' h h2 => h.trans (h2.mono h.size)) (Below.refl _ _) hCF
    (fun s W hs _ hW => (hF s W hs hW).mono fun e W' h => ⟨h.1, grown_of none h.2, hW.trans (h.2.mono hW.size)⟩)).mono fun e w' ⟨v, best, found, h1, h2, h3, _, h5⟩ => ⟨v, best, found, h1, h2.val, h3, h5⟩
end Go.Proofs.YtklconegomgjaaaGreat
