/- What is proved here: strings of layer 1, as an iterator over all sound strings that a spelling can be. Conditions: the book is looked at and valid. -/
/- What is proved here: a region that draws its order, within a round of a range over a function: as elsewhere, under a small post. Over any program. -/
import Derived.Test.YtklconegomgjaaaGreatEaCanG
import Derived.Test.YtklconegomgjaaaGreatRangeTG
import Derived.RangeFuncCalls
import Derived.Shelf.RegionOpen
import Derived.OwnWalkIn
import Derived.TacticsInMore
import Derived.LoopNIn
import Derived.LoopIn
import Derived.WalkMore
import Derived.IntWalk
import Derived.Deep.RegionHeld3
import Derived.Test.YtklconegomgjaaaGreatEaFlawG
import Derived.OrdersIn
set_option linter.unusedVariables false
set_option linter.unusedSimpArgs false
namespace Go.Proofs.YtklconegomgjaaaGreat
open Go Go.RowKit Go.Shelf
attribute [local go_sem] store_fnE

/-- What the iterator reads. -/
structure StrZ (A : World) (bm bo p1 p3 i : Nat) (a1 a2 : Option Addr) (k1 k2 : Nat) (b : EaB) : Prop where
  blk : BkB A bm bo a1 a2 k1 k2 b
  book : BookC A a1 a2 k1 k2 b
  p : A.heap[p1]? = some (.cells #[.pointer (some ⟨bm, 0, none⟩)] 90 (0, 0))
  i : A.heap[p3]? = some (.cells #[.int .i64 (i : Int)] 3 (0, 0))
@[reducible] def encH (h : List Int) : Array Value := #[heardV h]
/-- The iterator's own cells. -/
structure StrO (A : World) (p1 p3 yb bm l : Nat) : Prop where
  y : A.heap[yb]? = some (.cells #[.func (.yield l) #[] #[]] 158 (0, 0))
  c : A.heap[yb + 1]? = some (.cells #[.func (.func 171) #[.pointer (some ⟨bm, 0, none⟩)] #[]] 68 (0, 0))
  n : A.heap[yb + 1 + 1]? = some (.cells #[.func (.func 172) #[] #[.pointer (some ⟨p1, 0, none⟩), .pointer (some ⟨p3, 0, none⟩), .pointer (some ⟨yb, 0, none⟩), .pointer (some ⟨yb + 1 + 1, 0, none⟩), .pointer (some ⟨yb + 1, 0, none⟩)]] 241 (0, 0))
theorem StrO.above {A A' : World} {p1 p3 yb bm l B : Nat} (h : StrO A p1 p3 yb bm l) (hb : Above B A A') (hB : B ≤ yb) : StrO A' p1 p3 yb bm l := ⟨(hb.block _ hB (lt_of_block h.y)).trans h.y, (hb.block _ (by omega) (lt_of_block h.c)).trans h.c, (hb.block _ (by omega) (lt_of_block h.n)).trans h.n⟩
theorem StrO.below {A A' : World} {p1 p3 yb bm l : Nat} (h : StrO A p1 p3 yb bm l) (hb : Below A.heap.size A A') : StrO A' p1 p3 yb bm l := ⟨(hb.block _ (lt_of_block h.y)).trans h.y, (hb.block _ (lt_of_block h.c)).trans h.c, (hb.block _ (lt_of_block h.n)).trans h.n⟩
@[reducible] def strA (p1 p3 yb : Nat) : Array Value := #[.pointer (some ⟨p1, 0, none⟩), .pointer (some ⟨p3, 0, none⟩), .pointer (some ⟨yb, 0, none⟩), .pointer (some ⟨yb + 1 + 1, 0, none⟩), .pointer (some ⟨yb + 1, 0, none⟩)]
def StrC (S : Nat) (lts : List EaL) (p1 p3 yb bm l B : Nat) (xs : List (List Int)) (J : List (List Int) → World → Prop) (left : Nat) : Prop :=
  ∀ (ji : Int) (j : Nat) (h : List Int) (pre : List (List Int)) (W : World), ji = j → j + left = lts.length → h.length ≤ j → yb ≤ W.heap.size → StrO W p1 p3 yb bm l → J pre W → pre ++ strsF S (lts.drop j) h <+: xs →
    Calls Tryz.prog 172 #[.int .i64 ji, heardV h, .pointer (some ⟨p1, 0, none⟩), .pointer (some ⟨p3, 0, none⟩), .pointer (some ⟨yb, 0, none⟩), .pointer (some ⟨yb + 1 + 1, 0, none⟩), .pointer (some ⟨yb + 1, 0, none⟩)] W fun e W' => e = .returned (.bool true) ∧ J (pre ++ strsF S (lts.drop j) h) W' ∧ Above B W W'
/-- What comes of a letter's first so many sounds. -/
def strsTo (S : Nat) (x : EaL) (xs : List EaL) (h : List Int) (m : Nat) : List (List Int) := (List.range m).flatMap fun n => if bitB x.sounds n = true then strsF S xs (h ++ [(n : Int)]) else []
def strsS (S : Nat) (x : EaL) (xs : List EaL) (h : List Int) : List (List Int) := if x.silent = true then strsF S xs h else []
theorem strsF_cons (S : Nat) (x : EaL) (xs : List EaL) (h : List Int) : strsF S (x :: xs) h = strsS S x xs h ++ strsTo S x xs h S := rfl
theorem strsTo_succ (S : Nat) (x : EaL) (xs : List EaL) (h : List Int) (m : Nat) : strsTo S x xs h (m + 1) = strsTo S x xs h m ++ if bitB x.sounds m = true then strsF S xs (h ++ [(m : Int)]) else [] := by
  unfold strsTo
  rw [List.range_succ, List.flatMap_append]
  simp
theorem strsTo_pre {S : Nat} {x : EaL} {xs : List EaL} {h : List Int} {n m : Nat} (hnm : n ≤ m) : strsTo S x xs h n <+: strsTo S x xs h m := by
  obtain ⟨d, rfl⟩ : ∃ d, m = n + d := ⟨m - n, by omega⟩
  clear hnm
  induction d with
  | zero => exact List.prefix_refl _
  | succ d ih => rw [← Nat.add_assoc, strsTo_succ]; exact ih.trans (List.prefix_append _ _)
theorem hrd_snoc (h : List Int) (n : Int) (hl : h.length < 5) : ((heardCells h).setIfInBounds (1 + h.length) (.int .i64 n)).setIfInBounds 0 (.int .i64 ((h.length : Int) + 1)) = heardCells (h ++ [n]) := by
  match h, hl with
  | [], _ => rfl
  | [_], _ => rfl
  | [_, _], _ => rfl
  | [_, _, _], _ => rfl
  | [_, _, _, _], _ => rfl
theorem hrd_next (h : List Int) (hl : h.length < 5) : (heardCells h)[1 + h.length]? = some (.int .i64 0) := by
  match h, hl with
  | [], _ => rfl
  | [_], _ => rfl
  | [_, _], _ => rfl
  | [_, _, _], _ => rfl
  | [_, _, _, _], _ => rfl
theorem lts_drop {b : EaB} {i j : Nat} (hi : i < b.spells.length) (hj : j < b.spells[i].text.size) : (ltsOf b b.spells[i]).drop j = letN b i j :: (ltsOf b b.spells[i]).drop (j + 1) := by
  have hl : j < (ltsOf b b.spells[i]).length := by rw [lts_len]; exact hj
  rw [List.drop_eq_getElem_cons hl]
  congr 1
  unfold letN
  rw [spellAt_is hi, List.getElem?_eq_getElem hl]
  rfl
section
variable (a1 a2 : Option Addr) (k1 k2 : Nat) (b : EaB) (bm bo p1 p3 i : Nat) (yb l B : Nat) (xs : List (List Int)) (J : List (List Int) → World → Prop)
set_option maxRecDepth 100000 in
set_option maxHeartbeats 2000000 in
theorem ENext_zero (hv : EaValid b) (hi : i < b.spells.length) (hB : B ≤ yb) (hJ : ∀ s A A', J s A → Below yb A A' → J s A') (hJZ : ∀ s A, J s A → StrZ A bm bo p1 p3 i a1 a2 k1 k2 b)
    (hY : ∀ pre x W1, J pre W1 → pre ++ [x] <+: xs → YieldAt Fence.wide 0 Tryz.prog l (encH x) W1 fun e W' => e = .returned (.bool true) ∧ J (pre ++ [x]) W' ∧ Above B W1 W') :
    StrC b.sounds.toNat (ltsOf b b.spells[i]) p1 p3 yb bm l B xs J 0 := by
  intro ji j h pre W hji hjl hh hyb hO hj hpre
  have hjn : j = b.spells[i].text.size := by rw [lts_len] at hjl; omega
  rw [List.drop_of_length_le (by omega), strsF] at hpre ⊢
  have hz := hJZ _ _ hj
  have hl2 := hz.book.oks.len
  obtain ⟨y0, y1, y2, y3, yz⟩ := hz.blk.cells
  obtain ⟨b1, o1, rfl, h1b, h1c, h1d⟩ := hz.book.spells i hi
  have p0 := blk_cell 0 hz.p rfl
  have q0 := blk_cell 0 hz.i rfl
  have pz := lt_of_block hz.p
  have qz := lt_of_block hz.i
  simp only [List.getElem_toArray, List.getElem_cons_zero] at p0 q0
  have hiI : (i : Int) < (b.spells.length : Int) := by omega
  have h5 := (hv.spell i hi).2.2.2.1
  clear hv hjl
  subst hji
  generalize b.spells[i].text = text at *
  have HY := Lib.hid hY
  have HJ := Lib.hid hJ
  have HP := Lib.hid hpre
  have HJ0 := Lib.hid hj
  have hO' := hO
  clear hY hJ hpre hj hJZ hz h1c
  generalize b.spells.length = ns at *
  subst hjn
  go_enter Tryz.func172, Tryz.ntmps172
  go_wp2
  go_step3
  go_upto_region 1 with (fail)
  obtain ⟨X, hX⟩ : ∃ X : World, X = W.alloc (.cells (heardCells h) 95) := ⟨_, rfl⟩
  rw [← hX]
  have hbX : Below W.heap.size W X := by rw [hX]; exact (Below.refl _ _).alloc (Nat.le_refl _) _
  have hc := (show X.heap[W.heap.size]? = some (.cells (heardCells h) 95 (0, 0)) by rw [hX]; exact alloc_atE _ _ rfl)
  clear hX
  replace y2 := cell_below hbX y2
  replace p0 := cell_below hbX p0
  replace q0 := cell_below hbX q0
  replace h1d := cell_below hbX h1d
  replace pz := Nat.lt_of_lt_of_le pz hbX.size
  replace qz := Nat.lt_of_lt_of_le qz hbX.size
  replace h1b := Nat.lt_of_lt_of_le h1b hbX.size
  replace yz := Nat.lt_of_lt_of_le yz hbX.size
  clear y0 y1 y3
  go_quiet (fail)
  obtain ⟨Y, hY⟩ : ∃ Y : World, Y = X.drewN nq := ⟨_, rfl⟩
  rw [← hY]
  have hbY : Below W.heap.size W Y := by rw [hY]; exact below_drewN' hbX _
  replace hc : Y.heap[W.heap.size]? = some (.cells (heardCells h) 95 (0, 0)) := by rw [hY]; exact hc
  clear hY y2 p0 q0 h1d pz qz h1b yz hbX
  have hOY := hO.below hbY
  have hjY := HJ.out _ _ _ HJ0.out (hbY.mono hyb)
  obtain ⟨fn, tmps, assign, body, hyr, hR⟩ := HY.out pre h Y hjY HP.out
  have HR := Lib.hid hR
  have v0 := blk_cell 0 hOY.y rfl
  have vz := lt_of_block hOY.y
  have c0 := blk_cell 0 hc rfl
  have c1 := blk_cell 1 hc rfl
  have c2 := blk_cell 2 hc rfl
  have c3 := blk_cell 3 hc rfl
  have c4 := blk_cell 4 hc rfl
  have c5 := blk_cell 5 hc rfl
  have cz := lt_of_block hc
  simp only [heardCells, List.getElem_toArray, List.getElem_cons_zero, List.getElem_cons_succ] at v0 c0 c1 c2 c3 c4 c5
  clear hR hO hO' hc
  dsimp only [encH] at hyr
  go_upto_region 2 with (fail)
  refine (wpIn_wide (n := 0)).1 ?_
  gi_wp2
  refine ⟨rfl, HR.out.mono ?_⟩
  rintro e W2 ⟨rfl, hj2, hab⟩
  gi_wp2
  go_wp2
  (try rw [Exit.noGoto_ret])
  go_ret
  exact ⟨rfl, hj2, (Above.of_below hbY).trans hab⟩
set_option maxRecDepth 100000 in
set_option maxHeartbeats 4000000 in
theorem ENext_step (hv : EaValid b) (hi : i < b.spells.length) (hB : B ≤ yb) (hJ : ∀ s A A', J s A → Below yb A A' → J s A') (hJZ : ∀ s A, J s A → StrZ A bm bo p1 p3 i a1 a2 k1 k2 b)
    (left : Nat) (IH : StrC b.sounds.toNat (ltsOf b b.spells[i]) p1 p3 yb bm l B xs J left) :
    StrC b.sounds.toNat (ltsOf b b.spells[i]) p1 p3 yb bm l B xs J (left + 1) := by
  intro ji j h pre W hji hjl hh hyb hO hj hpre
  have hjn : j < b.spells[i].text.size := by rw [lts_len] at hjl; omega
  have hdrop := lts_drop hi hjn
  have hz := hJZ _ _ hj
  have hl2 := hz.book.oks.len
  obtain ⟨y0, y1, y2, y3, yz⟩ := hz.blk.cells
  obtain ⟨b1, o1, h1e, h1b, h1c, h1d⟩ := hz.book.spells i hi
  rw [h1e] at y2
  have p0 := blk_cell 0 hz.p rfl
  have q0 := blk_cell 0 hz.i rfl
  have pz := lt_of_block hz.p
  have qz := lt_of_block hz.i
  simp only [List.getElem_toArray, List.getElem_cons_zero] at p0 q0
  have hiI : (i : Int) < (b.spells.length : Int) := by omega
  have h5 := (hv.spell i hi).2.2.2.1
  obtain ⟨S, hS, hS1, hS4⟩ := sounds_nat hv
  have HCAN := Lib.hid (fun (V : World) (hz : StrZ V bm bo p1 p3 i a1 a2 k1 k2 b) (n : Nat) (hn : n < 4) => ECan_any a1 a2 k1 k2 b bm bo i j n V hz.book hz.blk hv hi hjn hn)
  have HSIL := Lib.hid (fun (V : World) (hz : StrZ V bm bo p1 p3 i a1 a2 k1 k2 b) => ESilent_any a1 a2 k1 k2 b bm bo i j V hz.book hz.blk hv hi hjn)
  have HIHx := IH
  have g0 := eqn_f (a := j) (b := b.spells[i].text.size) (by omega)
  have hj5 : j < 5 := by omega
  rw [hS, Int.toNat_natCast] at hpre HIHx ⊢
  rw [hdrop, strsF_cons] at hpre ⊢
  have HIHy := Lib.hid (fun (ji : Int) (h2 : List Int) (pre : List (List Int)) (V : World) (e : ji = (j + 1 : Nat)) (h1 : h2.length ≤ j + 1) => HIHx ji (j + 1) h2 pre V e (by omega) h1)
  have hzlen : (b.spells.length : Int) = b.spells.length := rfl
  clear IH HIHx hv hdrop hzlen
  subst hji
  generalize letN b i j = x at *
  generalize (ltsOf b b.spells[i]).drop (j + 1) = xt at *
  clear hjl h1c hz
  generalize b.spells[i].text = text at *
  have HJ := Lib.hid hJ
  have HZ := Lib.hid hJZ
  have HP := Lib.hid hpre
  have HJ0 := Lib.hid hj
  have HSS := Lib.hid hS
  clear hJ hpre hj hJZ h1e
  have hj1 : IntKind.i64.wrap ((j : Int) + 1) = (j : Int) + 1 := IntWalk.i64_in _ (by omega)
  go_enter Tryz.func172, Tryz.ntmps172
  go_wp2
  go_step3
  go_upto_region 1 with (fail)
  obtain ⟨X, hX⟩ : ∃ X : World, X = W.alloc (.cells (heardCells h) 95) := ⟨_, rfl⟩
  rw [← hX]
  have hbX : Below W.heap.size W X := by rw [hX]; exact (Below.refl _ _).alloc (Nat.le_refl _) _
  have hc := (show X.heap[W.heap.size]? = some (.cells (heardCells h) 95 (0, 0)) by rw [hX]; exact alloc_atE _ _ rfl)
  clear hX
  replace y2 := cell_below hbX y2
  replace p0 := cell_below hbX p0
  replace q0 := cell_below hbX q0
  replace h1d := cell_below hbX h1d
  replace pz := Nat.lt_of_lt_of_le pz hbX.size
  replace qz := Nat.lt_of_lt_of_le qz hbX.size
  replace h1b := Nat.lt_of_lt_of_le h1b hbX.size
  replace yz := Nat.lt_of_lt_of_le yz hbX.size
  clear y0 y1 y3
  go_quiet (fail)
  obtain ⟨Y, hY⟩ : ∃ Y : World, Y = X.drewN nq := ⟨_, rfl⟩
  rw [← hY]
  have hbY : Below W.heap.size W Y := by rw [hY]; exact below_drewN' hbX _
  replace hc : Y.heap[W.heap.size]? = some (.cells (heardCells h) 95 (0, 0)) := by rw [hY]; exact hc
  clear hY y2 p0 q0 h1d pz qz h1b yz hbX g0
  have hOY := hO.below hbY
  have hjY := HJ.out _ _ _ HJ0.out (hbY.mono hyb)
  have hyY := Nat.le_trans hyb hbY.size
  have hzY := HZ.out _ _ hjY
  have KC : Hid (∀ V, StrZ V bm bo p1 p3 i a1 a2 k1 k2 b → StrO V p1 p3 yb bm l → V.heap[W.heap.size]? = some (.cells (heardCells h) 95 (0, 0)) →
      V.cell? ⟨p1, 0, none⟩ = some (.pointer (some ⟨bm, 0, none⟩)) ∧ V.cell? ⟨p3, 0, none⟩ = some (.int .i64 (i : Int)) ∧ V.cell? ⟨bm, 0, none⟩ = some (.int .i64 (S : Int)) ∧ V.cell? ⟨yb + 1, 0, none⟩ = some (.func (.func 171) #[.pointer (some ⟨bm, 0, none⟩)] #[]) ∧
      V.cell? ⟨yb + 1 + 1, 0, none⟩ = some (.func (.func 172) #[] #[.pointer (some ⟨p1, 0, none⟩), .pointer (some ⟨p3, 0, none⟩), .pointer (some ⟨yb, 0, none⟩), .pointer (some ⟨yb + 1 + 1, 0, none⟩), .pointer (some ⟨yb + 1, 0, none⟩)]) ∧
      V.cell? ⟨W.heap.size, 0, none⟩ = some (.int .i64 (h.length : Int)) ∧ V.cell? ⟨W.heap.size, 1, none⟩ = some (.int .i64 (hrd h 0)) ∧ V.cell? ⟨W.heap.size, 2, none⟩ = some (.int .i64 (hrd h 1)) ∧ V.cell? ⟨W.heap.size, 3, none⟩ = some (.int .i64 (hrd h 2)) ∧ V.cell? ⟨W.heap.size, 4, none⟩ = some (.int .i64 (hrd h 3)) ∧ V.cell? ⟨W.heap.size, 5, none⟩ = some (.int .i64 (hrd h 4)) ∧
      p1 < V.heap.size ∧ p3 < V.heap.size ∧ bm < V.heap.size ∧ yb + 1 < V.heap.size ∧ yb + 1 + 1 < V.heap.size ∧ W.heap.size < V.heap.size) := Lib.hid (fun V z o c => by
    obtain ⟨y0, -, -, -, yz⟩ := z.blk.cells
    rw [HSS.out] at y0
    exact ⟨blk_cell 0 z.p rfl, blk_cell 0 z.i rfl, y0, blk_cell 0 o.c rfl, blk_cell 0 o.n rfl, blk_cell 0 c rfl, blk_cell 1 c rfl, blk_cell 2 c rfl, blk_cell 3 c rfl, blk_cell 4 c rfl, blk_cell 5 c rfl, lt_of_block z.p, lt_of_block z.i, yz, lt_of_block o.c, lt_of_block o.n, lt_of_block c⟩)
  go_upto_region 3 with (fail)
  go_cut [38] from 27 to 38 (fun v U => v = .bool false ∧ J (pre ++ strsS S x xt h) U ∧ Above B Y U)
  case first =>
    obtain ⟨p0, q0, s0, n0, m0, c0, c1, c2, c3, c4, c5, z1, z2, z3, z4, z5, z6⟩ := KC.out _ hzY hOY hc
    have SIL := HSIL.out _ hzY
    have HJY := Lib.hid hjY
    have HOY := Lib.hid hOY
    have HC := Lib.hid hc
    have HPS : Hid (x.silent = true → pre ++ strsF S xt h <+: xs ∧ strsS S x xt h = strsF S xt h) := Lib.hid (fun e => by
      have := HP.out
      unfold strsS at this ⊢
      rw [if_pos e] at this ⊢
      exact ⟨((List.prefix_append_right_inj pre).2 (List.prefix_append _ _)).trans this, rfl⟩)
    have HNS : Hid (x.silent = false → strsS S x xt h = []) := Lib.hid (fun e => by unfold strsS; rw [e]; rfl)
    generalize x.silent = sl at SIL HPS HNS
    replace SIL := Lib.hid SIL
    clear hzY hOY hc hjY
    cases sl
    · go_wp2_with (go_at_call 173; go_must ((with_reducible refine SIL.out.mono ?_); rintro e w2 ⟨rfl, hb2⟩; dsimp only))
      go_meet
      case rel => exact ⟨rfl, by rw [HNS.out (by trivial), List.append_nil]; exact HJ.out _ _ _ HJY.out (hb2.mono hyY), Above.of_below hb2⟩
    · obtain ⟨hps1, hps2⟩ := HPS.out (by trivial)
      replace hps1 := Lib.hid hps1
      replace hps2 := Lib.hid hps2
      go_wp2_with (first
        | (go_at_call 172; go_must ((with_reducible refine (HIHy.out _ h pre w2 (by omega) (by omega) hy2 hO2 hj2 hps1.out).mono ?_); rintro e w3 ⟨rfl, hj3, hab3⟩; dsimp only))
        | (go_at_call 173; go_must ((with_reducible refine SIL.out.mono ?_); rintro e w2 ⟨rfl, hb2⟩; have hj2 := HJ.out _ _ _ HJY.out (hb2.mono hyY); have hO2 := HOY.out.below hb2; have hy2 := Nat.le_trans hyY hb2.size; obtain ⟨p0, q0, s0, n0, m0, c0, c1, c2, c3, c4, c5, z1, z2, z3, z4, z5, z6⟩ := KC.out _ (HZ.out _ _ hj2) hO2 ((hb2.block _ z6).trans HC.out); dsimp only)))
      go_meet
      case rel => exact ⟨rfl, by rw [hps2.out]; exact hj3, (Above.of_below hb2).trans hab3⟩
  case rest =>
    obtain ⟨rfl, hjU, habU⟩ := hcut
    rename World => U
    have hOU := hOY.above habU hB
    have hzU := HZ.out _ _ hjU
    have hcU := (habU.block _ (by omega) (lt_of_block hc)).trans hc
    obtain ⟨p0, q0, s0, n0, m0, c0, c1, c2, c3, c4, c5, z1, z2, z3, z4, z5, z6⟩ := KC.out _ hzU hOU hcU
    have habWU := (Above.of_below (B := B) hbY).trans habU
    clear hjY hOY hzY hc habU hbY hyY
    go_wp2
    go_step3
    go_upto_region 6 with (fail)
    go_loopw [44] (fun i V => ∃ n : Nat, n ≤ S ∧ i = .int .i64 (n : Int) ∧ J (pre ++ strsS S x xt h ++ strsTo S x xt h n) V ∧ StrO V p1 p3 yb bm l ∧ Above B W V ∧ V.heap[W.heap.size]? = some (.cells (heardCells h) 95 (0, 0))) (fun i _ => S - (intOf i).toNat)
    case atStart => exact ⟨0, Nat.zero_le _, rfl, by simpa [strsTo] using hjU, hOU, habWU, hcU⟩
    case round =>
      clear p0 q0 s0 n0 m0 c0 c1 c2 c3 c4 c5 z1 z2 z3 z4 z5 z6 hjU hOU habWU hcU hzU
      rename World => V
      obtain ⟨n, hn, rfl, hj, hO, hab, hc⟩ := hrel
      have hz := HZ.out _ _ hj
      obtain ⟨p0, q0, s0, n0, m0, c0, c1, c2, c3, c4, c5, z1, z2, z3, z4, z5, z6⟩ := KC.out _ hz hO hc
      by_cases hlt : n < S
      · have CC := HCAN.out _ hz n (by omega)
        have hsn := strsTo_succ S x xt h n
        have hpp : pre ++ strsS S x xt h ++ strsTo S x xt h (n + 1) <+: xs := by
          rw [List.append_assoc]
          exact ((List.prefix_append_right_inj pre).2 ((List.prefix_append_right_inj _).2 (strsTo_pre (by omega)))).trans HP.out
        have HPP := Lib.hid hpp
        have HSN := Lib.hid hsn
        clear hpp hsn
        generalize bitB x.sounds n = tb at CC HSN
        replace CC := Lib.hid CC
        have hyV := Nat.le_trans hyb hab.size
        cases tb
        · have HS0 : Hid (strsTo S x xt h (n + 1) = strsTo S x xt h n) := Lib.hid (by rw [HSN.out]; simp)
          clear HSN HPP
          go_wp2_with (go_at_call 171; go_must ((with_reducible refine CC.out.mono ?_); rintro e w2 ⟨rfl, hb2⟩; dsimp only))
          go_roundw
          case rel => exact ⟨n + 1, by omega, by go_num, by rw [HS0.out]; exact HJ.out _ _ _ hj (hb2.mono hyV), hO.below hb2, hab.trans (Above.of_below hb2), (hb2.block _ z6).trans hc⟩
          case measure => simp [intOf]; omega
        · have HS1 : Hid (strsTo S x xt h (n + 1) = strsTo S x xt h n ++ strsF S xt (h ++ [(n : Int)])) := Lib.hid (by rw [HSN.out]; simp)
          clear HSN
          have hl5 : h.length < 5 := by omega
          have hl5i : (h.length : Int) < 5 := by omega
          have hw1 : IntKind.i64.wrap ((h.length : Int) + 1) = (h.length : Int) + 1 := IntWalk.i64_in _ (by omega)
          go_upto_region 10 with (go_at_call 171; go_must ((with_reducible refine CC.out.mono ?_); rintro e w2 ⟨rfl, hb2⟩; have hj2 := HJ.out _ _ _ hj (hb2.mono hyV); have hO2 := hO.below hb2; have hc2 := (hb2.block _ z6).trans hc; obtain ⟨p0, q0, s0, n0, m0, c0, c1, c2, c3, c4, c5, z1, z2, z3, z4, z5, z6⟩ := KC.out _ (HZ.out _ _ hj2) hO2 hc2; dsimp only))
          obtain ⟨Z1, hZ1⟩ : ∃ Z1 : World, Z1 = w2.alloc (.cells (heardCells h) 95) := ⟨_, rfl⟩
          rw [← hZ1]
          have hb1 : Below w2.heap.size w2 Z1 := by rw [hZ1]; exact (Below.refl _ _).alloc (Nat.le_refl _) _
          have hq1 : Z1.heap[w2.heap.size]? = some (.cells (heardCells h) 95 (0, 0)) := by rw [hZ1]; exact alloc_atE _ _ rfl
          clear hZ1
          replace c0 := cell_below hb1 c0
          replace z6 := Nat.lt_of_lt_of_le z6 hb1.size
          have f1 := blk_free (1 + h.length) hq1
          have e1 := blk_cell (1 + h.length) hq1 (hrd_next h hl5)
          have qz := lt_of_block hq1
          have hS1' := blk_set (1 + h.length) (.int .i64 (n : Int)) hq1
          clear p0 q0 s0 n0 m0 c1 c2 c3 c4 c5 z1 z2 z3 z4 z5
          go_upto_region 11 with (fail)
          obtain ⟨Z2, hZ2⟩ : ∃ Z2 : World, Z2 = Z1.setCell ⟨w2.heap.size, 1 + h.length, none⟩ (.int .i64 (n : Int)) := ⟨_, rfl⟩
          rw [← hZ2]
          rw [← hZ2] at hS1'
          have hb2' : Below w2.heap.size w2 Z2 := by rw [hZ2]; exact hb1.setCell (Nat.le_refl _) _
          clear hZ2 hq1 f1 e1 qz c0 z6
          have f0 := blk_free 0 hS1'
          have qz := lt_of_block hS1'
          have e0 : Z2.cell? ⟨w2.heap.size, 0, none⟩ = some (.int .i64 (h.length : Int)) := blk_cell 0 hS1' (by
            rw [Array.getElem?_setIfInBounds]
            simp)
          have hS2 := blk_set 0 (.int .i64 ((h.length : Int) + 1)) hS1'
          rw [hrd_snoc h n hl5] at hS2
          go_upto_region 12 with (fail)
          obtain ⟨Z3, hZ3⟩ : ∃ Z3 : World, Z3 = Z2.setCell ⟨w2.heap.size, 0, none⟩ (.int .i64 ((h.length : Int) + 1)) := ⟨_, rfl⟩
          rw [← hZ3]
          rw [← hZ3] at hS2
          have hb3 : Below w2.heap.size w2 Z3 := by rw [hZ3]; exact hb2'.setCell (Nat.le_refl _) _
          clear hZ3 hS1' f0 qz e0 hb1 hb2'
          have hyW2 := Nat.le_trans hyV hb2.size
          have hj3 := HJ.out _ _ _ hj2 (hb3.mono hyW2)
          have hO3 := hO2.below hb3
          have hc3 := (hb3.block _ (lt_of_block hc2)).trans hc2
          have hy3 := Nat.le_trans hyW2 hb3.size
          have hln : (h ++ [(n : Int)]).length = h.length + 1 := by simp
          have NX := HIHy.out ((j : Int) + 1) (h ++ [(n : Int)]) _ Z3 (by omega) (by omega) hy3 hO3 hj3 (by rw [List.append_assoc, ← HS1.out]; exact HPP.out)
          rw [List.append_assoc, ← HS1.out] at NX
          have hv6 : heardV (h ++ [(n : Int)]) = .agg #[.int .i64 ((h.length : Int) + 1), .int .i64 (hrd (h ++ [(n : Int)]) 0), .int .i64 (hrd (h ++ [(n : Int)]) 1), .int .i64 (hrd (h ++ [(n : Int)]) 2), .int .i64 (hrd (h ++ [(n : Int)]) 3), .int .i64 (hrd (h ++ [(n : Int)]) 4)] := by
            have h7 : (((h ++ [(n : Int)]).length : Nat) : Int) = (h.length : Int) + 1 := by rw [hln]; rfl
            show Value.agg #[.int .i64 (((h ++ [(n : Int)]).length : Nat) : Int), _, _, _, _, _] = _
            rw [h7]
          rw [hv6] at NX
          clear hv6
          have d0 := blk_cell 0 hS2 rfl
          have d1 := blk_cell 1 hS2 rfl
          have d2 := blk_cell 2 hS2 rfl
          have d3 := blk_cell 3 hS2 rfl
          have d4 := blk_cell 4 hS2 rfl
          have d5 := blk_cell 5 hS2 rfl
          have dz := lt_of_block hS2
          simp only [heardCells, List.getElem_toArray, List.getElem_cons_zero, List.getElem_cons_succ] at d0 d1 d2 d3 d4 d5
          clear hln
          replace NX := Lib.hid NX
          obtain ⟨p0, q0, s0, n0, m0, c0, c1, c2, c3, c4, c5, z1, z2, z3, z4, z5, z6⟩ := KC.out _ (HZ.out _ _ hj3) hO3 hc3
          clear c0 c1 c2 c3 c4 c5
          go_wp2_with (go_at_call 172; go_must ((with_reducible refine NX.out.mono ?_); rintro e w4 ⟨rfl, hj4, hab4⟩; dsimp only))
          have habz : Above B V Z3 := (Above.of_below hb2).trans (Above.of_below hb3)
          have hcz := (hab4.block _ (by omega) z6).trans hc3
          go_roundw
          case rel => exact ⟨n + 1, by omega, by go_num, hj4, hO3.above hab4 hB, (hab.trans habz).trans hab4, hcz⟩
          case measure => simp [intOf]; omega
      · obtain rfl : n = S := by omega
        rw [List.append_assoc] at hj
        go_wp2
        (try rw [Exit.noGoto_ret])
        go_ret
        exact ⟨rfl, hj, hab⟩
theorem ENext_all (hv : EaValid b) (hi : i < b.spells.length) (hB : B ≤ yb) (hJ : ∀ s A A', J s A → Below yb A A' → J s A') (hJZ : ∀ s A, J s A → StrZ A bm bo p1 p3 i a1 a2 k1 k2 b)
    (hY : ∀ pre x W1, J pre W1 → pre ++ [x] <+: xs → YieldAt Fence.wide 0 Tryz.prog l (encH x) W1 fun e W' => e = .returned (.bool true) ∧ J (pre ++ [x]) W' ∧ Above B W1 W') :
    ∀ left, StrC b.sounds.toNat (ltsOf b b.spells[i]) p1 p3 yb bm l B xs J left
  | 0 => ENext_zero a1 a2 k1 k2 b bm bo p1 p3 i yb l B xs J hv hi hB hJ hJZ hY
  | left + 1 => ENext_step a1 a2 k1 k2 b bm bo p1 p3 i yb l B xs J hv hi hB hJ hJZ left (ENext_all hv hi hB hJ hJZ hY left)
end
set_option maxRecDepth 100000 in
set_option maxHeartbeats 2000000 in
theorem EStr1_any (a1 a2 : Option Addr) (k1 k2 : Nat) (b : EaB) (bm bo p1 p3 i l B : Nat) (J : List (List Int) → World → Prop) (W : World) (hv : EaValid b) (hi : i < b.spells.length) (hB : B ≤ W.heap.size) (hJ : ∀ s A A', J s A → Below W.heap.size A A' → J s A') (hJZ : ∀ s A, J s A → StrZ A bm bo p1 p3 i a1 a2 k1 k2 b)
    (hY : ∀ pre x W1, J pre W1 → pre ++ [x] <+: strsN b i → YieldAt Fence.wide 0 Tryz.prog l (encH x) W1 fun e W' => e = .returned (.bool true) ∧ J (pre ++ [x]) W' ∧ Above B W1 W') (hj : J [] W) :
    Calls Tryz.prog 170 #[.func (.yield l) #[] #[], .pointer (some ⟨p1, 0, none⟩), .pointer (some ⟨p3, 0, none⟩)] W fun e W' => (∃ v, e = .returned v) ∧ J (strsN b i) W' := by
  have hxs : strsN b i = strsF b.sounds.toNat ((ltsOf b b.spells[i]).drop 0) [] := by unfold strsN; rw [spellAt_is hi]; rfl
  have CN := ENext_all a1 a2 k1 k2 b bm bo p1 p3 i W.heap.size l B (strsN b i) J hv hi hB hJ hJZ hY (ltsOf b b.spells[i]).length 0 0 [] []
  rw [← hxs] at CN
  replace CN := Lib.hid (fun V h1 h2 h3 => CN V rfl (by omega) (by simp) h1 h2 h3 (by simp))
  have HJ := Lib.hid hJ
  have HJ0 := Lib.hid hj
  have hz := hJZ _ _ hj
  have p0 := blk_cell 0 hz.p rfl
  have q0 := blk_cell 0 hz.i rfl
  have pz := lt_of_block hz.p
  have qz := lt_of_block hz.i
  simp only [List.getElem_toArray, List.getElem_cons_zero] at p0 q0
  clear hJ hJZ hY hj hz hxs
  go_enter Tryz.func170, Tryz.ntmps170
  go_upto_region 4 with (fail)
  obtain ⟨Y, hY⟩ : ∃ Y : World, Y = ((W.alloc (.cells #[.func (.yield l) #[] #[]] 158)).alloc (.cells #[.func (.func 171) #[.pointer (some ⟨bm, 0, none⟩)] #[]] 68)).alloc (.cells #[.func (.func 172) #[] #[.pointer (some ⟨p1, 0, none⟩), .pointer (some ⟨p3, 0, none⟩), .pointer (some ⟨W.heap.size, 0, none⟩), .pointer (some ⟨W.heap.size + 1 + 1, 0, none⟩), .pointer (some ⟨W.heap.size + 1, 0, none⟩)]] 241) := ⟨_, rfl⟩
  rw [← hY]
  have hbY : Below W.heap.size W Y := by rw [hY]; exact (((Below.refl _ _).alloc (Nat.le_refl _) _).alloc (by simp) _).alloc (by simp; omega) _
  have hOY : StrO Y p1 p3 W.heap.size bm l := by
    rw [hY]
    exact ⟨(heap_alloc_old _ _ (by simp; omega)).trans ((heap_alloc_old _ _ (by simp)).trans (alloc_atE _ _ rfl)), (heap_alloc_old _ _ (by simp)).trans (alloc_atE _ _ (by simp)), alloc_atE _ _ (by simp)⟩
  have hjY := HJ.out _ _ _ HJ0.out hbY
  clear hY
  have CC := CN.out Y hbY.size hOY hjY
  rw [List.nil_append] at CC
  have CC := Lib.hid (show Calls Tryz.prog 172 #[.int .i64 0, .agg #[.int .i64 0, .int .i64 0, .int .i64 0, .int .i64 0, .int .i64 0, .int .i64 0], .pointer (some ⟨p1, 0, none⟩), .pointer (some ⟨p3, 0, none⟩), .pointer (some ⟨W.heap.size, 0, none⟩), .pointer (some ⟨W.heap.size + 1 + 1, 0, none⟩), .pointer (some ⟨W.heap.size + 1, 0, none⟩)] Y _ from CC)
  have n0 := blk_cell 0 hOY.n rfl
  have nz := lt_of_block hOY.n
  simp only [List.getElem_toArray, List.getElem_cons_zero] at n0
  clear hOY hjY hbY p0 q0 pz qz CN
  go_wp2_with (go_at_call 172; go_must ((with_reducible refine CC.out.mono ?_); rintro e w2 ⟨rfl, hj2, hab2⟩; dsimp only))
  go_end0
  exact ⟨⟨_, rfl⟩, hj2⟩
set_option maxHeartbeats 1000000 in
theorem EStrings_any (bm i : Nat) (w : World) :
    Calls Tryz.prog 135 #[.pointer (some ⟨bm, 0, none⟩), .int .i64 (i : Int)] w fun e w' => e = .returned (.func (.func 170) #[] #[.pointer (some ⟨w.heap.size, 0, none⟩), .pointer (some ⟨w.heap.size + 1, 0, none⟩)]) ∧ w' = (w.alloc (.cells #[.pointer (some ⟨bm, 0, none⟩)] 90)).alloc (.cells #[.int .i64 (i : Int)] 3) := by
  go_enter Tryz.func135, Tryz.ntmps135
  go_wp2
  go_ret
  exact ⟨by simp, rfl⟩
theorem EStr_seq (a1 a2 : Option Addr) (k1 k2 : Nat) (b : EaB) (bm bo p1 p3 i : Nat) (w0 : World) (hv : EaValid b) (hi : i < b.spells.length) :
    SeqT Tryz.prog 170 #[.pointer (some ⟨p1, 0, none⟩), .pointer (some ⟨p3, 0, none⟩)] encH w0.heap.size (fun A => StrZ A bm bo p1 p3 i a1 a2 k1 k2 b) (strsN b i) w0 :=
  fun l J W _ hz hJ hJZ hY hj => callsIn_wide.2 (EStr1_any a1 a2 k1 k2 b bm bo p1 p3 i l w0.heap.size J W hv hi hz hJ hJZ hY hj)
end Go.Proofs.YtklconegomgjaaaGreat
namespace Go.Proofs.YtklconegomgjaaaGreat
open Go Go.RowKit

variable {P : Program} {l : Nat} {Q : Exit → Act → World → Prop}

theorem rowsIn_wide {row : String} {args : Array Value} {w : World} {R : Value → World → Prop} (h : Rows P row args w R) : RowsIn Fence.wide 0 P row args w R := by
  intro c cs _
  obtain ⟨v, w', r, s⟩ := h c cs
  exact ⟨v, w', r, stepsIn_wide.2 s⟩
theorem Oper.wpIn_of_wp {o : Oper} {a : Act} {w : World} {K : Act → World → Prop} (hd : ∀ c, o.op ≠ .defer c) (h : o.wp P a w K Q) : o.wpIn (Fence.wide.inRound l) 0 P a w K Q := by
  unfold Oper.wpIn
  refine ⟨fun _ _ => trivial, ?_⟩
  rw [Oper.semAt_eq _ _ _ hd]
  unfold Oper.wp at h
  generalize (execOp a.eval o).run P w = r at h
  cases r with
  | ok x w' =>
    cases x with
    | value v => exact h
    | skip => exact h
    | defer d => exact h
    | enter f args => exact ⟨fun h => (by cases h), CallsIn.inRound l (callsIn_wide.2 h)⟩
    | row row args => exact ⟨fun h => (by cases h), rowsIn_wide h⟩
    | round l f tmps assign body => exact h.elim
    | _ => exact h.elim
  | halt x w' => cases x <;> exact h

theorem wpOpIn_of_wpOp {ops : Array Oper} (hL : ¬ LetsOut Q) (hd : ∀ o ∈ ops.toList, ∀ c, o.op ≠ .defer c) {i : Nat} {a : Act} {w : World} {K : Act → World → Prop} (h : wpOp P ops Q i K a w) : wpOpIn (Fence.wide.inRound l) 0 P ops Q i K a w := by
  unfold wpOp at h
  unfold wpOpIn
  cases ho : ops[i]? with
  | none => rw [ho] at h; exact h
  | some o =>
    rw [ho] at h
    simp only at h ⊢
    by_cases hw : Region.wanted o (yielded ops a.tmps) = true
    · rw [if_pos hw] at h ⊢
      have hm : o ∈ ops.toList := by
        have := Array.mem_of_getElem? ho
        simpa using this
      rcases h with h | ⟨_, h⟩
      · exact Oper.wpIn_of_wp (hd o hm) h
      · exact absurd h hL
    · rw [if_neg hw] at h ⊢
      exact ⟨fun _ _ => trivial, h⟩
theorem wpAnyIn_of_wpAny {ops : Array Oper} {md : Region.Mode} (hL : ¬ LetsOut Q) (hd : ∀ o ∈ ops.toList, ∀ c, o.op ≠ .defer c) : ∀ (fuel : Nat) (listed : Array Bool) (a : Act) (w : World), wpAny P md ops Q fuel listed a w → wpAnyIn (Fence.wide.inRound l) 0 P md ops Q fuel listed a w
  | 0, _, _, _, h => h
  | fuel + 1, _, _, _, h => ⟨h.1, fun i hi => wpOpIn_of_wpOp hL hd (wpOp_mono (fun a' w' h' => wpAnyIn_of_wpAny hL hd fuel _ a' w' h') (h.2 i hi))⟩

def noDefer (ops : Array Oper) : Bool := ops.toList.all fun o => match o.op with | .defer _ => false | _ => true
theorem noDefer_spec {ops : Array Oper} (h : noDefer ops = true) : ∀ o ∈ ops.toList, ∀ c, o.op ≠ .defer c := by
  intro o ho c hc
  unfold noDefer at h
  rw [List.all_eq_true] at h
  have := h o ho
  rw [hc] at this
  cases this
/-- A region that draws, in a round: S' is what holds of the world all along. -/
theorem wpIn_region_round {id : Nat} {ops : Array Oper} {a : Act} {w : World} (S' : World → Prop) (hL : ¬ LetsOut Q) (hm : P.follows .mixedOrders = true) (hd : ∀ o ∈ ops.toList, ∀ c, o.op ≠ .defer c) (hS : S' w.drew)
    (h : S' w.drew → wpAnyH P .any ops Q S' ops.size (Array.replicate ops.size false) a w.drew) : (Code.region id ops true).wpIn (Fence.wide.inRound l) 0 P Q a w :=
  wpIn_region_any hm (wpAnyIn_of_wpAny hL hd _ _ _ _ (wpAny_of_held _ _ _ _ (h hS)))
theorem midPost_in {A : Act} {S : World → Prop} : ¬ LetsOut (midPost A S) := fun ⟨_, _, h⟩ => h
theorem grown_of {W V : World} (row : Option Nat) (h : Below W.heap.size W V) : W.grownBy V row := ⟨h.os, h.tape, h.output, h.size, fun i hi _ => h.block i hi⟩
end Go.Proofs.YtklconegomgjaaaGreat
