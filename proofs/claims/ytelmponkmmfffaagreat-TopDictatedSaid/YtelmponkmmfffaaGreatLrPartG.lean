/- What is proved here: the contract of the laws' Any of layer 2. Conditions: the form and the turns lie in memory; nothing is wrong in the form. -/
/- What is proved here: a walk that may only end normally. Over any program. -/
/- What is proved here: the contract of howLong: how many words a letter of a form has. Conditions: the form lies in memory; nothing is wrong in it. -/
/- What is proved here: contracts of the laws' helpers valid, turn, some and inside of layer 9. Conditions: the arguments lie in memory; small numbers. -/
/- What is proved here: the memory of TopDictated's loops; contracts of Any, Make and Fills at what customers tell. Conditions: all lies in memory. -/
/- What is proved here: the contract of ref02's part: what is said to be fine is fine. Conditions: the part lies in memory; its numbers are numbers of 64 bits. -/
import Derived.Test.YtelmponkmmfffaaGreatLrRoomsG
import Derived.BigQuiet
import Derived.Test.YtelmponkmmfffaaGreatLeOffG
import Derived.Test.YtelmponkmmfffaaGreatDw3
import Derived.Test.YtelmponkmmfffaaGreatDfOG
import Derived.Test.YtelmponkmmfffaaGreatLeMakeG
import Derived.Test.YtelmponkmmfffaaGreatLeOfG
import Derived.Test.YtelmponkmmfffaaGreatLeTextG
import Derived.Test.YtelmponkmmfffaaGreatDeFlatG
import Derived.Test.YtelmponkmmfffaaGreatDeFlawG
import Derived.Test.YtelmponkmmfffaaGreatDeEnterG
set_option linter.unusedVariables false
set_option linter.unusedSimpArgs false
namespace Go.Proofs.YtelmponkmmfffaaGreat
open Go Go.RowKit Go.Shelf
theorem al_onL (W : World) (o : Obj) : Below W.heap.size W (W.alloc o) := (Below.refl _ _).alloc (Nat.le_refl _) o
def nextAt (x : List Int) : List (Int × Int) → Nat → Nat
  | [], n => n
  | r :: rs, n => nextAt x rs (n + 1 + anyN x r n)
theorem anyF_app (x : List Int) : ∀ (a b : List (Int × Int)) (n : Nat), anyFrom x (a ++ b) n = anyFrom x a n ++ anyFrom x b (nextAt x a n)
  | [], _, _ => rfl
  | r :: a, b, n => by simp only [List.cons_append, anyFrom, nextAt, anyF_app x a b]
theorem nextAt_app (x : List Int) : ∀ (a b : List (Int × Int)) (n : Nat), nextAt x (a ++ b) n = nextAt x b (nextAt x a n)
  | [], _, _ => rfl
  | r :: a, b, n => by simp only [List.cons_append, nextAt, nextAt_app x a b]
theorem anyF_succ {x : List Int} {R : List (Int × Int)} {k : Nat} (h : k < R.length) : anyFrom x (R.take (k + 1)) 0 = anyFrom x (R.take k) 0 ++ [anyFill x (nextAt x (R.take k) 0) (anyN x R[k] (nextAt x (R.take k) 0))] := by
  rw [← List.take_append_getElem h, anyF_app]
  rfl
theorem nextAt_succ {x : List Int} {R : List (Int × Int)} {k : Nat} (h : k < R.length) : nextAt x (R.take (k + 1)) 0 = nextAt x (R.take k) 0 + 1 + anyN x R[k] (nextAt x (R.take k) 0) := by
  rw [← List.take_append_getElem h, nextAt_app]
  rfl
theorem anyN_bd {x : List Int} {r : Int × Int} (n : Nat) (h : 0 ≤ r.1 ∧ r.1 ≤ r.2 ∧ r.2 ≤ 3) : anyN x r n ≤ 3 ∧ (anyN x r n : Int) = r.1 + turnL x n % (r.2 - r.1 + 1) := by
  have h1 := Int.emod_nonneg (turnL x n) (show r.2 - r.1 + 1 ≠ 0 by omega)
  have h2 := Int.emod_lt_of_pos (turnL x n) (show 0 < r.2 - r.1 + 1 by omega)
  unfold anyN
  omega
theorem nextAt_bd (x : List Int) : ∀ (R : List (Int × Int)) (n : Nat), (∀ r ∈ R, 0 ≤ r.1 ∧ r.1 ≤ r.2 ∧ r.2 ≤ 3) → nextAt x R n ≤ n + 4 * R.length
  | [], n, _ => by simp [nextAt]
  | r :: R, n, h => by
    have h1 := (anyN_bd (x := x) n (h r (by simp))).1
    have h2 := nextAt_bd x R (n + 1 + anyN x r n) (fun q hq => h q (by simp [hq]))
    simp only [nextAt, List.length_cons]
    omega
theorem anyFill_succ (x : List Int) (n j : Nat) : anyFill x n (j + 1) = anyFill x n j ++ [saidW x (n + 1 + j)] := by
  unfold anyFill
  rw [List.range_succ, List.map_append]
  rfl
theorem said_at {x : List Int} {n q : Nat} (h : turnL x n = (q : Int)) : ∃ h : q % 8 < saidL.length, saidL[q % 8] = saidW x n := by
  have h8 : q % 8 < saidL.length := Nat.mod_lt _ (by decide)
  refine ⟨h8, ?_⟩
  unfold saidW
  rw [h, show ((q : Int) % 8).toNat = q % 8 by omega, List.getElem?_eq_getElem h8]
  rfl
set_option maxRecDepth 100000 in
set_option maxHeartbeats 8000000 in
theorem LAny_any (ap : Option Addr) (kp : Nat) (f : LeF) (ax : Option Addr) (x : List Int) (cx : Nat) (w : World) (ho : SlOk ap f.parts.length kp) (hp : PartsC w ap f.parts) (hf : LeFOk f) (hox : SlOk ax x.length cx) (hix : BytesC w ax x) :
    Calls Tryz.prog 10 #[.agg #[.string f.name, .slice ap f.parts.length kp], .slice ax x.length cx] w fun e w' => ∃ a c, e = .returned (.slice a (anyFrom x (roomsF f.parts) 0).length c) ∧ SlOk a (anyFrom x (roomsF f.parts) 0).length c ∧ StrRowsC w' a (anyFrom x (roomsF f.parts) 0) ∧ Below w.heap.size w w' := by
  obtain ⟨X, hX⟩ : ∃ X : World, X = w.alloc (.cells #[.string f.name, .slice ap f.parts.length kp] 43) := ⟨_, rfl⟩
  have hwX : Below w.heap.size w X := by rw [hX]; exact (Below.refl _ w).alloc (Nat.le_refl _) _
  have g0 : X.heap[w.heap.size]? = some (.cells #[.string f.name, .slice ap f.parts.length kp] 43 (0, 0)) := by rw [hX]; exact alloc_at _ _ rfl
  have c0 := blk_cell 0 g0 rfl
  have c1 := blk_cell 1 g0 rfl
  have cz := lt_of_block g0
  simp only [List.getElem_toArray, List.getElem_cons_zero, List.getElem_cons_succ] at c0 c1
  have hpok : ∀ p ∈ f.parts, LePOk p := fun p hp => by obtain ⟨i, hi, rfl⟩ := List.getElem_of_mem hp; exact hf.part i hi
  have RM := Lib.hid (LRooms_any ap kp f X ho (hp.mono hwX) hf.many)
  have hrk := Lib.hid (rooms_ok _ hpok)
  have hr5 : (roomsF f.parts).length ≤ 5 := Nat.le_trans (rooms_len _) hf.many
  have hxl := hox.len
  have TU := Lib.hid (fun (V : World) (n : Nat) (hn : n ≤ 1000) (h : Below w.heap.size w V) => LTurn_any ax x cx n V hxl hn (hix.mono h))
  have TB := Lib.hid (fun n => turnL_bd hix n)
  have HX := Lib.hid hX
  clear hX hp hf hpok hix hox ho g0
  generalize roomsF f.parts = R at *
  go_enter Tryz.func10, Tryz.ntmps10
  go_upto_region 1 with (fail)
  rw [← HX.out]
  clear HX
  go_upto_region 5 with (go_at_call 47; go_must ((with_reducible refine RM.out.mono ?_); rintro e w2 ⟨aR, cR, rfl, oR, sR, hb2⟩; dsimp only))
  clear c0 c1 cz RM
  have hw2 := hwX.trans (hb2.mono hwX.size)
  have SR := Lib.hid (fun (V : World) (h : Below w2.heap.size w2 V) => sR.mono h)
  have hRc := oR.1
  clear sR hb2
  go_loopw [6, 7, 8] (fun o q i V => ∃ (k : Nat) (vs : List Value), k ≤ R.length ∧ q = .int .i64 (nextAt x (R.take k) 0 : Int) ∧ i = .int .i64 k ∧ V.ownsRow w2.heap.size 44 1 o k vs ∧ RowsU V vs (anyFrom x (R.take k) 0) ∧ Below w2.heap.size w2 V) (fun _ _ i _ => R.length - (intOf i).toNat)
  case atStart => exact ⟨0, [], Nat.zero_le _, by rw [List.take_zero]; rfl, rfl, World.ownsRow_nil _ _ _ _, by rw [List.take_zero]; exact RowsU.nil _, Below.refl _ _⟩
  case round =>
    rename World => V
    obtain ⟨k, vs, hk, rfl, rfl, hown, hrows, hbV⟩ := hrel
    by_cases hlt : k < R.length
    · obtain ⟨b, off, e0, hb, s1, s2⟩ := SR.out V hbV k hlt
      have hr := hrk.out _ (List.getElem_mem hlt)
      have HFS := Lib.hid (anyF_succ (x := x) hlt)
      have HNS := Lib.hid (nextAt_succ (x := x) hlt)
      have hA : nextAt x (R.take k) 0 ≤ 20 := by
        have := nextAt_bd x (R.take k) 0 (fun r hr => hrk.out r (List.mem_of_mem_take hr))
        rw [List.length_take] at this
        omega
      obtain ⟨hm3, hmv⟩ := anyN_bd (x := x) (nextAt x (R.take k) 0) hr
      generalize R[k] = r at *
      obtain ⟨lo, hi⟩ := r
      simp only at hr s1 s2 hmv
      generalize nextAt x (R.take k) 0 = A at *
      generalize anyN x (lo, hi) A = many at *
      generalize anyFrom x (R.take k) 0 = L at *
      have hwV := Lib.hid (hw2.trans (hbV.mono hw2.size))
      have T1 := Lib.hid (fun (n : Nat) => TU.out (V.drewN n) A (by omega) (hwV.out.trans ((below_draws _ _ n).mono hwV.out.size)))
      have tb := TB.out A
      obtain ⟨t, ht⟩ : ∃ t, t = turnL x A := ⟨_, rfl⟩
      rw [← ht] at T1 hmv tb
      clear ht
      have k1 := Int.emod_nonneg t (show hi - lo + 1 ≠ 0 by omega)
      have k2 := Int.emod_lt_of_pos t (show 0 < hi - lo + 1 by omega)
      have hne : (hi - lo + 1 == 0) = false := eqi_f (by omega)
      have HMV := Lib.hid hmv
      have HO := Lib.hid hown
      have HR := Lib.hid hrows
      have hkc : (k : Int) < (cR : Int) := by omega
      subst e0
      clear hmv hown hrows
      go_upto_region 7 with (fail)
      go_cut [9] from 20 to 41 (fun v W => v = .int .i64 (many : Int) ∧ Below V.heap.size V W)
      case first =>
        go_quiet ((go_at_call 48; exact Calls.quiet_of_same (T1.out _)))
        go_wp2
        go_meet
        case rel => exact ⟨by rw [HMV.out], below_draws _ _ _⟩
      case rest =>
        obtain ⟨rfl, hbW⟩ := hcut
        rename World => W
        replace HO := Lib.hid (own_below HO.out hbW)
        replace HR := Lib.hid (HR.out.mono hbW)
        replace hbW := hbV.trans (hbW.mono hbV.size)
        have hwW := Lib.hid (hw2.trans (hbW.mono hw2.size))
        clear hwV T1 tb k1 k2 hne HMV s1 s2 hb hr hbV t
        clear V
        go_upto_region 11 with (fail)
        go_loopw [7, 10, 11] (fun q l i U => ∃ (j B : Nat), j ≤ many ∧ Hid (B = A + 1 + j) ∧ B ≤ 100 ∧ q = .int .i64 (B : Int) ∧ i = .int .i64 j ∧ U.ownsRow W.heap.size 9 1 l j ((anyFill x A j).map Value.string) ∧ Below W.heap.size W U) (fun _ _ i _ => many - (intOf i).toNat)
        case atStart => exact ⟨0, A + 1, Nat.zero_le _, Lib.hid rfl, by omega, by go_num, rfl, World.ownsRow_nil _ _ _ _, Below.refl _ _⟩
        case round =>
          rename World => U
          obtain ⟨j, B, hj, HBJ, hB1, rfl, rfl, hl, hbU⟩ := hrel
          by_cases hjm : j < many
          · have hjI : (j : Int) < (many : Int) := by omega
            have T2 := fun (V : World) (h : Below W.heap.size W V) => TU.out V B (by omega) (hwW.out.trans (h.mono hwW.out.size))
            have tb := TB.out B
            obtain ⟨q, hq⟩ : ∃ q : Nat, turnL x B = (q : Int) := ⟨(turnL x B).toNat, by omega⟩
            obtain ⟨h8, hs8⟩ := said_at hq
            have HFL := Lib.hid (show anyFill x A (j + 1) = anyFill x A j ++ [saidW x B] by rw [anyFill_succ, ← HBJ.out])
            rw [hq] at T2 tb
            rw [← hs8] at HFL
            have HS8 := Lib.hid h8
            have HL := Lib.hid hl
            replace T2 := Lib.hid T2
            clear hq hs8 hl
            go_wp2_with (first
              | (at_builtin; go_must (refine wpList_app (.tmp 49) (.tmp 59) E_str rfl rfl rfl rfl W.heap.size j 1 ((anyFill x A j).map Value.string) [.string (saidL[q % 8]'HS8.out)] (HL6.out.alloc _) (SrcAt.one _ _ _ rfl) (by omega) (by decide) (by have := hb6.size; simp; omega) ?_; intro v7 w7 ho7 hg7 _; have hb7 := app_next hb6 (Nat.le_refl _) (Nat.le_refl _) HL6.out hg7; clear hg7; simp only [Act.put, List.setIfInBounds_toArray, List.set_cons_succ, List.set_cons_zero]))
              | (have hh := hbT; (go_at_call 49; go_must ((with_reducible refine (LSaid_any _).mono ?_); rintro e w6 ⟨b6, rfl, -, hbS⟩; have hb6 := hb5.trans (hbS.mono hb5.size); have HL6 := Lib.hid (own_below HL5.out hbS); replace c5 := cell_below hbS c5; replace z5 := Nat.lt_of_lt_of_le z5 hbS.size; dsimp only)))
              | (go_at_call 48; go_must ((with_reducible refine (T2.out _ hb5).mono ?_); rintro e w' ⟨rfl, hw9⟩; obtain rfl := hw9.symm; have hbT := hb5; dsimp only))
              | (go_at_call 49; go_must ((with_reducible refine (LSaid_any _).mono ?_); rintro e w5 ⟨b5, rfl, s5, hbS⟩; have hb5 := hbU.trans (hbS.mono hbU.size); have HL5 := Lib.hid (own_below HL.out hbS); obtain ⟨b9, o9, e9, z5, c5⟩ := s5 (q % 8) HS8.out; cases e9; rw [Nat.zero_add] at c5; clear s5; dsimp only)))
            go_roundw
            case rel => exact ⟨j + 1, B + 1, by omega, Lib.hid (by rw [HBJ.out]; rfl), by have := HBJ.out; omega, by go_num, by go_num, by rw [HFL.out, List.map_append]; exact ho7, hb7⟩
            case measure => simp [intOf]; omega
          · obtain rfl : j = many := by omega
            obtain ⟨av, cv, rfl⟩ := own_slice hl
            have HLV := Lib.hid (RowU.of_own hl)
            have HO1 := Lib.hid (own_below HO.out hbU)
            have HR1 := Lib.hid (HR.out.mono hbU)
            have hbV := hbW.trans (hbU.mono hbW.size)
            have hsz := hbV.size
            obtain ⟨ov, oc, rfl⟩ := own_slice HO1.out
            have HMD := Lib.hid (made_row2 (W := U) hsz 44 1)
            have HSRC := Lib.hid (own_src (HO1.out.alloc (.cells #[] 44)) HR1.out.cell)
            clear hl
            go_wp2_with (first
              | (have hh := hoA; at_builtin; go_must (refine wpList_app (.tmp 65) (.tmp 67) E_strs rfl rfl rfl rfl w2.heap.size k 1 vs [.slice av j cv] (hoA.alloc _) (SrcAt.one _ _ _ rfl) (by omega) (by decide) (by have := hbA.size; simp; omega) ?_; intro v8 w8 ho8 hg8 _; have hb8 := app_next hbA (Nat.le_refl _) (Nat.le_refl _) hoA hg8; have HR8 := Lib.hid (((HRA.out.mono (al_onL _ _)).grown (hoA.alloc _) hg8).snoc ((HLA.out.mono (al_onL _ _)).grown (hoA.alloc _) hg8)); clear hg8; simp only [Act.put, List.setIfInBounds_toArray, List.set_cons_succ, List.set_cons_zero]))
              | (at_builtin; go_must (refine wpList_app (.tmp 63) (.tmp 64) E_strs rfl rfl rfl rfl w2.heap.size 0 k [] vs HMD.out HSRC.out (by omega) (by decide) (by simp; omega) ?_; intro vA wA hoA hgA _; have hbA := app_on (hbV.alloc (by omega) _) (by simp; omega) (Nat.le_refl _) HMD.out hgA; have HRA := Lib.hid ((HR1.out.mono (al_onL _ _)).grown HMD.out hgA); have HLA := Lib.hid ((HLV.out.mono (al_onL _ _)).grown HMD.out hgA); rw [Nat.zero_add, List.nil_append] at hoA; clear hgA; simp only [Act.put, List.setIfInBounds_toArray, List.set_cons_succ, List.set_cons_zero])))
            go_roundw
            case rel => exact ⟨k + 1, vs ++ [.slice av j cv], by omega, by rw [HNS.out, HBJ.out], by go_num, ho8, by rw [HFS.out]; exact HR8.out, hb8⟩
            case measure => simp [intOf]; omega
    · obtain rfl : k = R.length := by omega
      rw [List.take_length] at hrows ⊢
      obtain ⟨a, c, rfl, h1, h2⟩ := StrRowsC.of_ownU hown hrows
      go_wp2
      go_ret
      exact ⟨a, c, rfl, h1, h2, hw2.trans (hbV.mono hw2.size)⟩
end Go.Proofs.YtelmponkmmfffaaGreat
namespace Go.Proofs.YtelmponkmmfffaaGreat
open Go Go.RowKit
theorem drewE_heap (Y : World) : Y.drew.heap = Y.heap := rfl
/-- Left normally, as Q says; not otherwise. -/
def onlyN (Q : Exit → Act → World → Prop) : Exit → Act → World → Prop
  | .normal, a, w => Q .normal a w
  | _, _, _ => False
theorem wp_only {P : Program} {C : Code} {Q : Exit → Act → World → Prop} {a : Act} {w : World} (h : C.wp P (onlyN Q) a w) : C.wp P Q a w :=
  Code.wp_mono (fun e a' w' h' => by
    cases e with
    | normal => exact h'
    | ret => exact h'.elim
    | exit id => exact h'.elim
    | goto t => exact h'.elim
    | panic c => exact h'.elim
    | outgrown => exact h'.elim) h
end Go.Proofs.YtelmponkmmfffaaGreat
namespace Go.Proofs.YtelmponkmmfffaaGreat
open Go Go.RowKit Go.Shelf
theorem howLo_succ {ps : List LeP} {k : Nat} (h : k < ps.length) : howLo (ps.take (k + 1)) = howLo (ps.take k) + ((ps[k].words.length : Int) + ps[k].lo) := by
  unfold howLo
  rw [← List.take_append_getElem h, List.map_append, List.sum_append]
  simp
theorem howHi_succ {ps : List LeP} {k : Nat} (h : k < ps.length) : howHi (ps.take (k + 1)) = howHi (ps.take k) + ((ps[k].words.length : Int) + ps[k].hi) := by
  unfold howHi
  rw [← List.take_append_getElem h, List.map_append, List.sum_append]
  simp
theorem part_bd {p : LeP} (h : LePOk p) : p.words.length ≤ 3 ∧ 0 ≤ p.lo ∧ p.lo ≤ 3 ∧ 0 ≤ p.hi ∧ p.hi ≤ 3 := by
  have h1 := h.many
  by_cases h0 : p.words = []
  · have := h.room h0; omega
  · have := h.given h0; omega
set_option maxRecDepth 100000 in
set_option maxHeartbeats 8000000 in
theorem HowLong_any (ap : Option Addr) (kp : Nat) (f : LeF) (w : World) (ho : SlOk ap f.parts.length kp) (hp : PartsC w ap f.parts) (hf : LeFOk f) :
    Calls Tryz.prog 8 #[.agg #[.string f.name, .slice ap f.parts.length kp]] w fun e w' => e = .returned (.agg #[.int .i64 (howLo f.parts), .int .i64 (howHi f.parts)]) ∧ Below w.heap.size w w' := by
  obtain ⟨X, hX⟩ : ∃ X : World, X = ((w.alloc (.cells #[.string f.name, .slice ap f.parts.length kp] 43)).alloc (.cells #[.int .i64 0, .int .i64 0] 37)).alloc (.cells #[.int .i64 0, .int .i64 0] 37) := ⟨_, rfl⟩
  have hwX : Below w.heap.size w X := by rw [hX]; exact (by (repeat' (first | assumption | exact Below.refl _ _ | refine below_drew' ?_ | refine Below.setCell ?_ (by first | omega | (simp <;> omega)) _ | refine Below.alloc ?_ (by first | omega | (simp <;> omega)) _)))
  have g0 : X.heap[w.heap.size]? = some (.cells #[.string f.name, .slice ap f.parts.length kp] 43 (0, 0)) := by rw [hX]; exact (heap_alloc_old _ _ (by simp; omega)).trans ((heap_alloc_old _ _ (by simp)).trans (alloc_at _ _ rfl))
  have g1 : X.heap[w.heap.size + 1]? = some (.cells #[.int .i64 0, .int .i64 0] 37 (0, 0)) := by rw [hX]; exact (heap_alloc_old _ _ (by simp)).trans (alloc_at _ _ (by simp))
  have g2 : X.heap[w.heap.size + 1 + 1]? = some (.cells #[.int .i64 0, .int .i64 0] 37 (0, 0)) := by rw [hX]; exact alloc_at _ _ (by simp)
  have hpok : ∀ p ∈ f.parts, LePOk p := fun p hp => by obtain ⟨i, hi, rfl⟩ := List.getElem_of_mem hp; exact hf.part i hi
  have HPK := Lib.hid (fun i (h : i < f.parts.length) => part_bd (hf.part i h))
  have HBD := Lib.hid (fun k => how_bd (f.parts.take k) (fun p h => hpok p (List.mem_of_mem_take h)))
  have hl5 := hf.many
  have HP := Lib.hid (fun (V : World) (h : Below w.heap.size w V) => hp.mono h)
  have hcap := ho.1
  have HX := Lib.hid hX
  clear hX hp hpok hf
  go_enter Tryz.func8, Tryz.ntmps8
  go_upto_region 2 with (fail)
  rw [← HX.out]
  clear HX
  go_upto_region 3 with (fail)
  go_loopw [4] (fun i V => ∃ k : Nat, k ≤ f.parts.length ∧ i = .int .i64 k ∧ Below w.heap.size w V ∧ V.heap[w.heap.size]? = some (.cells #[.string f.name, .slice ap f.parts.length kp] 43 (0, 0)) ∧ V.heap[w.heap.size + 1]? = some (.cells #[.int .i64 0, .int .i64 0] 37 (0, 0)) ∧ V.heap[w.heap.size + 1 + 1]? = some (.cells #[.int .i64 (howLo (f.parts.take k)), .int .i64 (howHi (f.parts.take k))] 37 (0, 0))) (fun i _ => f.parts.length - (intOf i).toNat)
  case atStart => exact ⟨0, Nat.zero_le _, rfl, hwX, g0, g1, by rw [List.take_zero]; exact g2⟩
  case round =>
    clear g0 g1 g2 hwX
    rename World => V
    obtain ⟨k, hk, rfl, hbV, g0, g1, g2⟩ := hrel
    have c1 := blk_cell 1 g0 rfl
    have cz := lt_of_block g0
    simp only [List.getElem_toArray, List.getElem_cons_zero, List.getElem_cons_succ] at c1
    by_cases hlt : k < f.parts.length
    · obtain ⟨b, off, e0, hb, ⟨aw, cw, r0, r1, r2⟩, r3, r4⟩ := HP.out V hbV k hlt
      obtain ⟨p1, p2, p3, p4, p5⟩ := HPK.out k hlt
      have HL := Lib.hid (howLo_succ hlt)
      have HH := Lib.hid (howHi_succ hlt)
      have b1 := HBD.out k
      have bl : (f.parts.take k).length ≤ 5 := by rw [List.length_take]; omega
      generalize f.parts[k] = p at *
      generalize howLo (f.parts.take k) = lo at *
      generalize howHi (f.parts.take k) = hi at *
      have b2 : 0 ≤ lo ∧ lo ≤ 15 ∧ 0 ≤ hi ∧ hi ≤ 15 := by omega
      obtain ⟨b3, b4, b5, b6⟩ := b2
      have hkc : (k : Int) < (kp : Int) := by omega
      clear b1 bl r1 r2
      subst e0
      have SF : Hid (∀ W, Below V.heap.size V W → (fun W => Below V.heap.size V W ∧ W.cell? ⟨w.heap.size, 1, none⟩ = some (.slice (some ⟨b, off, none⟩) f.parts.length kp) ∧ W.cell? ⟨b, off + k * 3, none⟩ = some (.slice aw p.words.length cw) ∧ W.cell? ⟨b, off + k * 3 + 1, none⟩ = some (.int .i64 p.lo) ∧ W.cell? ⟨b, off + k * 3 + 2, none⟩ = some (.int .i64 p.hi) ∧ w.heap.size < W.heap.size ∧ b < W.heap.size) W) := Lib.hid (fun W h => ⟨h, cell_below h c1, cell_below h r0, cell_below h r3, cell_below h r4, Nat.lt_of_lt_of_le cz h.size, Nat.lt_of_lt_of_le hb h.size⟩)
      have G := Lib.hid (And.intro g0 (And.intro g1 g2))
      clear r0 r3 r4 hb g0 g1 g2
      go_upto_region 5 with (fail)
      clear c1 cz
      go_cut [5, 6] from 14 to 26 (fun u v W => u = .int .i64 (p.words.length : Int) ∧ v = .pointer (some ⟨V.heap.size, 0, none⟩) ∧ Below V.heap.size V W ∧ W.heap[V.heap.size]? = some (.cells #[.int .i64 p.lo, .int .i64 p.hi] 37 (0, 0)))
      case first =>
        have hV0 := below_drew' (Below.refl V.heap.size V)
        refine wp_only ?_
        refine wp_region_z (fun W => Below V.heap.size V W ∧ W.cell? ⟨w.heap.size, 1, none⟩ = some (.slice (some ⟨b, off, none⟩) f.parts.length kp) ∧ W.cell? ⟨b, off + k * 3, none⟩ = some (.slice aw p.words.length cw) ∧ W.cell? ⟨b, off + k * 3 + 1, none⟩ = some (.int .i64 p.lo) ∧ W.cell? ⟨b, off + k * 3 + 2, none⟩ = some (.int .i64 p.hi) ∧ w.heap.size < W.heap.size ∧ b < W.heap.size) 15 (by kernel_rfl) (SF.out V.drew hV0) (fun hHeld => ?_)
        (refine wpZ_take (i := 0) (v := ?_) rfl (by kernel_rfl) (by kernel_rfl) (by kernel_rfl) (by kernel_rfl) (fun _ _ _ h => h) (Or.inl ⟨by kernel_rfl, ?_⟩) (by assumption) ?_; rotate_left 1; (focus (intro w hSw; (try dsimp only at hSw); go_simp; first | done | with_reducible rfl)); simp only [Act.put, List.getElem_toArray, List.getElem_cons_succ, List.getElem_cons_zero, List.setIfInBounds_toArray, List.set_cons_succ, List.set_cons_zero])
        (refine wpZ_take (i := 1) (v := ?_) rfl (by kernel_rfl) (by kernel_rfl) (by kernel_rfl) (by kernel_rfl) (fun _ _ _ h => h) (Or.inl ⟨by kernel_rfl, ?_⟩) (by assumption) ?_; rotate_left 1; (focus (intro w hSw; (try dsimp only at hSw); go_simp; first | done | with_reducible rfl)); simp only [Act.put, List.getElem_toArray, List.getElem_cons_succ, List.getElem_cons_zero, List.setIfInBounds_toArray, List.set_cons_succ, List.set_cons_zero])
        (refine wpZ_take (i := 2) (v := ?_) rfl (by kernel_rfl) (by kernel_rfl) (by kernel_rfl) (by kernel_rfl) (fun _ _ _ h => h) (Or.inl ⟨by kernel_rfl, ?_⟩) (by assumption) ?_; rotate_left 1; (focus (intro w hSw; (try dsimp only at hSw); go_simp; first | done | with_reducible rfl)); simp only [Act.put, List.getElem_toArray, List.getElem_cons_succ, List.getElem_cons_zero, List.setIfInBounds_toArray, List.set_cons_succ, List.set_cons_zero])
        (refine wpZ_take (i := 3) (v := ?_) rfl (by kernel_rfl) (by kernel_rfl) (by kernel_rfl) (by kernel_rfl) (fun _ _ _ h => h) (Or.inl ⟨by kernel_rfl, ?_⟩) (by assumption) ?_; rotate_left 1; (focus (intro w hSw; (try dsimp only at hSw); go_simp; first | done | with_reducible rfl)); simp only [Act.put, List.getElem_toArray, List.getElem_cons_succ, List.getElem_cons_zero, List.setIfInBounds_toArray, List.set_cons_succ, List.set_cons_zero])
        (refine wpZ_take (i := 4) (v := ?_) rfl (by kernel_rfl) (by kernel_rfl) (by kernel_rfl) (by kernel_rfl) (fun _ _ _ h => h) (Or.inl ⟨by kernel_rfl, ?_⟩) (by assumption) ?_; rotate_left 1; (focus (intro w hSw; (try dsimp only at hSw); go_simp; first | done | with_reducible rfl)); simp only [Act.put, List.getElem_toArray, List.getElem_cons_succ, List.getElem_cons_zero, List.setIfInBounds_toArray, List.set_cons_succ, List.set_cons_zero])
        (refine wpZ_take (i := 5) (v := ?_) rfl (by kernel_rfl) (by kernel_rfl) (by kernel_rfl) (by kernel_rfl) (fun _ _ _ h => h) (Or.inl ⟨by kernel_rfl, ?_⟩) (by assumption) ?_; rotate_left 1; (focus (intro w hSw; (try dsimp only at hSw); go_simp; first | done | with_reducible rfl)); simp only [Act.put, List.getElem_toArray, List.getElem_cons_succ, List.getElem_cons_zero, List.setIfInBounds_toArray, List.set_cons_succ, List.set_cons_zero])
        (refine wpZ_take (i := 6) (v := ?_) rfl (by kernel_rfl) (by kernel_rfl) (by kernel_rfl) (by kernel_rfl) (fun _ _ _ h => h) (Or.inl ⟨by kernel_rfl, ?_⟩) (by assumption) ?_; rotate_left 1; (focus (intro w hSw; (try dsimp only at hSw); go_simp; first | done | with_reducible rfl)); simp only [Act.put, List.getElem_toArray, List.getElem_cons_succ, List.getElem_cons_zero, List.setIfInBounds_toArray, List.set_cons_succ, List.set_cons_zero])
        (refine wpZ_take (i := 7) (v := ?_) rfl (by kernel_rfl) (by kernel_rfl) (by kernel_rfl) (by kernel_rfl) (fun _ _ _ h => h) (Or.inl ⟨by kernel_rfl, ?_⟩) (by assumption) ?_; rotate_left 1; (focus (intro w hSw; (try dsimp only at hSw); go_simp; first | done | with_reducible rfl)); simp only [Act.put, List.getElem_toArray, List.getElem_cons_succ, List.getElem_cons_zero, List.setIfInBounds_toArray, List.set_cons_succ, List.set_cons_zero])
        (refine wpZ_take (i := 8) (v := ?_) rfl (by kernel_rfl) (by kernel_rfl) (by kernel_rfl) (by kernel_rfl) (fun _ _ _ h => h) (Or.inl ⟨by kernel_rfl, ?_⟩) (by assumption) ?_; rotate_left 1; (focus (intro w hSw; (try dsimp only at hSw); go_simp; first | done | with_reducible rfl)); simp only [Act.put, List.getElem_toArray, List.getElem_cons_succ, List.getElem_cons_zero, List.setIfInBounds_toArray, List.set_cons_succ, List.set_cons_zero])
        (refine wpZ_take (i := 9) (v := ?_) rfl (by kernel_rfl) (by kernel_rfl) (by kernel_rfl) (by kernel_rfl) (fun _ _ _ h => h) (Or.inl ⟨by kernel_rfl, ?_⟩) (by assumption) ?_; rotate_left 1; (focus (intro w hSw; (try dsimp only at hSw); go_simp; first | done | with_reducible rfl)); simp only [Act.put, List.getElem_toArray, List.getElem_cons_succ, List.getElem_cons_zero, List.setIfInBounds_toArray, List.set_cons_succ, List.set_cons_zero])
        (refine wpZ_take (i := 10) (v := ?_) rfl (by kernel_rfl) (by kernel_rfl) (by kernel_rfl) (by kernel_rfl) (fun _ _ _ h => h) (Or.inl ⟨by kernel_rfl, ?_⟩) (by assumption) ?_; rotate_left 1; (focus (intro w hSw; (try dsimp only at hSw); go_simp; first | done | with_reducible rfl)); simp only [Act.put, List.getElem_toArray, List.getElem_cons_succ, List.getElem_cons_zero, List.setIfInBounds_toArray, List.set_cons_succ, List.set_cons_zero])
        (refine wpZ_take (i := 11) (v := ?_) rfl (by kernel_rfl) (by kernel_rfl) (by kernel_rfl) (by kernel_rfl) (fun _ _ _ h => h) (Or.inl ⟨by kernel_rfl, ?_⟩) (by assumption) ?_; rotate_left 1; (focus (intro w hSw; (try dsimp only at hSw); go_simp; first | done | with_reducible rfl)); simp only [Act.put, List.getElem_toArray, List.getElem_cons_succ, List.getElem_cons_zero, List.setIfInBounds_toArray, List.set_cons_succ, List.set_cons_zero])
        (refine wpZ_take (i := 12) (v := ?_) rfl (by kernel_rfl) (by kernel_rfl) (by kernel_rfl) (by kernel_rfl) (fun _ _ _ h => h) (Or.inl ⟨by kernel_rfl, ?_⟩) (by assumption) ?_; rotate_left 1; (focus (intro w hSw; (try dsimp only at hSw); go_simp; first | done | with_reducible rfl)); simp only [Act.put, List.getElem_toArray, List.getElem_cons_succ, List.getElem_cons_zero, List.setIfInBounds_toArray, List.set_cons_succ, List.set_cons_zero])
        refine wpZ_ready (rs := [13]) (by kernel_rfl) (by simp) (AllZ.cons rfl (fun K hK => ?_) AllZ.nil)
        go_simp
        refine hK.out _ _ (fun _ => SF.out _ (below_drew' (al_onL V _))) ?_
        (try simp only [Act.put, List.getElem_toArray, List.getElem_cons_succ, List.getElem_cons_zero, List.setIfInBounds_toArray, List.set_cons_succ, List.set_cons_zero])
        clear hK
        obtain ⟨V1, hV1⟩ : ∃ V1 : World, V1 = (V.alloc (.cells #[.int .i64 0, .int .i64 0] 37)).drew := ⟨_, rfl⟩
        rw [← hV1]
        have hbV1 : Below V.heap.size V V1 := by rw [hV1]; exact below_drew' (al_onL V _)
        have hM1 : V1.heap[V.heap.size]? = some (.cells #[.int .i64 0, .int .i64 0] 37 (0, 0)) := by rw [hV1]; exact alloc_at V _ rfl
        clear hV1 hV0
        have w0 := blk_cell 0 hM1 rfl
        have w1 := blk_cell 1 hM1 rfl
        have v0 := blk_free 0 hM1
        have v1 := blk_free 1 hM1
        have vz := lt_of_block hM1
        simp only [List.getElem_toArray, List.getElem_cons_zero, List.getElem_cons_succ] at w0 w1
        have hM2 := Lib.hid (blk_set 1 (.int .i64 p.hi) (blk_set 0 (.int .i64 p.lo) hM1))
        have hb2 := Lib.hid ((hbV1.setCell (p := ⟨V.heap.size, 0, none⟩) (Nat.le_refl _) (.int .i64 p.lo)).setCell (p := ⟨V.heap.size, 1, none⟩) (Nat.le_refl _) (.int .i64 p.hi))
        have hHeld := SF.out _ hbV1
        clear hM1
        (refine wpZ_take (i := 14) (v := ?_) rfl (by kernel_rfl) (by kernel_rfl) (by kernel_rfl) (by kernel_rfl) (fun _ _ _ h => h) (Or.inl ⟨by kernel_rfl, ?_⟩) (by assumption) ?_; rotate_left 1; (focus (intro w hSw; (try dsimp only at hSw); go_simp; first | done | with_reducible rfl)); simp only [Act.put, List.getElem_toArray, List.getElem_cons_succ, List.getElem_cons_zero, List.setIfInBounds_toArray, List.set_cons_succ, List.set_cons_zero])
        refine wpZ_ready (rs := [15]) (by kernel_rfl) (by simp) (AllZ.cons rfl (fun K hK => ?_) AllZ.nil)
        (go_simp; refine hK.out _ _ (fun h => absurd rfl h) ?_; (try simp only [Act.put, List.getElem_toArray, List.getElem_cons_succ, List.getElem_cons_zero, List.setIfInBounds_toArray, List.set_cons_succ, List.set_cons_zero]); clear hK; refine wpZ_done (by kernel_rfl) ?_ _)
        dsimp only [onlyN]
        go_wp2
        go_meet
        case rel => exact ⟨rfl, rfl, hb2.out, hM2.out⟩
      case rest =>
        obtain ⟨rfl, rfl, hbW, gW⟩ := hcut
        rename World => W
        obtain ⟨g0, g1, g2⟩ := G.out
        replace g0 := (hbW.block _ (lt_of_block g0)).trans g0
        replace g1 := (hbW.block _ (lt_of_block g1)).trans g1
        replace g2 := (hbW.block _ (lt_of_block g2)).trans g2
        have x0 := blk_cell 0 g2 rfl
        have x1 := blk_cell 1 g2 rfl
        have f0 := blk_free 0 g2
        have f1 := blk_free 1 g2
        have xz := lt_of_block g2
        have y0 := blk_cell 0 gW rfl
        have y1 := blk_cell 1 gW rfl
        have yz := lt_of_block gW
        simp only [List.getElem_toArray, List.getElem_cons_zero, List.getElem_cons_succ] at x0 x1 y0 y1
        have hn2 : w.heap.size + 1 + 1 < V.heap.size := lt_of_block G.out.2.2
        have hwW := Lib.hid (((hbV.trans (hbW.mono hbV.size)).setCell (p := ⟨w.heap.size + 1 + 1, 0, none⟩) (by simp; omega) (.int .i64 (lo + (p.words.length : Int) + p.lo))).setCell (p := ⟨w.heap.size + 1 + 1, 1, none⟩) (by simp; omega) (.int .i64 (hi + (p.words.length : Int) + p.hi)))
        have G9 := Lib.hid (show _ ∧ _ ∧ _ from ⟨(Below.heap_setCell (W.setCell ⟨w.heap.size + 1 + 1, 0, none⟩ (.int .i64 (lo + (p.words.length : Int) + p.lo))) ⟨w.heap.size + 1 + 1, 1, none⟩ (.int .i64 (hi + (p.words.length : Int) + p.hi)) _ (by simp; omega)).trans ((Below.heap_setCell _ _ _ _ (by simp; omega)).trans g0), (Below.heap_setCell (W.setCell ⟨w.heap.size + 1 + 1, 0, none⟩ (.int .i64 (lo + (p.words.length : Int) + p.lo))) ⟨w.heap.size + 1 + 1, 1, none⟩ (.int .i64 (hi + (p.words.length : Int) + p.hi)) _ (by simp)).trans ((Below.heap_setCell _ _ _ _ (by simp)).trans g1), blk_set 1 (.int .i64 (hi + (p.words.length : Int) + p.hi)) (blk_set 0 (.int .i64 (lo + (p.words.length : Int) + p.lo)) g2)⟩)
        clear G g0 g1 g2 gW
        go_wp2
        go_roundw
        case rel => exact ⟨k + 1, by omega, by go_num, hwW.out, G9.out.1, G9.out.2.1, by rw [HL.out, HH.out, ← Int.add_assoc, ← Int.add_assoc]; exact G9.out.2.2⟩
        case measure => simp [intOf]; omega
    · obtain rfl : k = f.parts.length := by omega
      rw [List.take_length] at g2
      have x0 := blk_cell 0 g2 rfl
      have x1 := blk_cell 1 g2 rfl
      have xz := lt_of_block g2
      have y0 := blk_cell 0 g1 rfl
      have y1 := blk_cell 1 g1 rfl
      have f0 := blk_free 0 g1
      have f1 := blk_free 1 g1
      have yz := lt_of_block g1
      simp only [List.getElem_toArray, List.getElem_cons_zero, List.getElem_cons_succ] at x0 x1 y0 y1
      clear g0 g1 g2
      go_wp2
      refine bodyPost_ret (v := .agg #[.int .i64 (howLo f.parts), .int .i64 (howHi f.parts)]) ?_ rfl ⟨rfl, (hbV.setCell (by simp) _).setCell (by simp) _⟩
      rw [results_one rfl]
      go_simp
end Go.Proofs.YtelmponkmmfffaaGreat
namespace Go.Proofs.YtelmponkmmfffaaGreat
open Go Go.RowKit
theorem bytes_bd {w : World} {a : Option Addr} {l : List Int} (hi : BytesC w a l) : ∀ x ∈ l, 0 ≤ x ∧ x ≤ 255 := fun x hx => by
  obtain ⟨i, h, rfl⟩ := List.getElem_of_mem hx
  obtain ⟨b, off, -, -, -, h1, h2⟩ := hi i h
  exact ⟨h1, h2⟩
end Go.Proofs.YtelmponkmmfffaaGreat
namespace Go.Proofs.YtelmponkmmfffaaGreat
open Go Go.RowKit Go.Shelf
theorem let_waysG {s : LeS} {h : DeH} {x : List Int} (hv : LeValid s) (h0 : 0 < s.forms.length) (i : Nat) : 0 < (waysG (tParts s h i) (letW s h x i)).2.2 := by
  have hrk := rooms_ok _ (tPart_ok (h := h) hv h0 i)
  have hr5 : (roomsF (tParts s h i)).length ≤ 5 := Nat.le_trans (rooms_len _) (tParts_ok hv h0 i).many
  have hwk := ways_ok (fun m => fitL (shapeF (tParts s h i) m) (letW s h x i)) (roomsF (tParts s h i)).length hr5 (countsF (roomsF (tParts s h i))) (counts_ok _ hrk)
  have h1 := let_ways (x := x) (h := h) hv h0 i
  refine Nat.pos_of_ne_zero (fun e => ?_)
  have h2 := (hwk.none e).2
  unfold waysF at h1
  have h3 : ((countsF (roomsF (tParts s h i))).filter fun m => fitL (shapeF (tParts s h i) m) (letW s h x i)) = [] := by
    rw [List.filter_eq_nil_iff]
    intro m hm e
    rw [h2 m hm] at e
    cases e
  rw [h3] at h1
  simp at h1
theorem cust_snoc (p : List DeC) (n : ByteArray) (a b c d : Int) : flatC custCells p ++ [.string n, .int .i64 a, .int .i64 b, .int .i64 c, .int .i64 d] = flatC custCells (p ++ [⟨n, a, b, c, d⟩]) := flatC_snoc (f := custCells) p ⟨n, a, b, c, d⟩
theorem SrcAt.cust1 (W : World) (n : ByteArray) (a b c d : Int) (t : TypeId) : SrcAt (W.alloc (.cells #[.string n, .int .i64 a, .int .i64 b, .int .i64 c, .int .i64 d] t)) (.slice (some ⟨W.heap.size, 0, none⟩) 1 1) 1 5 [.string n, .int .i64 a, .int .i64 b, .int .i64 c, .int .i64 d] :=
  SrcAt.box (vs := [.string n, .int .i64 a, .int .i64 b, .int .i64 c, .int .i64 d]) W (custCells_one ⟨n, a, b, c, d⟩) t
/-- What the call has collected reads as bytes. -/
theorem bytes_own {w : World} {base : Nat} {e : TypeId} {v : Value} {n : Nat} {l : List Int} (h : w.ownsRow base e 1 v n (l.map (Value.int .u8))) (hb : ∀ y ∈ l, 0 ≤ y ∧ y ≤ 255) : ∃ a c, v = .slice a l.length c ∧ SlOk a l.length c ∧ BytesC w a l := by
  have hn : l.length = n := by simpa using h.1
  subst hn
  rcases h.2 with ⟨rfl, h0⟩ | ⟨g, cap, cur, rfl, _, hg, h1, h2, h3, h4⟩
  · have : l = [] := List.eq_nil_of_length_eq_zero h0
    subst this
    exact ⟨none, 0, rfl, ⟨Nat.le_refl _, by omega, fun _ => rfl⟩, fun i hi => absurd hi (Nat.not_lt_zero i)⟩
  · have hm : maxLen = 9223372036854775807 := rfl
    refine ⟨some ⟨g, 0, none⟩, cap, rfl, ⟨h1, by omega, fun h => by cases h⟩, fun i hi => ⟨g, 0, rfl, (Array.getElem?_eq_some_iff.1 hg).1, ?_, hb _ (List.getElem_mem hi)⟩⟩
    have := h.cells (g := g) rfl i (.int .u8 l[i]) (by simp [hi])
    simpa [Addr.add_lit] using this
/-- What is owned stays while another slice of another type grows. -/
theorem own_parted {W V : World} {b1 b2 : Nat} {e1 e2 : TypeId} {s1 s2 n m : Nat} {v u : Value} {xs ys : List Value} (h : W.ownsRow b1 e1 s1 v n xs) (hu : W.ownsRow b2 e2 s2 u m ys) (hne : e1 ≠ e2) (hg : W.grownBy V u.ownBlock) : V.ownsRow b1 e1 s1 v n xs := by
  refine h.kept hg ?_
  rcases h.2 with ⟨rfl, _⟩ | ⟨g, cap, cur, rfl, _, hgg, _⟩
  · exact .inl rfl
  · refine .inr (fun e => ?_)
    rcases hu.2 with ⟨rfl, _⟩ | ⟨g2, cap2, cur2, rfl, _, hgg2, _⟩
    · simp [Value.ownBlock] at e
    · have : g = g2 := by simpa [Value.ownBlock] using e
      subst this
      rw [hgg] at hgg2
      have := Option.some.inj hgg2
      injection this with _ ht _
      exact hne ht
/-- The memory of the loop: the hall told so far, and how long letters are. -/
structure DictI (Y V : World) (T : Nat) (aw : Option Addr) (kw : Nat) (s : LeS) (h : DeH) (x : List Int) (k m : Nat) (a : Option Addr) (c : Nat) (g : Value) : Prop where
  q : Below Y.heap.size Y V
  tw : V.heap[T]? = some (.cells #[.int .i64 h.wax, .slice aw h.writers.length kw, .slice a (toldTo s h k).length c] 28 (0, 0))
  own : V.ownsRow (T + 1) 39 5 (.slice a (toldTo s h k).length c) (toldTo s h k).length (flatC custCells (toldTo s h k))
  lg : V.ownsRow (T + 1) 3 1 g m ((longTo s h x m).map (Value.int .i64))
section
variable {Y V V' : World} {T : Nat} {aw a : Option Addr} {kw k m c : Nat} {s : LeS} {h : DeH} {x : List Int} {g : Value}
theorem DictI.on (i : DictI Y V T aw kw s h x k m a c g) (hb : Below V.heap.size V V') : DictI Y V' T aw kw s h x k m a c g :=
  ⟨i.q.trans (hb.mono i.q.size), (hb.block _ (lt_of_block i.tw)).trans i.tw, own_below i.own hb, own_below i.lg hb⟩
theorem DictI.app {V2 : World} {a9 : Option Addr} {c9 : Nat} (i : DictI Y V T aw kw s h x k m a c g) (hT : Y.heap.size ≤ T) (hb : Below V.heap.size V V2)
    (ho : V2.ownsRow V.heap.size 39 5 (.slice a9 (toldTo s h (k + 1)).length c9) (toldTo s h (k + 1)).length (flatC custCells (toldTo s h (k + 1)))) :
    DictI Y (V2.setCell ⟨T, 2, none⟩ (.slice a9 (toldTo s h (k + 1)).length c9)) T aw kw s h x (k + 1) m a9 c9 g := by
  have i2 := i.on hb
  have hz := lt_of_block i.tw
  refine ⟨i2.q.setCell hT _, ?_, ?_, ?_⟩
  · have := blk_set 2 (.slice a9 (toldTo s h (k + 1)).length c9) i2.tw
    exact this
  · exact ownsRow_setCell_other (own_base ho (by omega)) (a := ⟨T, 2, none⟩) (fun e => by have h1 := (ho.lt _ e).1; simp only at h1; omega) _
  · exact ownsRow_setCell_other i2.lg (a := ⟨T, 2, none⟩) (fun e => by have h1 := (i2.lg.lt _ e).1; simp only at h1; omega) _
theorem DictI.long {V2 : World} {o : Obj} {g' : Value} (i : DictI Y V T aw kw s h x k m a c g) (hT : Y.heap.size ≤ T) (hg : (V.alloc o).grownBy V2 g.ownBlock)
    (ho : V2.ownsRow (T + 1) 3 1 g' (m + 1) ((longTo s h x m).map (Value.int .i64) ++ [.int .i64 (1 + ((letW s h x m).length : Int))])) : DictI Y V2 T aw kw s h x k (m + 1) a c g' := by
  have hz := lt_of_block i.tw
  refine ⟨app_next i.q (Nat.le_refl _) (by omega) i.lg hg, ?_, ?_, ?_⟩
  · exact (hg.block T (by simp; omega) (fun e => by have := (i.lg.lt _ e.symm).1; omega)).trans ((heap_alloc_old _ _ hz).trans i.tw)
  · exact own_parted (i.own.alloc o) (i.lg.alloc o) (by decide) hg
  · rw [longTo_succ, List.map_append]
    exact ho
/-- At the end the hall lies there. -/
theorem DictI.hall {ac : Option Addr} {kc : Nat} (i : DictI Y V T aw kw s h x h.customers.length m a c g) (hm : HallC Y aw ac kw kc h) : HallC V aw a kw c (toldH s h) := by
  have h1 := hm.mono i.q
  obtain ⟨_, a', c', e, h2, h3⟩ := custs_own i.own
  cases e
  refine ⟨h1.okw, h2, h1.writers, h3, h1.wsize, fun y hy => ?_⟩
  obtain ⟨j, hj, rfl⟩ := List.mem_map.1 (show y ∈ (List.range h.customers.length).map (toldC s h) from hy)
  have hj := List.mem_range.1 hj
  show (customerAt h j).name.size ≤ _
  unfold customerAt
  rw [List.getElem?_eq_getElem hj]
  exact h1.csize _ (List.getElem_mem hj)
theorem DictI.longs (i : DictI Y V T aw kw s h x k m a c g) : ∃ al cl, g = .slice al (longTo s h x m).length cl ∧ SlOk al (longTo s h x m).length cl ∧ IntsC V al (longTo s h x m) := by
  have hl := i.lg
  generalize longTo s h x m = l at hl
  have hn : l.length = m := by simpa using hl.1
  rw [← hn] at hl
  rcases hl.2 with ⟨rfl, h0⟩ | ⟨g, cap, cur, rfl, _, hg, h1, h2, h3, h4⟩
  · have : l = [] := List.eq_nil_of_length_eq_zero h0
    subst this
    exact ⟨none, 0, rfl, ⟨Nat.le_refl _, by omega, fun _ => rfl⟩, fun i hi => absurd hi (Nat.not_lt_zero i)⟩
  · have hm : maxLen = 9223372036854775807 := rfl
    refine ⟨some ⟨g, 0, none⟩, cap, rfl, ⟨h1, by omega, fun h => by cases h⟩, fun i hi => ⟨g, 0, rfl, (Array.getElem?_eq_some_iff.1 hg).1, ?_⟩⟩
    have := hl.cells (g := g) rfl i (.int .i64 l[i]) (by simp [hi])
    simpa [Addr.add_lit] using this
end
end Go.Proofs.YtelmponkmmfffaaGreat
namespace Go.Proofs.YtelmponkmmfffaaGreat
open Go Go.RowKit Go.Shelf
set_option maxRecDepth 100000 in
set_option maxHeartbeats 4000000 in
theorem LPartR_any (aw : Option Addr) (cw : Nat) (p : LeP) (w : World) (ho : SlOk aw p.words.length cw) (hi : StrsC w aw p.words) (hlo : (Lit.int .i64 p.lo).wf = true) (hhi : (Lit.int .i64 p.hi).wf = true) :
    Calls Tryz.prog 16 #[.agg #[.slice aw p.words.length cw, .int .i64 p.lo, .int .i64 p.hi]] w fun e w' => ∃ r : Int, e = .returned (.int .i64 r) ∧ Hid (r = 0 → LePOk p) ∧ Below w.heap.size w w' := by
  obtain ⟨X, hX⟩ : ∃ X : World, X = w.alloc (.cells #[.slice aw p.words.length cw, .int .i64 p.lo, .int .i64 p.hi] 62) := ⟨_, rfl⟩
  have hwX : Below w.heap.size w X := by rw [hX]; exact (Below.refl _ w).alloc (Nat.le_refl _) _
  have g1 : X.heap[w.heap.size]? = some (.cells #[.slice aw p.words.length cw, .int .i64 p.lo, .int .i64 p.hi] 62 (0, 0)) := by rw [hX]; exact alloc_at _ _ rfl
  replace g1 := fun (V : World) (h : Below X.heap.size X V) => (h.block _ (lt_of_block g1)).trans g1
  have HC : Hid (∀ V, Below X.heap.size X V → (V.cell? ⟨w.heap.size, 0, none⟩ = some (.slice aw p.words.length cw) ∧ V.cell? ⟨w.heap.size, 1, none⟩ = some (.int .i64 p.lo) ∧ V.cell? ⟨w.heap.size, 2, none⟩ = some (.int .i64 p.hi) ∧ w.heap.size < V.heap.size)) := Lib.hid (fun V h => ⟨blk_cell 0 (g1 V h) rfl, blk_cell 1 (g1 V h) rfl, blk_cell 2 (g1 V h) rfl, lt_of_block (g1 V h)⟩)
  have hlen := ho.len
  have D := LWordsR_any aw p.words cw X hlen (hi.mono hwX)
  have R := fun (V : World) => LRoomy_any aw p.words.length cw p.lo p.hi V
  have EQ := fun W => spo_eq p.lo p.hi 0 0 hlo hhi (by decide) (by decide) W
  have C1 := fun W => In_any p.lo 0 3 W
  have i1 := @inB_iff p.lo 0 3
  generalize inB p.lo 0 3 = c1 at C1 i1
  have C2 := fun W => In_any p.hi 1 3 W
  have i2 := @inB_iff p.hi 1 3
  generalize inB p.hi 1 3 = c2 at C2 i2
  have HOK : Hid (p.words.length ≤ 3 → (∀ i (h : i < p.words.length), wordB p.words[i] = true) → (p.words.length ≠ 0 → p.lo = 0 ∧ p.hi = 0) → (p.words.length = 0 → c1 = true ∧ c2 = true ∧ p.lo ≤ p.hi) → LePOk p) := Lib.hid (fun q1 q2 q3 q4 => ⟨q1, q2, fun h => q3 (fun e => h (List.eq_nil_of_length_eq_zero e)), fun h => by
    obtain ⟨z1, z2, z3⟩ := q4 (by rw [h]; rfl)
    have y1 := i1.1 z1
    have y2 := i2.1 z2
    omega⟩)
  obtain ⟨y0, y1, y2, y3⟩ := HC.out X (Below.refl _ _)
  clear g1 hi i1 i2 ho
  replace C1 := Lib.hid C1
  replace C2 := Lib.hid C2
  replace D := Lib.hid D
  replace R := Lib.hid R
  have HX := Lib.hid hX
  clear hX hlo hhi
  go_enter Tryz.func16, Tryz.ntmps16
  go_upto_region 1 with (fail)
  rw [← HX.out]
  clear HX
  by_cases h3 : 3 < p.words.length
  · have h3i : (3 : Int) < (p.words.length : Int) := by omega
    clear EQ HOK
    go_wp2
    go_ret
    exact ⟨3, rfl, Lib.hid (fun h => by cases h), hwX⟩
  · have h3i : ¬ (3 : Int) < (p.words.length : Int) := by omega
    go_upto_region 3 with (fail)
    go_upto_if 10 with (go_at_call 62; go_must ((with_reducible refine D.out.mono ?_); rintro e w' ⟨⟨b, rfl, hb⟩, hw9⟩; obtain rfl := hw9.symm; replace hb := Lib.hid hb; dsimp only))
    cases b
    · clear EQ HOK
      go_wp2
      go_ret
      exact ⟨6, rfl, Lib.hid (fun h => by cases h), hwX⟩
    · have HW := Lib.hid (hb.out rfl)
      by_cases h0 : p.words.length = 0
      · have R2 := R.out
        have hd := decide_eq_true h0
        simp only [hd] at R2
        replace R2 := Lib.hid R2
        have HOK2 := Lib.hid (fun q => HOK.out (by omega) HW.out (fun h => absurd h0 h) (fun _ => q))
        clear HOK EQ hd R D h0 h3
        go_upto_region 9 with (go_at_call 63; go_must ((with_reducible refine (R2.out _).mono ?_); rintro e w3 ⟨rfl, hb3⟩; obtain ⟨z0, z1, z2, z3⟩ := HC.out _ hb3; dsimp only))
        have hw3 := hwX.trans (hb3.mono hwX.size)
        clear y0 y1 y2 y3 hb3 z0
        cases c1
        · go_wp2_with (go_at_call 14; go_must (first | ((with_reducible refine (C1.out _).mono ?_); rintro e w' ⟨rfl, hw9⟩; obtain rfl := hw9.symm; dsimp only) | ((with_reducible refine (C2.out _).mono ?_); rintro e w' ⟨rfl, hw9⟩; obtain rfl := hw9.symm; dsimp only)))
          go_ret
          exact ⟨7, rfl, Lib.hid (fun h => by cases h), hw3⟩
        · cases c2
          · go_wp2_with (go_at_call 14; go_must (first | ((with_reducible refine (C1.out _).mono ?_); rintro e w' ⟨rfl, hw9⟩; obtain rfl := hw9.symm; dsimp only) | ((with_reducible refine (C2.out _).mono ?_); rintro e w' ⟨rfl, hw9⟩; obtain rfl := hw9.symm; dsimp only)))
            go_ret
            exact ⟨7, rfl, Lib.hid (fun h => by cases h), hw3⟩
          · by_cases hlh : p.hi < p.lo
            · go_wp2_with (go_at_call 14; go_must (first | ((with_reducible refine (C1.out _).mono ?_); rintro e w' ⟨rfl, hw9⟩; obtain rfl := hw9.symm; dsimp only) | ((with_reducible refine (C2.out _).mono ?_); rintro e w' ⟨rfl, hw9⟩; obtain rfl := hw9.symm; dsimp only)))
              go_ret
              exact ⟨2, rfl, Lib.hid (fun h => by cases h), hw3⟩
            · have HP := Lib.hid (HOK2.out ⟨rfl, rfl, by omega⟩)
              go_wp2_with (go_at_call 14; go_must (first | ((with_reducible refine (C1.out _).mono ?_); rintro e w' ⟨rfl, hw9⟩; obtain rfl := hw9.symm; dsimp only) | ((with_reducible refine (C2.out _).mono ?_); rintro e w' ⟨rfl, hw9⟩; obtain rfl := hw9.symm; dsimp only)))
              go_ret
              exact ⟨0, rfl, Lib.hid (fun _ => HP.out), hw3⟩
      · have R2 := R.out
        have hd := decide_eq_false h0
        simp only [hd] at R2
        replace R2 := Lib.hid R2
        have HOK2 := Lib.hid (fun q => HOK.out (by omega) HW.out (fun _ => q) (fun h => absurd h h0))
        clear HOK hd R D h0 h3 C1 C2
        by_cases hz : p.lo = 0 ∧ p.hi = 0
        · have hz2 := decide_eq_true hz
          simp only [hz2] at EQ
          have HP := Lib.hid (HOK2.out hz)
          clear HOK2 hz hz2
          go_wp2_with (go_at_call 63; go_must ((with_reducible refine (R2.out _).mono ?_); rintro e w3 ⟨rfl, hb3⟩; obtain ⟨z0, z1, z2, z3⟩ := HC.out _ hb3; dsimp only))
          go_ret
          exact ⟨0, rfl, Lib.hid (fun _ => HP.out), hwX.trans (hb3.mono hwX.size)⟩
        · have hz2 := decide_eq_false hz
          simp only [hz2] at EQ
          clear HOK2 hz hz2
          go_wp2_with (go_at_call 63; go_must ((with_reducible refine (R2.out _).mono ?_); rintro e w3 ⟨rfl, hb3⟩; obtain ⟨z0, z1, z2, z3⟩ := HC.out _ hb3; dsimp only))
          go_ret
          exact ⟨2, rfl, Lib.hid (fun h => by cases h), hwX.trans (hb3.mono hwX.size)⟩
end Go.Proofs.YtelmponkmmfffaaGreat
