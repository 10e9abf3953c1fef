/- What is proved here: what the program answers at the laws' book of layer 1. No condition. -/
/- What is proved here: the contract of Why of layer 3. Conditions: the town is valid; two mentions that differ. -/
import Derived.Test.YtklconegomgjaaaGreatPeTownXG
import Derived.Test.YtklconegomgjaaaGreatEaCommonG
import Derived.Test.YtklconegomgjaaaGreatEaOddG
import Derived.Test.YtklconegomgjaaaGreatEaSpell
import Derived.Test.YtklconegomgjaaaGreatEaFlawG
import Derived.Test.YtklconegomgjaaaGreatPeWiderG
set_option linter.unusedVariables false
set_option linter.unusedSimpArgs false
namespace Go.Proofs.YtklconegomgjaaaGreat
open Go Go.RowKit Go.Shelf

/-- A list that is given, with an error. -/
def GivesE (w : World) (l : List Int) (er : Int) (e : Ending) (w' : World) : Prop := ∃ a c, e = .returned (.tuple #[.slice a l.length c, .int .i64 er]) ∧ SlOk a l.length c ∧ IntsC w' a l ∧ Below w.heap.size w w'
theorem GivesE.old {w V : World} {o : Obj} {l : List Int} {er : Int} {e : Ending} {w' : World} (h : GivesE (w.alloc o) l er e w') : GivesE w l er e w' := by
  obtain ⟨a, c, h1, h2, h3, h4⟩ := h
  exact ⟨a, c, h1, h2, h3, ((Below.refl _ w).alloc (Nat.le_refl _) o).trans (h4.mono (by simp))⟩
theorem givesE_of {w w' : World} {v : Value} {l m : List Int} {er : Int} {e : Ending} (he : e = .returned (.tuple #[v, .int .i64 er])) (h : IntsN w.heap.size w' v m) (hl : m = l) (hb : Below w.heap.size w w') : GivesE w l er e w' := by
  subst hl
  obtain ⟨a, c, rfl, h1, h2, -⟩ := h
  exact ⟨a, c, he, h1, h2, hb⟩
def GivesV (w : World) (v : Value) (e : Ending) (w' : World) : Prop := e = .returned v ∧ Below w.heap.size w w'
theorem GivesV.old {w V : World} {o : Obj} {v : Value} {e : Ending} {w' : World} (h : GivesV (w.alloc o) v e w') : GivesV w v e w' := ⟨h.1, ((Below.refl _ w).alloc (Nat.le_refl _) o).trans (h.2.mono (by simp))⟩
@[reducible] def exBV (a1 a2 : Option Addr) : Value := .agg #[.int .i64 3, .slice a1 2 2, .slice a2 4 4]
theorem ok_two : HeardOk 3 [2, 1] := ⟨by decide, by decide⟩
theorem ok_zero : HeardOk 3 [2, 0] := ⟨by decide, by decide⟩
theorem ok_nn : HeardOk 3 [0, 0] := ⟨by decide, by decide⟩
theorem odd_lt {c : Nat} (h : oddC exBook c = true) : c < 16 := by
  unfold oddC at h
  rw [Bool.or_eq_true] at h
  rcases h with h | h
  · have : c = 2 ^ exBook.spells.length - 1 := eq_of_beq h
    have e : (2 : Nat) ^ exBook.spells.length - 1 = 15 := by decide
    omega
  · obtain ⟨x, _, hx⟩ := List.any_eq_true.1 h
    rw [Bool.and_eq_true] at hx
    have h2 := eq_of_beq hx.2
    have h3 : c ≤ 2 ^ exBook.spells.length - 1 := by rw [← h2]; exact Nat.and_le_left
    have e : (2 : Nat) ^ exBook.spells.length - 1 = 15 := by decide
    omega
theorem odd_is {c : Nat} (h : oddC exBook c = true) (hm : ∀ c', oddC exBook c' = true → fewer (bitsList c' exBook.spells.length) (bitsList c exBook.spells.length) = false) : c = 2 := by
  rcases exBook_odd ⟨c, odd_lt h⟩ h with e | e
  · exact e
  · have h2 := hm 2 exBook_odd1
    have h3 : fewer (bitsList 2 4) (bitsList c 4) = false := h2
    rw [e] at h3
    cases h3
section
variable (a1 a2 : Option Addr) (w : World)
set_option maxRecDepth 100000
theorem X_Count (hm : BookC w a1 a2 2 4 exBook) : Calls Tryz.prog 22 #[exBV a1 a2, .int .i64 0] w (GivesV w (.tuple #[.int .i64 2, .int .i64 0])) :=
  (ECount_any a1 a2 2 4 exBook 0 w hm exBook_valid (by decide)).mono fun e w' ⟨h1, h2⟩ => ⟨by rw [h1, show (comN exBook (2 ^ 0)).length = 2 from exBook_count0]; rfl, h2⟩
theorem X_EFirst (hm : BookC w a1 a2 2 4 exBook) : Calls Tryz.prog 23 #[exBV a1 a2, .int .i64 1] w (GivesE w [2] 0) :=
  (EFirst_any a1 a2 2 4 exBook 1 w hm exBook_valid (by decide)).mono fun e w' ⟨v, h1, h2, h3⟩ => givesE_of h1 h2 exBook_first1 h3
theorem X_Reads1 (hm : BookC w a1 a2 2 4 exBook) : Calls Tryz.prog 24 #[exBV a1 a2, .int .i64 1, .slice (some ⟨w.heap.size, 0, none⟩) 2 2] (w.alloc (.cells #[.int .i64 2, .int .i64 1] 3)) (GivesV w (.tuple #[.bool true, .int .i64 0])) :=
  (EReads_any a1 a2 2 4 exBook 1 (some ⟨w.heap.size, 0, none⟩) [2, 1] 2 _ (hm.mono (alE_on w _)) exBook_valid (by decide) ⟨Nat.le_refl _, by decide, fun h => by cases h⟩ (intsE_blk (alloc_atE _ _ rfl)) ok_two (by simp)).mono fun e w' ⟨h1, h2⟩ => GivesV.old (V := w) ⟨by rw [h1, exBook_reads.1], h2⟩
theorem X_Reads2 (hm : BookC w a1 a2 2 4 exBook) : Calls Tryz.prog 24 #[exBV a1 a2, .int .i64 1, .slice (some ⟨w.heap.size, 0, none⟩) 2 2] (w.alloc (.cells #[.int .i64 2, .int .i64 0] 3)) (GivesV w (.tuple #[.bool false, .int .i64 0])) :=
  (EReads_any a1 a2 2 4 exBook 1 (some ⟨w.heap.size, 0, none⟩) [2, 0] 2 _ (hm.mono (alE_on w _)) exBook_valid (by decide) ⟨Nat.le_refl _, by decide, fun h => by cases h⟩ (intsE_blk (alloc_atE _ _ rfl)) ok_zero (by simp)).mono fun e w' ⟨h1, h2⟩ => GivesV.old (V := w) ⟨by rw [h1, exBook_reads.2], h2⟩
theorem X_Alike (hm : BookC w a1 a2 2 4 exBook) (i j : Nat) (r : Int) (hi : i < 4) (hj : j < 4) (hij : i ≠ j) (hr : alikeN exBook i j = r) : Calls Tryz.prog 8 #[exBV a1 a2, .int .i64 (i : Int), .int .i64 (j : Int)] w (GivesV w (.tuple #[.int .i64 r, .int .i64 0])) :=
  (EAlike_any a1 a2 2 4 exBook i j w hm exBook_valid hi hj hij).mono fun e w' ⟨h1, h2⟩ => ⟨by rw [h1, hr], h2⟩
theorem X_Common1 (hm : BookC w a1 a2 2 4 exBook) : Calls Tryz.prog 25 #[exBV a1 a2, .slice (some ⟨w.heap.size, 0, none⟩) 3 3] (w.alloc (.cells #[.int .i64 0, .int .i64 2, .int .i64 3] 3)) (GivesE w [2, 0] 0) :=
  (ECommon_any a1 a2 2 4 exBook (some ⟨w.heap.size, 0, none⟩) [0, 2, 3] 3 _ (hm.mono (alE_on w _)) exBook_valid ⟨Nat.le_refl _, by decide, fun h => by cases h⟩ (intsE_blk (l := [0, 2, 3]) (alloc_atE _ _ rfl)) (by unfold incr; decide) (by simp)).mono fun e w' ⟨v, h1, h2, h3⟩ => by
    rw [show setOf [0, 2, 3] = 13 from by decide, exBook_common.1] at h1 h2
    exact GivesE.old (V := w) (givesE_of h1 h2 rfl h3)
theorem X_Common2 (hm : BookC w a1 a2 2 4 exBook) : Calls Tryz.prog 25 #[exBV a1 a2, .slice (some ⟨w.heap.size, 0, none⟩) 2 2] (w.alloc (.cells #[.int .i64 1, .int .i64 2] 3)) (GivesE w [] 9) :=
  (ECommon_any a1 a2 2 4 exBook (some ⟨w.heap.size, 0, none⟩) [1, 2] 2 _ (hm.mono (alE_on w _)) exBook_valid ⟨Nat.le_refl _, by decide, fun h => by cases h⟩ (intsE_blk (l := [1, 2]) (alloc_atE _ _ rfl)) (by unfold incr; decide) (by simp)).mono fun e w' ⟨v, h1, h2, h3⟩ => by
    rw [show setOf [1, 2] = 6 from by decide, exBook_common.2] at h1 h2
    exact GivesE.old (V := w) (givesE_of h1 h2 rfl h3)
theorem X_Odd (hm : BookC w a1 a2 2 4 exBook) : Calls Tryz.prog 26 #[exBV a1 a2] w (GivesE w [1] 0) :=
  (EOdd_any a1 a2 2 4 exBook w hm exBook_valid).mono fun e w' ⟨v, c, h1, h2, h3, h4, h5⟩ => by
    have e := odd_is h3 h4
    subst e
    exact givesE_of h1 h2 (by decide) h5
theorem X_Spell1 (hm : BookC w a1 a2 2 4 exBook) : Calls Tryz.prog 27 #[exBV a1 a2, .int .i64 0, .slice (some ⟨w.heap.size, 0, none⟩) 2 2] (w.alloc (.cells #[.int .i64 2, .int .i64 1] 3)) (GivesV w (.tuple #[.string ⟨#[107, 101]⟩, .int .i64 0])) :=
  (ESpell_any a1 a2 2 4 exBook 0 (some ⟨w.heap.size, 0, none⟩) [2, 1] 2 [107, 101] _ (hm.mono (alE_on w _)) exBook_valid (by decide) ⟨Nat.le_refl _, by decide, fun h => by cases h⟩ (intsE_blk (l := [2, 1]) (alloc_atE _ _ rfl)) ok_two (by simp) (by unfold NoBoth; decide +kernel) exBook_spell.1).mono fun e w' ⟨h1, h2⟩ => GivesV.old (V := w) ⟨by rw [h1]; rfl, h2⟩
theorem X_Spell2 (hm : BookC w a1 a2 2 4 exBook) : Calls Tryz.prog 27 #[exBV a1 a2, .int .i64 1, .slice (some ⟨w.heap.size, 0, none⟩) 2 2] (w.alloc (.cells #[.int .i64 0, .int .i64 0] 3)) (GivesV w (.tuple #[.string ⟨#[110, 110]⟩, .int .i64 0])) :=
  (ESpell_any a1 a2 2 4 exBook 1 (some ⟨w.heap.size, 0, none⟩) [0, 0] 2 [110, 110] _ (hm.mono (alE_on w _)) exBook_valid (by decide) ⟨Nat.le_refl _, by decide, fun h => by cases h⟩ (intsE_blk (l := [0, 0]) (alloc_atE _ _ rfl)) ok_nn (by simp) (by unfold NoBoth; decide +kernel) exBook_spell.2).mono fun e w' ⟨h1, h2⟩ => GivesV.old (V := w) ⟨by rw [h1]; rfl, h2⟩
theorem X_Name1 : Calls Tryz.prog 29 #[.string ⟨#[97, 46, 57]⟩] w (GivesV w (.bool true)) :=
  (EarName_any ⟨#[97, 46, 57]⟩ w (by decide)).mono fun e w' ⟨h1, h2⟩ => ⟨by rw [h1, show nameB ⟨#[97, 46, 57]⟩ = true from by decide +kernel], h2⟩
theorem X_Name2 : Calls Tryz.prog 29 #[.string ⟨#[46, 97]⟩] w (GivesV w (.bool false)) :=
  (EarName_any ⟨#[46, 97]⟩ w (by decide)).mono fun e w' ⟨h1, h2⟩ => ⟨by rw [h1, show nameB ⟨#[46, 97]⟩ = false from by decide +kernel], h2⟩
end
end Go.Proofs.YtklconegomgjaaaGreat
namespace Go.Proofs.YtklconegomgjaaaGreat
open Go Go.RowKit Go.Shelf

set_option maxRecDepth 100000 in
set_option maxHeartbeats 4000000 in
theorem PWhyX_any (a1 a2 a3 a4 : Option Addr) (k1 k2 k3 k4 : Nat) (t : PeW) (a b : Nat) (w : World) (hm : TownC w a1 a2 a3 a4 k1 k2 k3 k4 t) (hv : PeValid t) (hab : a ≠ b) (ha : a < t.ments.length) (hb : b < t.ments.length) :
    Calls Tryz.prog 9 #[(.agg #[.int .i64 t.ear.sounds, .slice a1 t.ear.alphas.length k1, .slice a2 t.ear.spells.length k2, .int .i64 t.vills, .slice a3 t.ments.length k3, .slice a4 t.ties.length k4]), .int .i64 (a : Int), .int .i64 (b : Int)] w fun e w' => e = .returned (.tuple #[.int .i64 (whyN t a b), .int .i64 0]) ∧ Below w.heap.size w w' := by
  have C := Lib.hid (fun (V : World) (h : Below (w.heap.size + 1) (w.alloc (.cells #[.int .i64 t.ear.sounds, .slice a1 t.ear.alphas.length k1, .slice a2 t.ear.spells.length k2, .int .i64 t.vills, .slice a3 t.ments.length k3, .slice a4 t.ties.length k4] 29)) V) => PCheck_any a1 a2 a3 a4 k1 k2 k3 k4 t V (hm.mono (box_old h)) hv)
  have LK := Lib.hid (fun (V : World) (h : Below (w.heap.size + 1) (w.alloc (.cells #[.int .i64 t.ear.sounds, .slice a1 t.ear.alphas.length k1, .slice a2 t.ear.spells.length k2, .int .i64 t.vills, .slice a3 t.ments.length k3, .slice a4 t.ties.length k4] 29)) V) => PLook0_any a1 a2 a3 a4 k1 k2 k3 k4 t V (hm.mono (box_old h)))
  have WY := Lib.hid (fun (V : World) (bt bc bk : Nat) (h : TownW V bt bc bk a1 a2 a3 a4 k1 k2 k3 k4 t 0) => PWhy_any a1 a2 a3 a4 k1 k2 k3 k4 t bt bc bk 0 a b V h hv.ok ha hb)
  have TWO := Lib.hid (fun (V : World) => PTwo_any a1 a2 a3 a4 k1 k2 k3 k4 t a b V)
  have HTC := Lib.hid (fun (V : World) => two_calls a1 a2 a3 a4 k1 k2 k3 k4 t a b V hv hab ha hb _ (Below.refl _ _))
  have hQ := Below.refl (w.heap.size + 1) (w.alloc (.cells #[.int .i64 t.ear.sounds, .slice a1 t.ear.alphas.length k1, .slice a2 t.ear.spells.length k2, .int .i64 t.vills, .slice a3 t.ments.length k3, .slice a4 t.ties.length k4] 29))
  obtain ⟨x0, x1, x2, x3, x4, x5, xz⟩ := box_town hQ
  generalize whyN t a b = wy at WY ⊢
  clear hm hv ha hb hab
  go_enter Tryz.func9, Tryz.ntmps9
  go_wp2_with (first
    | (go_at_call 42; go_must ((with_reducible refine (WY.out _ _ _ _ ht6).mono ?_); rintro e w7 ⟨rfl, hl7, ht7⟩; dsimp only))
    | (go_at_call 41; go_must ((with_reducible refine (LK.out _ hQ5).mono ?_); rintro e w6 ⟨bt, bc, bk, rfl, ht6, hb6, g1, g2, g3⟩; dsimp only))
    | (go_at_call 91; go_must ((with_reducible refine (HTC.out w2).mono ?_); rintro e w5 ⟨rfl, hb5⟩; have hQ5 := box_on hQ2 ((two_belowP a1 a2 a3 a4 k1 k2 k3 k4 t a b w2).trans (hb5.mono (two_belowP a1 a2 a3 a4 k1 k2 k3 k4 t a b w2).size)); obtain ⟨x0, x1, x2, x3, x4, x5, xz⟩ := box_town hQ5; dsimp only))
    | (go_at_call 40; go_must ((with_reducible refine (TWO.out _).mono ?_); rintro e w4 ⟨rfl, rfl⟩; dsimp only))
    | (go_at_call 39; go_must ((with_reducible refine (C.out _ hQ).mono ?_); rintro e w2 ⟨rfl, hb2⟩; have hQ2 := box_on hQ hb2; obtain ⟨x0, x1, x2, x3, x4, x5, xz⟩ := box_town hQ2; dsimp only)))
  have hz := (box_old hQ5).size
  go_ret2
  exact ⟨rfl, hl7.own ((box_old hQ5).trans (hb6.mono hz)) (by omega) (by omega)⟩
end Go.Proofs.YtklconegomgjaaaGreat
