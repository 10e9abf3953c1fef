/- What is proved here: the laws' chest of layer 10, and what the program answers at it. No condition. -/
/- What is proved here: the contract of the laws' Awake of layer 10. No condition. -/
import Derived.Test.YtcgplocmncionaaGreatChLeastG
import Derived.Test.YtcgplocmncionaaGreatChKey
import Derived.Test.YtcgplocmncionaaGreatChLost
import Derived.Test.YtcgplocmncionaaGreatSwAG
set_option linter.unusedVariables false
set_option linter.unusedSimpArgs false
namespace Go.Proofs.YtcgplocmncionaaGreat
open Go Go.RowKit Go.Shelf

theorem ex_valid : ChValid exChest := by
  refine ⟨by decide, by decide, by decide, by decide, fun i hi => ?_, by decide, fun i hi => ?_, fun i hi => ?_, by decide, fun i hi => ?_⟩
  · have hi : i < 2 := hi
    obtain rfl | rfl : i = 0 ∨ i = 1 := by omega
    all_goals (decide +kernel +revert)
  · have hi : i < 4 := hi
    obtain rfl | rfl | rfl | rfl : i = 0 ∨ i = 1 ∨ i = 2 ∨ i = 3 := by omega
    all_goals (decide +revert)
  · have hi : i + 1 < 4 := hi
    obtain rfl | rfl | rfl : i = 0 ∨ i = 1 ∨ i = 2 := by omega
    all_goals (decide +revert)
  · have hi : i < 1 := hi
    obtain rfl : i = 0 := by omega
    (decide +revert)
@[reducible] def exV (ap ac ar : Option Addr) : Value := .agg #[.int .i64 3, .int .i64 4, .slice ap 2 2, .int .i64 6, .slice ac 4 4, .slice ar 1 1]
theorem strs_blk2 {w : World} {b : Nat} {t : TypeId} {x y : ByteArray} (h : w.heap[b]? = some (.cells #[.string x, .string y] t (0, 0))) : StrsC w (some ⟨b, 0, none⟩) [x, y] := fun i hi => by
  have e : i = 0 ∨ i = 1 := by simp at hi; omega
  rcases e with rfl | rfl
  · exact ⟨_, 0, rfl, lt_of_block h, blk_cell 0 h rfl⟩
  · exact ⟨_, 0, rfl, lt_of_block h, blk_cell 1 h rfl⟩
theorem rules_blk1 {w : World} {b : Nat} {t : TypeId} {x : ChR} (h : w.heap[b]? = some (.cells #[.int .i64 x.need, .int .i64 x.gives] t (0, 0))) : ChRulesC w (some ⟨b, 0, none⟩) [x] := fun i hi => by
  have e : i = 0 := by simp at hi; omega
  subst e
  exact ⟨_, 0, rfl, lt_of_block h, blk_cell 0 h rfl, blk_cell 1 h rfl⟩
theorem ex_people : exChest.people = [⟨#[97, 110, 97]⟩, ⟨#[98, 101, 110]⟩] := by decide +kernel
theorem ex_psize : ∀ x ∈ exChest.people, x.size ≤ 9223372036854775807 := by rw [ex_people]; decide
set_option maxRecDepth 100000 in
set_option maxHeartbeats 2000000 in
theorem CChest_any (w : World) : Calls Tryz.prog 27 #[] w fun e w' => ∃ ap ac ar, e = .returned (exV ap ac ar) ∧ ChestC w' ap ac ar 2 4 1 exChest ∧ Below w.heap.size w w' := by
  go_enter Tryz.func27, Tryz.ntmps27
  go_wp2
  (try simp only [Exit.inBlock, Exit.then])
  refine bodyPost_ret (v := exV (some ⟨w.heap.size + 1, 0, none⟩) (some ⟨w.heap.size + 1 + 1, 0, none⟩) (some ⟨w.heap.size + 1 + 1 + 1, 0, none⟩)) ?_ rfl ⟨some ⟨w.heap.size + 1, 0, none⟩, some ⟨w.heap.size + 1 + 1, 0, none⟩, some ⟨w.heap.size + 1 + 1 + 1, 0, none⟩, rfl, ⟨⟨Nat.le_refl _, by omega, fun h => by cases h⟩, ⟨Nat.le_refl _, by omega, fun h => by cases h⟩, ⟨Nat.le_refl _, by omega, fun h => by cases h⟩, ?_, ?_, ?_, ex_psize⟩, ?_⟩
  · rw [results_cell1 rfl]
    go_simp
  · rw [ex_people]
    refine strs_blk2 (t := 9) ?_
    (repeat' (first | exact alloc_at _ _ (by simp) | refine (Below.heap_setCell _ _ _ _ (by simp)).trans ?_ | refine (heap_alloc_old _ _ (by first | omega | (simp <;> omega))).trans ?_))
  · refine copies_block (t := 45) ?_
    (repeat' (first | exact alloc_at _ _ (by simp) | refine (Below.heap_setCell _ _ _ _ (by simp)).trans ?_ | refine (heap_alloc_old _ _ (by first | omega | (simp <;> omega))).trans ?_))
  · refine rules_blk1 (t := 119) ?_
    (repeat' (first | exact alloc_at _ _ (by simp) | refine (Below.heap_setCell _ _ _ _ (by simp)).trans ?_ | refine (heap_alloc_old _ _ (by first | omega | (simp <;> omega))).trans ?_))
  · exact (by (repeat' (first | assumption | exact Below.refl _ _ | refine below_drew' ?_ | refine Below.setCell ?_ (by first | omega | (simp <;> omega)) _ | refine Below.alloc ?_ (by first | omega | (simp <;> omega)) _)))
end Go.Proofs.YtcgplocmncionaaGreat
namespace Go.Proofs.YtcgplocmncionaaGreat
open Go Go.RowKit Go.Shelf

/-- A list that is given, with no error. -/
def GivesL (w : World) (l : List Int) (e : Ending) (w' : World) : Prop := ∃ a c, e = .returned (.tuple #[.slice a l.length c, .int .i64 0]) ∧ SlOk a l.length c ∧ IntsC w' a l ∧ Below w.heap.size w w'
theorem GivesL.old {w V : World} {o : Obj} {l : List Int} {e : Ending} {w' : World} (h : GivesL (w.alloc o) l e w') : GivesL w l e w' := by
  obtain ⟨a, c, h1, h2, h3, h4⟩ := h
  exact ⟨a, c, h1, h2, h3, ((Below.refl _ w).alloc (Nat.le_refl _) o).trans (h4.mono (by simp))⟩
theorem gives_of {w w' : World} {v : Value} {l m : List Int} {e : Ending} (he : e = .returned (.tuple #[v, .int .i64 0])) (h : IntsN w.heap.size w' v m) (hl : m = l) (hb : Below w.heap.size w w') : GivesL w l e w' := by
  subst hl
  obtain ⟨a, c, rfl, h1, h2, -⟩ := h
  exact ⟨a, c, he, h1, h2, hb⟩
def GivesN (w : World) (er : Int) (e : Ending) (w' : World) : Prop := e = .returned (.tuple #[.slice none 0 0, .int .i64 er]) ∧ Below w.heap.size w w'
theorem rises_one {x : Int} {n : Nat} (h : 0 ≤ x ∧ x < n) : Rises [x] n := by
  refine ⟨fun i hi => ?_, fun i hi => by simp at hi⟩
  have e : i = 0 := by simp at hi; omega
  subst e
  exact h
theorem rises_two {x y : Int} {n : Nat} (h : 0 ≤ x ∧ x < y ∧ y < n) : Rises [x, y] n := by
  refine ⟨fun i hi => ?_, fun i hi => ?_⟩
  · have e : i = 0 ∨ i = 1 := by simp at hi; omega
    rcases e with rfl | rfl
    · show 0 ≤ x ∧ x < n; omega
    · show 0 ≤ y ∧ y < n; omega
  · have e : i = 0 := by simp at hi; omega
    subst e
    exact h.2.1
theorem rises_three {x y z : Int} {n : Nat} (h : 0 ≤ x ∧ x < y ∧ y < z ∧ z < n) : Rises [x, y, z] n := by
  refine ⟨fun i hi => ?_, fun i hi => ?_⟩
  · have e : i = 0 ∨ i = 1 ∨ i = 2 := by simp at hi; omega
    rcases e with rfl | rfl | rfl
    · show 0 ≤ x ∧ x < n; omega
    · show 0 ≤ y ∧ y < n; omega
    · show 0 ≤ z ∧ z < n; omega
  · have e : i = 0 ∨ i = 1 := by simp at hi; omega
    rcases e with rfl | rfl
    · exact h.2.1
    · exact h.2.2.1
section
variable (ap ac ar : Option Addr) (w : World)
set_option maxRecDepth 100000 in
theorem X_Lost (hm : ChestC w ap ac ar 2 4 1 exChest) : Calls Tryz.prog 28 #[exV ap ac ar] w (GivesL w [2, 5]) :=
  (CLost_any ap ac ar 2 4 1 exChest w hm ex_valid (by decide)).mono fun e w' ⟨v, h1, h2, h3⟩ => gives_of h1 h2 (by decide +kernel) h3
set_option maxRecDepth 100000 in
theorem X_Find (p : Nat) (l : List Int) (hp : p < 2) (hl : numI (findN exChest p 1) = l) (hm : ChestC w ap ac ar 2 4 1 exChest) : Calls Tryz.prog 10 #[exV ap ac ar, .int .i64 (p : Int), .slice (some ⟨w.heap.size, 0, none⟩) 1 1] (w.alloc (.cells #[.int .i64 0] 3)) (GivesL w l) :=
  (CFind_any ap ac ar 2 4 1 exChest p (some ⟨w.heap.size, 0, none⟩) [0] 1 3 _ (hm.mono (al_on w _)) ex_valid hp rfl ⟨Nat.le_refl _, by decide, fun h => by cases h⟩ (ints_blk (alloc_at _ _ rfl)) (rises_one (by decide))).mono fun e w' ⟨v, h1, h2, h3⟩ => GivesL.old (V := w) (gives_of h1 h2 hl h3)
set_option maxRecDepth 100000 in
theorem X_Knows (hm : ChestC w ap ac ar 2 4 1 exChest) : Calls Tryz.prog 11 #[exV ap ac ar, .slice (some ⟨w.heap.size, 0, none⟩) 2 2] (w.alloc (.cells #[.int .i64 0, .int .i64 1] 3)) (GivesL w [0, 1, 3]) :=
  (CKnows_any ap ac ar 2 4 1 exChest (some ⟨w.heap.size, 0, none⟩) [0, 1] 2 _ (hm.mono (al_on w _)) ex_valid ⟨Nat.le_refl _, by decide, fun h => by cases h⟩ (ints_blk (alloc_at _ _ rfl)) (rises_two (by decide))).mono fun e w' ⟨v, h1, h2, h3⟩ => GivesL.old (V := w) (gives_of h1 h2 (by decide +kernel) h3)
set_option maxRecDepth 100000 in
theorem X_KeyS (p : Nat) (n : Int) (s : Nat) (l : List Int) (hp : p < 2) (hn : 0 ≤ n ∧ n < 64000) (hk : keyRes exChest p n = (some s, 0)) (hl : numI s = l) (hm : ChestC w ap ac ar 2 4 1 exChest) : Calls Tryz.prog 29 #[exV ap ac ar, .int .i64 (p : Int), .int .i64 n] w (GivesL w l) :=
  (CKey_any ap ac ar 2 4 1 exChest p n w hm ex_valid hp hn).mono fun e w' ⟨v, h1, h2, h3⟩ => by
    rw [hk] at h1 h2
    exact gives_of h1 h2 hl h3
set_option maxRecDepth 100000 in
theorem X_KeyN (p : Nat) (n er : Int) (hp : p < 2) (hn : 0 ≤ n ∧ n < 64000) (hk : keyRes exChest p n = (none, er)) (hm : ChestC w ap ac ar 2 4 1 exChest) : Calls Tryz.prog 29 #[exV ap ac ar, .int .i64 (p : Int), .int .i64 n] w (GivesN w er) :=
  (CKey_any ap ac ar 2 4 1 exChest p n w hm ex_valid hp hn).mono fun e w' ⟨v, h1, h2, h3⟩ => by
    rw [hk] at h1 h2
    have h2 : v = .slice none 0 0 := h2
    subst h2
    exact ⟨h1, h3⟩
set_option maxRecDepth 100000 in
theorem X_WhyS (hm : ChestC w ap ac ar 2 4 1 exChest) : Calls Tryz.prog 30 #[exV ap ac ar, .slice (some ⟨w.heap.size, 0, none⟩) 3 3, .int .i64 3] (w.alloc (.cells #[.int .i64 0, .int .i64 1, .int .i64 2] 3)) (GivesL w [0, 1]) :=
  (CWhy_any ap ac ar 2 4 1 exChest (some ⟨w.heap.size, 0, none⟩) [0, 1, 2] 3 3 _ (hm.mono (al_on w _)) ex_valid ⟨Nat.le_refl _, by decide, fun h => by cases h⟩ (ints_blk (l := [0, 1, 2]) (alloc_at _ _ rfl)) (rises_three (x := 0) (y := 1) (z := 2) (by decide)) (by decide)).mono fun e w' ⟨v, h1, h2, h3⟩ => by
    rw [exChest_why] at h1 h2
    exact GivesL.old (V := w) (gives_of h1 h2 (by decide +kernel) h3)
set_option maxRecDepth 100000 in
theorem X_WhyN (hm : ChestC w ap ac ar 2 4 1 exChest) : Calls Tryz.prog 30 #[exV ap ac ar, .slice (some ⟨w.heap.size, 0, none⟩) 1 1, .int .i64 3] (w.alloc (.cells #[.int .i64 2] 3)) (GivesN w 9) :=
  (CWhy_any ap ac ar 2 4 1 exChest (some ⟨w.heap.size, 0, none⟩) [2] 1 3 _ (hm.mono (al_on w _)) ex_valid ⟨Nat.le_refl _, by decide, fun h => by cases h⟩ (ints_blk (l := [2]) (alloc_at _ _ rfl)) (rises_one (by decide)) (by decide)).mono fun e w' ⟨v, h1, h2, h3⟩ => by
    rw [exChest_why2] at h1 h2
    have h2 : v = .slice none 0 0 := h2
    subst h2
    exact ⟨h1, (al_on w _).trans (h3.mono (by simp))⟩
set_option maxRecDepth 100000 in
theorem X_Lock (hm : ChestC w ap ac ar 2 4 1 exChest) : Calls Tryz.prog 12 #[exV ap ac ar, .int .i64 1, .int .i64 1] w (GivesL w [1, 3]) :=
  (CLock_any ap ac ar 2 4 1 exChest 1 1 w hm ex_valid (by decide) (by decide)).mono fun e w' ⟨v, h1, h2, h3⟩ => by
    rw [exChest_lock] at h2
    exact gives_of h1 h2 (by decide +kernel) h3
set_option maxRecDepth 100000 in
theorem X_Least (hm : ChestC w ap ac ar 2 4 1 exChest) : Calls Tryz.prog 31 #[exV ap ac ar, .int .i64 1] w (GivesL w [0, 3]) :=
  (CLeast_any ap ac ar 2 4 1 exChest 1 w hm ex_valid (by decide) (by decide +kernel)).mono fun e w' ⟨v, h1, h2, h3⟩ => by
    rw [exChest_least] at h2
    exact gives_of h1 h2 (by decide +kernel) h3
end
end Go.Proofs.YtcgplocmncionaaGreat
