/- What is proved here: the plain functions' answers at the rooms of the examples of layer 12, by computation. No condition. -/
/- What is proved here: contracts of the laws' Room and span of layer 12. No condition. -/
/- What is proved here: the functions of layer 12 and of its reference, at rooms whose answers are named; numbers that are compared. Conditions: the room lies in memory. -/
/- What is proved here: cells that last, of a span, of worlds that grow. No condition. -/
/- What is proved here: contracts of the laws' valid, some and subset of layer 12. Conditions: the room lies in memory. -/
import Derived.Test.YtmhbjohpggghgaaSpAll
import Derived.Test.YtmhbjohpggghgaaSrF
set_option linter.unusedVariables false
set_option linter.unusedSimpArgs false
namespace Go.Proofs.Ytmhbjohpggghgaa
/-- The room of the examples, of which some things were heard. -/
def exR (H : List SeHeard) : SeRoom :=
  { writers := [⟨#[97, 110, 97]⟩, ⟨#[98, 101, 110]⟩, ⟨#[99, 105, 100]⟩], kept := [4, 0], leaks := [⟨0, 1, true⟩, ⟨1, 2, false⟩], letters := [⟨0, 1, 0⟩, ⟨1, 2, -1⟩, ⟨1, 1, -1⟩], heard := H }
def exC : SeRoom := { exR [] with letters := [⟨0, 1, 2⟩, ⟨1, 2, -1⟩, ⟨1, 1, -1⟩] }
theorem ex_ben : sinceOf (exR []) 1 0 = ((1, 1), 1, 0) := by decide +kernel
theorem ex_cid : sinceOf (exR []) 2 0 = ((2, 2), 0, 0) := by decide +kernel
theorem ex_never : sinceOf (exR []) 2 1 = ((0, 0), 2, 0) := by decide +kernel
theorem ex_two : knowsOf (exR []) 2 0 2 = (0, 0) := by decide +kernel
theorem ex_one : knowsOf (exR []) 2 0 1 = (2, 0) := by decide +kernel
theorem ex_told : toldOf (exR [⟨2, 0, 3, true⟩]) 1 = (1, 0) := by decide +kernel
theorem ex_not : toldOf (exR [⟨2, 0, 5, false⟩]) 1 = (2, 0) := by decide +kernel
theorem ex_wrong : seWrongOf (exR [⟨2, 0, 1, true⟩]) = ([0], 0) := by decide +kernel
theorem ex_zero : toldOf (exR [⟨2, 0, 1, true⟩]) 0 = (0, 8) := by decide +kernel
theorem ex_all : mayOf (exR []) 1 = ([0, 1, 2], 0) := by decide +kernel
theorem ex_some : mayOf (exR [⟨2, 0, 5, false⟩]) 2 = ([0, 1], 0) := by decide +kernel
theorem ex_plan : planOf (exR [⟨2, 0, 5, false⟩]) = ([0, 0, 1], 0, 0) := by decide +kernel
theorem ex_down : planOf (exR []) = ([], 0, 9) := by decide +kernel
theorem ex_cut : cutOf (exR []) 0 = ([0], 0) := by decide +kernel
/- of SecretKnown -/
theorem ex_ana : sinceOf (exR []) 0 0 = ((0, 0), 1, 0) := by decide +kernel
theorem ex_two2 : knowsOf (exR [⟨2, 0, 3, true⟩]) 2 0 2 = (1, 0) := by decide +kernel
theorem ex_sure : toldOf (exR []) 0 = (1, 0) := by decide +kernel
theorem ex_may : toldOf (exR []) 1 = (0, 0) := by decide +kernel
theorem ex_none : seWrongOf (exR [⟨2, 0, 3, true⟩]) = ([], 0) := by decide +kernel
theorem ex_nobody : mayOf (exR []) 2 = ([], 0) := by decide +kernel
theorem ex_nothing : cutOf (exR []) 1 = ([], 0) := by decide +kernel
theorem ex_downc : cutOf exC 0 = ([], 9) := by decide +kernel
end Go.Proofs.Ytmhbjohpggghgaa
namespace Go.Proofs.Ytmhbjohpggghgaa
open Go Go.RowKit

theorem exR_blk {W : World} {b1 b2 b3 b4 : Nat} {t1 t2 t3 t4 : TypeId} {a5 : Option Addr} {k5 : Nat} {H : List SeHeard}
    (h1 : W.heap[b1]? = some (.cells #[.string ⟨#[97, 110, 97]⟩, .string ⟨#[98, 101, 110]⟩, .string ⟨#[99, 105, 100]⟩] t1 (0, 0)))
    (h2 : W.heap[b2]? = some (.cells #[.int .i64 4, .int .i64 0] t2 (0, 0)))
    (h3 : W.heap[b3]? = some (.cells #[.int .i64 0, .int .i64 1, .bool true, .int .i64 1, .int .i64 2, .bool false] t3 (0, 0)))
    (h4 : W.heap[b4]? = some (.cells #[.int .i64 0, .int .i64 1, .int .i64 0, .int .i64 1, .int .i64 2, .int .i64 (-1), .int .i64 1, .int .i64 1, .int .i64 (-1)] t4 (0, 0)))
    (ho : SlOk a5 H.length k5) (h5 : HeardC W a5 H) : RoomC W (some ⟨b1, 0, none⟩) (some ⟨b2, 0, none⟩) (some ⟨b3, 0, none⟩) (some ⟨b4, 0, none⟩) a5 3 2 2 3 k5 (exR H) := by
  refine ⟨⟨Nat.le_refl _, by decide, fun h => by cases h⟩, ⟨Nat.le_refl _, by decide, fun h => by cases h⟩, ⟨Nat.le_refl _, by decide, fun h => by cases h⟩, ⟨Nat.le_refl _, by decide, fun h => by cases h⟩, ho, fun i hi => ?_, fun i hi => ?_, fun i hi => ?_, fun i hi => ?_, h5, fun s hs => ?_⟩
  · have h : i = 0 ∨ i = 1 ∨ i = 2 := by have : i < 3 := hi; omega
    rcases h with rfl | rfl | rfl <;> exact ⟨b1, 0, rfl, lt_of_block h1, blk_cell _ h1 rfl⟩
  · have h : i = 0 ∨ i = 1 := by have : i < 2 := hi; omega
    rcases h with rfl | rfl <;> exact ⟨b2, 0, rfl, lt_of_block h2, blk_cell _ h2 rfl⟩
  · have h : i = 0 ∨ i = 1 := by have : i < 2 := hi; omega
    rcases h with rfl | rfl <;> exact ⟨b3, 0, rfl, lt_of_block h3, blk_cell _ h3 rfl, blk_cell _ h3 rfl, blk_cell _ h3 rfl⟩
  · have h : i = 0 ∨ i = 1 ∨ i = 2 := by have : i < 3 := hi; omega
    rcases h with rfl | rfl | rfl <;> exact ⟨b4, 0, rfl, lt_of_block h4, blk_cell _ h4 rfl, blk_cell _ h4 rfl, blk_cell _ h4 rfl⟩
  · have hs : s = ⟨#[97, 110, 97]⟩ ∨ s = ⟨#[98, 101, 110]⟩ ∨ s = ⟨#[99, 105, 100]⟩ := by simpa [exR] using hs
    rcases hs with rfl | rfl | rfl <;> decide

theorem heard_one {W : World} {b : Nat} {t : TypeId} {x : SeHeard} (h : W.heap[b]? = some (.cells #[.int .i64 x.writer, .int .i64 x.secret, .int .i64 x.day, .bool x.knew] t (0, 0))) : HeardC W (some ⟨b, 0, none⟩) [x] := fun i hi => by
  have e : i = 0 := by simp at hi; omega
  subst e
  exact ⟨b, 0, rfl, lt_of_block h, blk_cell _ h rfl, blk_cell _ h rfl, blk_cell _ h rfl, blk_cell _ h rfl⟩
set_option maxRecDepth 100000 in
set_option maxHeartbeats 1000000 in
theorem Room_none (w : World) : Calls Try.prog 34 #[.int .i64 (-1), .bool false] w fun e w' => ∃ a1 a2 a3 a4 a5 k1 k2 k3 k4 k5, e = .returned (roomV a1 a2 a3 a4 a5 k1 k2 k3 k4 k5 (exR [])) ∧ RoomC w' a1 a2 a3 a4 a5 k1 k2 k3 k4 k5 (exR []) ∧ Below w.heap.size w w' := by
  go_enter Try.func34, Try.ntmps34
  go_wp2
  (try simp only [Exit.inBlock, Exit.then])
  refine bodyPost_ret (v := .agg #[.slice (some ⟨w.heap.size + 1, 0, none⟩) 3 3, .slice (some ⟨w.heap.size + 1 + 1, 0, none⟩) 2 2, .slice (some ⟨w.heap.size + 1 + 1 + 1, 0, none⟩) 2 2, .slice (some ⟨w.heap.size + 1 + 1 + 1 + 1, 0, none⟩) 3 3, .slice none 0 0]) ?_ rfl ⟨some ⟨w.heap.size + 1, 0, none⟩, some ⟨w.heap.size + 1 + 1, 0, none⟩, some ⟨w.heap.size + 1 + 1 + 1, 0, none⟩, some ⟨w.heap.size + 1 + 1 + 1 + 1, 0, none⟩, none, 3, 2, 2, 3, 0, rfl, ?_, ?_⟩
  · rw [results_cell1 rfl]
    go_simp
  · refine exR_blk (t1 := 9) (t2 := 3) (t3 := 79) (t4 := 68) ?_ ?_ ?_ ?_ ⟨by decide, by decide, fun _ => rfl⟩ (fun i hi => absurd hi (Nat.not_lt_zero i))
    all_goals (repeat' (first | exact alloc_at _ _ (by simp) | refine (Below.heap_setCell _ _ _ _ (by simp)).trans ?_ | refine (heap_alloc_old _ _ (by first | omega | (simp <;> omega))).trans ?_))
  · exact (by (repeat' (first | assumption | exact Below.refl _ _ | refine below_drew' ?_ | refine Below.setCell ?_ (by first | omega | (simp <;> omega)) _ | refine Below.alloc ?_ (by first | omega | (simp <;> omega)) _)))

set_option maxRecDepth 100000 in
set_option maxHeartbeats 1000000 in
theorem Room_some (day : Int) (knew : Bool) (w : World) (hd : 0 ≤ day) : Calls Try.prog 34 #[.int .i64 day, .bool knew] w fun e w' => ∃ a1 a2 a3 a4 a5 k1 k2 k3 k4 k5, e = .returned (roomV a1 a2 a3 a4 a5 k1 k2 k3 k4 k5 (exR [⟨2, 0, day, knew⟩])) ∧ RoomC w' a1 a2 a3 a4 a5 k1 k2 k3 k4 k5 (exR [⟨2, 0, day, knew⟩]) ∧ Below w.heap.size w w' := by
  go_enter Try.func34, Try.ntmps34
  go_wp2
  (try simp only [Exit.inBlock, Exit.then])
  refine bodyPost_ret (v := .agg #[.slice (some ⟨w.heap.size + 1, 0, none⟩) 3 3, .slice (some ⟨w.heap.size + 1 + 1, 0, none⟩) 2 2, .slice (some ⟨w.heap.size + 1 + 1 + 1, 0, none⟩) 2 2, .slice (some ⟨w.heap.size + 1 + 1 + 1 + 1, 0, none⟩) 3 3, .slice (some ⟨w.heap.size + 1 + 1 + 1 + 1 + 1 + 1, 0, none⟩) 1 1]) ?_ rfl ⟨some ⟨w.heap.size + 1, 0, none⟩, some ⟨w.heap.size + 1 + 1, 0, none⟩, some ⟨w.heap.size + 1 + 1 + 1, 0, none⟩, some ⟨w.heap.size + 1 + 1 + 1 + 1, 0, none⟩, some ⟨w.heap.size + 1 + 1 + 1 + 1 + 1 + 1, 0, none⟩, 3, 2, 2, 3, 1, rfl, ?_, ?_⟩
  · rw [results_cell1 rfl]
    go_simp
  · refine exR_blk (t1 := 9) (t2 := 3) (t3 := 79) (t4 := 68) ?_ ?_ ?_ ?_ ⟨Nat.le_refl _, by decide, fun h => by cases h⟩ (heard_one (t := 74) ?_)
    all_goals (repeat' (first | exact alloc_at _ _ (by simp) | refine (Below.heap_setCell _ _ _ _ (by simp)).trans ?_ | refine (heap_alloc_old _ _ (by first | omega | (simp <;> omega))).trans ?_))
  · exact (by (repeat' (first | assumption | exact Below.refl _ _ | refine below_drew' ?_ | refine Below.setCell ?_ (by first | omega | (simp <;> omega)) _ | refine Below.alloc ?_ (by first | omega | (simp <;> omega)) _)))

theorem Span_any (lo hi : Int) (w : World) : Calls Try.prog 36 #[.int .i64 lo, .int .i64 hi] w fun e w' => e = .returned (.agg #[.int .i64 lo, .int .i64 hi]) ∧ Below w.heap.size w w' := by
  go_enter Try.func36, Try.ntmps36
  go_wp2
  (try simp only [Exit.inBlock, Exit.then])
  refine bodyPost_ret (v := .agg #[.int .i64 lo, .int .i64 hi]) ?_ rfl ⟨rfl, ?_⟩
  · rw [results_cell1 rfl]
    go_simp
  · exact (by (repeat' (first | assumption | exact Below.refl _ _ | refine below_drew' ?_ | refine Below.setCell ?_ (by first | omega | (simp <;> omega)) _ | refine Below.alloc ?_ (by first | omega | (simp <;> omega)) _)))
end Go.Proofs.Ytmhbjohpggghgaa
namespace Go.Proofs.Ytmhbjohpggghgaa
open Go Go.RowKit

theorem A_Check (a1 a2 a3 a4 a5 : Option Addr) (k1 k2 k3 k4 k5 : Nat) (r : SeRoom) (i j e : Int) (h : seCheck r = (i, j, e)) (w : World) (hm : RoomC w a1 a2 a3 a4 a5 k1 k2 k3 k4 k5 r) : Calls Try.prog 16 #[(.agg #[.slice a1 r.writers.length k1, .slice a2 r.kept.length k2, .slice a3 r.leaks.length k3, .slice a4 r.letters.length k4, .slice a5 r.heard.length k5])] w fun x w' => x = .returned (.tuple #[.int .i64 i, .int .i64 j, .int .i64 e]) ∧ Below w.heap.size w w' := by
  have C := SCheck_any a1 a2 a3 a4 a5 k1 k2 k3 k4 k5 r w hm
  rwa [h] at C
theorem A_Since (a1 a2 a3 a4 a5 : Option Addr) (k1 k2 k3 k4 k5 : Nat) (r : SeRoom) (u s : Int) (lo hi m e : Int) (h : sinceOf r u s = ((lo, hi), m, e)) (w : World) (hm : RoomC w a1 a2 a3 a4 a5 k1 k2 k3 k4 k5 r) : Calls Try.prog 18 #[(.agg #[.slice a1 r.writers.length k1, .slice a2 r.kept.length k2, .slice a3 r.leaks.length k3, .slice a4 r.letters.length k4, .slice a5 r.heard.length k5]), .int .i64 u, .int .i64 s] w fun x w' => x = .returned (.tuple #[.agg #[.int .i64 lo, .int .i64 hi], .int .i64 m, .int .i64 e]) ∧ Below w.heap.size w w' := by
  have C := SSinceF_any a1 a2 a3 a4 a5 k1 k2 k3 k4 k5 r u s w hm
  rwa [h] at C
theorem A_Knows (a1 a2 a3 a4 a5 : Option Addr) (k1 k2 k3 k4 k5 : Nat) (r : SeRoom) (u s d : Int) (m e : Int) (h : knowsOf r u s d = (m, e)) (w : World) (hm : RoomC w a1 a2 a3 a4 a5 k1 k2 k3 k4 k5 r) : Calls Try.prog 20 #[(.agg #[.slice a1 r.writers.length k1, .slice a2 r.kept.length k2, .slice a3 r.leaks.length k3, .slice a4 r.letters.length k4, .slice a5 r.heard.length k5]), .int .i64 u, .int .i64 s, .int .i64 d] w fun x w' => x = .returned (.tuple #[.int .i64 m, .int .i64 e]) ∧ Below w.heap.size w w' := by
  have C := SKnows_any a1 a2 a3 a4 a5 k1 k2 k3 k4 k5 r u s d w hm
  rwa [h] at C
theorem A_Told (a1 a2 a3 a4 a5 : Option Addr) (k1 k2 k3 k4 k5 : Nat) (r : SeRoom) (n : Int) (m e : Int) (h : toldOf r n = (m, e)) (w : World) (hm : RoomC w a1 a2 a3 a4 a5 k1 k2 k3 k4 k5 r) : Calls Try.prog 23 #[(.agg #[.slice a1 r.writers.length k1, .slice a2 r.kept.length k2, .slice a3 r.leaks.length k3, .slice a4 r.letters.length k4, .slice a5 r.heard.length k5]), .int .i64 n] w fun x w' => x = .returned (.tuple #[.int .i64 m, .int .i64 e]) ∧ Below w.heap.size w w' := by
  have C := STold_any a1 a2 a3 a4 a5 k1 k2 k3 k4 k5 r n w hm
  rwa [h] at C
theorem A_Wrong (a1 a2 a3 a4 a5 : Option Addr) (k1 k2 k3 k4 k5 : Nat) (r : SeRoom) (l : List Int) (e : Int) (h : seWrongOf r = (l, e)) (w : World) (hm : RoomC w a1 a2 a3 a4 a5 k1 k2 k3 k4 k5 r) : Calls Try.prog 25 #[(.agg #[.slice a1 r.writers.length k1, .slice a2 r.kept.length k2, .slice a3 r.leaks.length k3, .slice a4 r.letters.length k4, .slice a5 r.heard.length k5])] w fun x w' => ∃ a c, x = .returned (.tuple #[.slice a l.length c, .int .i64 e]) ∧ SlOk a l.length c ∧ IntsC w' a l ∧ Below w.heap.size w w' := by
  have C := SWrong_any a1 a2 a3 a4 a5 k1 k2 k3 k4 k5 r w hm
  rw [h] at C
  exact C.mono fun x w' ⟨v, h1, ⟨a, c, h2, h3, h4⟩, h5⟩ => ⟨a, c, by rw [h1, h2], h3, h4, h5⟩
theorem A_May (a1 a2 a3 a4 a5 : Option Addr) (k1 k2 k3 k4 k5 : Nat) (r : SeRoom) (n : Int) (l : List Int) (e : Int) (h : mayOf r n = (l, e)) (w : World) (hm : RoomC w a1 a2 a3 a4 a5 k1 k2 k3 k4 k5 r) : Calls Try.prog 28 #[(.agg #[.slice a1 r.writers.length k1, .slice a2 r.kept.length k2, .slice a3 r.leaks.length k3, .slice a4 r.letters.length k4, .slice a5 r.heard.length k5]), .int .i64 n] w fun x w' => ∃ a c, x = .returned (.tuple #[.slice a l.length c, .int .i64 e]) ∧ SlOk a l.length c ∧ IntsC w' a l ∧ Below w.heap.size w w' := by
  have C := SMayF_any a1 a2 a3 a4 a5 k1 k2 k3 k4 k5 r n w hm
  rw [h] at C
  exact C.mono fun x w' ⟨v, h1, ⟨a, c, h2, h3, h4⟩, h5⟩ => ⟨a, c, by rw [h1, h2], h3, h4, h5⟩
theorem A_Plan (a1 a2 a3 a4 a5 : Option Addr) (k1 k2 k3 k4 k5 : Nat) (r : SeRoom) (l : List Int) (n e : Int) (h : planOf r = (l, n, e)) (w : World) (hm : RoomC w a1 a2 a3 a4 a5 k1 k2 k3 k4 k5 r) : Calls Try.prog 30 #[(.agg #[.slice a1 r.writers.length k1, .slice a2 r.kept.length k2, .slice a3 r.leaks.length k3, .slice a4 r.letters.length k4, .slice a5 r.heard.length k5])] w fun x w' => ∃ a c, x = .returned (.tuple #[.slice a l.length c, .int .i64 n, .int .i64 e]) ∧ SlOk a l.length c ∧ IntsC w' a l ∧ Below w.heap.size w w' := by
  have C := SPlanF_any a1 a2 a3 a4 a5 k1 k2 k3 k4 k5 r w hm
  rw [h] at C
  exact C.mono fun x w' ⟨v, h1, ⟨a, c, h2, h3, h4⟩, h5⟩ => ⟨a, c, by rw [h1, h2], h3, h4, h5⟩
theorem A_Cut (a1 a2 a3 a4 a5 : Option Addr) (k1 k2 k3 k4 k5 : Nat) (r : SeRoom) (s : Int) (l : List Int) (e : Int) (h : cutOf r s = (l, e)) (w : World) (hm : RoomC w a1 a2 a3 a4 a5 k1 k2 k3 k4 k5 r) : Calls Try.prog 32 #[(.agg #[.slice a1 r.writers.length k1, .slice a2 r.kept.length k2, .slice a3 r.leaks.length k3, .slice a4 r.letters.length k4, .slice a5 r.heard.length k5]), .int .i64 s] w fun x w' => ∃ a c, x = .returned (.tuple #[.slice a l.length c, .int .i64 e]) ∧ SlOk a l.length c ∧ IntsC w' a l ∧ Below w.heap.size w w' := by
  have C := SCut_any a1 a2 a3 a4 a5 k1 k2 k3 k4 k5 r s w hm
  rw [h] at C
  exact C.mono fun x w' ⟨v, h1, ⟨a, c, h2, h3, h4⟩, h5⟩ => ⟨a, c, by rw [h1, h2], h3, h4, h5⟩
theorem B_Check (a1 a2 a3 a4 a5 : Option Addr) (k1 k2 k3 k4 k5 : Nat) (r : SeRoom) (i j e : Int) (h : seCheck r = (i, j, e)) (w : World) (hm : RoomC w a1 a2 a3 a4 a5 k1 k2 k3 k4 k5 r) : Calls Try.prog 17 #[(.agg #[.slice a1 r.writers.length k1, .slice a2 r.kept.length k2, .slice a3 r.leaks.length k3, .slice a4 r.letters.length k4, .slice a5 r.heard.length k5])] w fun x w' => x = .returned (.tuple #[.int .i64 i, .int .i64 j, .int .i64 e]) ∧ Below w.heap.size w w' := by
  have C := RCheck_any a1 a2 a3 a4 a5 k1 k2 k3 k4 k5 r w hm
  rwa [h] at C
theorem B_Since (a1 a2 a3 a4 a5 : Option Addr) (k1 k2 k3 k4 k5 : Nat) (r : SeRoom) (u s : Int) (lo hi m e : Int) (h : sinceOf r u s = ((lo, hi), m, e)) (w : World) (hm : RoomC w a1 a2 a3 a4 a5 k1 k2 k3 k4 k5 r) : Calls Try.prog 19 #[(.agg #[.slice a1 r.writers.length k1, .slice a2 r.kept.length k2, .slice a3 r.leaks.length k3, .slice a4 r.letters.length k4, .slice a5 r.heard.length k5]), .int .i64 u, .int .i64 s] w fun x w' => x = .returned (.tuple #[.agg #[.int .i64 lo, .int .i64 hi], .int .i64 m, .int .i64 e]) ∧ Below w.heap.size w w' := by
  have C := RSince_any a1 a2 a3 a4 a5 k1 k2 k3 k4 k5 r u s w hm
  rwa [h] at C
theorem B_Knows (a1 a2 a3 a4 a5 : Option Addr) (k1 k2 k3 k4 k5 : Nat) (r : SeRoom) (u s d : Int) (m e : Int) (h : knowsOf r u s d = (m, e)) (w : World) (hm : RoomC w a1 a2 a3 a4 a5 k1 k2 k3 k4 k5 r) : Calls Try.prog 21 #[(.agg #[.slice a1 r.writers.length k1, .slice a2 r.kept.length k2, .slice a3 r.leaks.length k3, .slice a4 r.letters.length k4, .slice a5 r.heard.length k5]), .int .i64 u, .int .i64 s, .int .i64 d] w fun x w' => x = .returned (.tuple #[.int .i64 m, .int .i64 e]) ∧ Below w.heap.size w w' := by
  have C := RKnows_any a1 a2 a3 a4 a5 k1 k2 k3 k4 k5 r u s d w hm
  rwa [h] at C
theorem B_Told (a1 a2 a3 a4 a5 : Option Addr) (k1 k2 k3 k4 k5 : Nat) (r : SeRoom) (n : Int) (m e : Int) (h : toldOf r n = (m, e)) (w : World) (hm : RoomC w a1 a2 a3 a4 a5 k1 k2 k3 k4 k5 r) : Calls Try.prog 24 #[(.agg #[.slice a1 r.writers.length k1, .slice a2 r.kept.length k2, .slice a3 r.leaks.length k3, .slice a4 r.letters.length k4, .slice a5 r.heard.length k5]), .int .i64 n] w fun x w' => x = .returned (.tuple #[.int .i64 m, .int .i64 e]) ∧ Below w.heap.size w w' := by
  have C := RTold_any a1 a2 a3 a4 a5 k1 k2 k3 k4 k5 r n w hm
  rwa [h] at C
theorem B_Wrong (a1 a2 a3 a4 a5 : Option Addr) (k1 k2 k3 k4 k5 : Nat) (r : SeRoom) (l : List Int) (e : Int) (h : seWrongOf r = (l, e)) (w : World) (hm : RoomC w a1 a2 a3 a4 a5 k1 k2 k3 k4 k5 r) : Calls Try.prog 26 #[(.agg #[.slice a1 r.writers.length k1, .slice a2 r.kept.length k2, .slice a3 r.leaks.length k3, .slice a4 r.letters.length k4, .slice a5 r.heard.length k5])] w fun x w' => ∃ a c, x = .returned (.tuple #[.slice a l.length c, .int .i64 e]) ∧ SlOk a l.length c ∧ IntsC w' a l ∧ Below w.heap.size w w' := by
  have C := RWrong_any a1 a2 a3 a4 a5 k1 k2 k3 k4 k5 r w hm
  rw [h] at C
  exact C.mono fun x w' ⟨v, h1, ⟨a, c, h2, h3, h4⟩, h5⟩ => ⟨a, c, by rw [h1, h2], h3, h4, h5⟩
theorem B_May (a1 a2 a3 a4 a5 : Option Addr) (k1 k2 k3 k4 k5 : Nat) (r : SeRoom) (n : Int) (l : List Int) (e : Int) (h : mayOf r n = (l, e)) (w : World) (hm : RoomC w a1 a2 a3 a4 a5 k1 k2 k3 k4 k5 r) : Calls Try.prog 29 #[(.agg #[.slice a1 r.writers.length k1, .slice a2 r.kept.length k2, .slice a3 r.leaks.length k3, .slice a4 r.letters.length k4, .slice a5 r.heard.length k5]), .int .i64 n] w fun x w' => ∃ a c, x = .returned (.tuple #[.slice a l.length c, .int .i64 e]) ∧ SlOk a l.length c ∧ IntsC w' a l ∧ Below w.heap.size w w' := by
  have C := RMay_any a1 a2 a3 a4 a5 k1 k2 k3 k4 k5 r n w hm
  rw [h] at C
  exact C.mono fun x w' ⟨v, h1, ⟨a, c, h2, h3, h4⟩, h5⟩ => ⟨a, c, by rw [h1, h2], h3, h4, h5⟩
theorem B_Plan (a1 a2 a3 a4 a5 : Option Addr) (k1 k2 k3 k4 k5 : Nat) (r : SeRoom) (l : List Int) (n e : Int) (h : planOf r = (l, n, e)) (w : World) (hm : RoomC w a1 a2 a3 a4 a5 k1 k2 k3 k4 k5 r) : Calls Try.prog 31 #[(.agg #[.slice a1 r.writers.length k1, .slice a2 r.kept.length k2, .slice a3 r.leaks.length k3, .slice a4 r.letters.length k4, .slice a5 r.heard.length k5])] w fun x w' => ∃ a c, x = .returned (.tuple #[.slice a l.length c, .int .i64 n, .int .i64 e]) ∧ SlOk a l.length c ∧ IntsC w' a l ∧ Below w.heap.size w w' := by
  have C := RPlan_any a1 a2 a3 a4 a5 k1 k2 k3 k4 k5 r w hm
  rw [h] at C
  exact C.mono fun x w' ⟨v, h1, ⟨a, c, h2, h3, h4⟩, h5⟩ => ⟨a, c, by rw [h1, h2], h3, h4, h5⟩
theorem B_Cut (a1 a2 a3 a4 a5 : Option Addr) (k1 k2 k3 k4 k5 : Nat) (r : SeRoom) (s : Int) (l : List Int) (e : Int) (h : cutOf r s = (l, e)) (w : World) (hm : RoomC w a1 a2 a3 a4 a5 k1 k2 k3 k4 k5 r) : Calls Try.prog 33 #[(.agg #[.slice a1 r.writers.length k1, .slice a2 r.kept.length k2, .slice a3 r.leaks.length k3, .slice a4 r.letters.length k4, .slice a5 r.heard.length k5]), .int .i64 s] w fun x w' => ∃ a c, x = .returned (.tuple #[.slice a l.length c, .int .i64 e]) ∧ SlOk a l.length c ∧ IntsC w' a l ∧ Below w.heap.size w w' := by
  have C := RCut_any a1 a2 a3 a4 a5 k1 k2 k3 k4 k5 r s w hm
  rw [h] at C
  exact C.mono fun x w' ⟨v, h1, ⟨a, c, h2, h3, h4⟩, h5⟩ => ⟨a, c, by rw [h1, h2], h3, h4, h5⟩
theorem al_on (W : World) (o : Obj) : Below W.heap.size W (W.alloc o) := (Below.refl _ _).alloc (Nat.le_refl _) o
theorem Ints_same {a b : Option Addr} {l : List Int} {c d : Nat} {w : World} (hl : SlOk a l.length c) (hi : IntsC w a l) (hj : IntsC w b l) :
    Calls Try.prog 27 #[.slice a l.length c, .slice b l.length d] w fun e w' => e = .returned (.bool true) ∧ Below w.heap.size w w' := by
  have C := Ints_any a b l l c d w hl.len hl.len hi hj
  rw [intsB_iff.2 rfl] at C
  exact C.mono fun e w' ⟨h1, q, h2⟩ => ⟨h1, by rw [h2]; exact below_draws _ _ q⟩
theorem Ints_true {a b : Option Addr} {l m : List Int} {c d : Nat} {w : World} (h : l = m) (hl : l.length ≤ 100) (hi : IntsC w a l) (hj : IntsC w b m) :
    Calls Try.prog 27 #[.slice a l.length c, .slice b m.length d] w fun e w' => e = .returned (.bool true) ∧ Below w.heap.size w w' := by
  have C := Ints_any a b l m c d w (by omega) (by rw [← h]; omega) hi hj
  rw [intsB_iff.2 h] at C
  exact C.mono fun e w' ⟨h1, q, h2⟩ => ⟨h1, by rw [h2]; exact below_draws _ _ q⟩
theorem ints_blk {W : World} {b : Nat} {t : TypeId} {l : List Int} (h : W.heap[b]? = some (.cells (l.map (Value.int .i64)).toArray t (0, 0))) : IntsC W (some ⟨b, 0, none⟩) l := fun i hi =>
  ⟨b, 0, rfl, lt_of_block h, blk_cell _ h (by simp [hi])⟩
theorem Ints_one {a : Option Addr} {l : List Int} {c : Nat} {w : World} (x : Int) (t : TypeId) (h : l = [x]) (hi : IntsC w a l) :
    Calls Try.prog 27 #[.slice a l.length c, .slice (some ⟨w.heap.size, 0, none⟩) 1 1] (w.alloc (.cells #[.int .i64 x] t)) fun e w' => e = .returned (.bool true) ∧ Below w.heap.size w w' :=
  (Ints_true (m := [x]) (d := 1) h (by rw [h]; simp) (hi.mono (al_on w _)) (ints_blk (alloc_at _ _ rfl))).mono fun e w' ⟨h1, h2⟩ => ⟨h1, (al_on w _).trans (h2.mono (by simp))⟩
theorem Ints_two {a : Option Addr} {l : List Int} {c : Nat} {w : World} (x y : Int) (t : TypeId) (h : l = [x, y]) (hi : IntsC w a l) :
    Calls Try.prog 27 #[.slice a l.length c, .slice (some ⟨w.heap.size, 0, none⟩) 2 2] (w.alloc (.cells #[.int .i64 x, .int .i64 y] t)) fun e w' => e = .returned (.bool true) ∧ Below w.heap.size w w' :=
  (Ints_true (m := [x, y]) (d := 2) h (by rw [h]; simp) (hi.mono (al_on w _)) (ints_blk (alloc_at _ _ rfl))).mono fun e w' ⟨h1, h2⟩ => ⟨h1, (al_on w _).trans (h2.mono (by simp))⟩
theorem Ints_three {a : Option Addr} {l : List Int} {c : Nat} {w : World} (x y z : Int) (t : TypeId) (h : l = [x, y, z]) (hi : IntsC w a l) :
    Calls Try.prog 27 #[.slice a l.length c, .slice (some ⟨w.heap.size, 0, none⟩) 3 3] (w.alloc (.cells #[.int .i64 x, .int .i64 y, .int .i64 z] t)) fun e w' => e = .returned (.bool true) ∧ Below w.heap.size w w' :=
  (Ints_true (m := [x, y, z]) (d := 3) h (by rw [h]; simp) (hi.mono (al_on w _)) (ints_blk (alloc_at _ _ rfl))).mono fun e w' ⟨h1, h2⟩ => ⟨h1, (al_on w _).trans (h2.mono (by simp))⟩
end Go.Proofs.Ytmhbjohpggghgaa
namespace Go.Proofs.Ytmhbjohpggghgaa
open Go Go.RowKit
theorem hold_al {u V V' : World} {o : Obj} {p : Prop} (h : Below u.heap.size u V ∧ p) (hb : Below V.heap.size V V') : Below u.heap.size u V' := h.1.trans (hb.mono h.1.size)
theorem grow_alloc {u V : World} {o : Obj} (h : Below u.heap.size u V) : Below u.heap.size u (V.alloc o) := h.alloc h.size o
def SpC (W : World) (b : Nat) (x y : Int) : Prop := W.cell? ⟨b, 0, none⟩ = some (.int .i64 x) ∧ W.cell? ⟨b, 1, none⟩ = some (.int .i64 y) ∧ b < W.heap.size
theorem sp_on {W V : World} {b : Nat} {x y : Int} (h : SpC W b x y) (hb : Below W.heap.size W V) : SpC V b x y :=
  ⟨cell_below hb h.1, cell_below hb h.2.1, Nat.lt_of_lt_of_le h.2.2 hb.size⟩
theorem sp_new (W : World) (x y : Int) (t : TypeId) : SpC (W.alloc (.cells #[.int .i64 x, .int .i64 y] t)) W.heap.size x y :=
  ⟨blk_cell 0 (alloc_at _ _ rfl) rfl, blk_cell 1 (alloc_at _ _ rfl) rfl, by simp⟩
theorem q_on {X V V' : World} (h : Below X.heap.size X V) (h2 : Below V.heap.size V V') : Below X.heap.size X V' := h.trans (h2.mono h.size)
theorem put_is {a : Act} {d : Option Tmp} {n : Tmp} {v : Value} (h : d = some n) : a.put d v = a.put (some n) v := by rw [h]
end Go.Proofs.Ytmhbjohpggghgaa
namespace Go.Proofs.Ytmhbjohpggghgaa
open Go Go.RowKit Go.Shelf

set_option maxRecDepth 100000 in
set_option maxHeartbeats 1000000 in
theorem Valid_any (a1 a2 a3 a4 a5 : Option Addr) (k1 k2 k3 k4 k5 : Nat) (r : SeRoom) (w : World) (hm : RoomC w a1 a2 a3 a4 a5 k1 k2 k3 k4 k5 r) : Calls Try.prog 37 #[(.agg #[.slice a1 r.writers.length k1, .slice a2 r.kept.length k2, .slice a3 r.leaks.length k3, .slice a4 r.letters.length k4, .slice a5 r.heard.length k5])] w fun e w' => e = .returned (.bool (decide (seErr r = 0))) ∧ Below w.heap.size w w' := by
  obtain ⟨⟨q1, q2, q3⟩, h1⟩ : ∃ x, seCheck r = x := ⟨_, rfl⟩
  have he : seErr r = q3 := by unfold seErr; rw [h1]
  rw [he]
  replace h1 := Lib.hid h1
  clear he
  have hB0 := Below.refl (w.heap.size + 1) (w.alloc (.cells #[.slice a1 r.writers.length k1, .slice a2 r.kept.length k2, .slice a3 r.leaks.length k3, .slice a4 r.letters.length k4, .slice a5 r.heard.length k5] 28))
  obtain ⟨x0, x1, x2, x3, x4, z0⟩ := box_room hB0
  have C := Lib.hid (B_Check _ _ _ _ _ _ _ _ _ _ r q1 q2 q3 h1.out (w.alloc (.cells #[.slice a1 r.writers.length k1, .slice a2 r.kept.length k2, .slice a3 r.leaks.length k3, .slice a4 r.letters.length k4, .slice a5 r.heard.length k5] 28)) (hm.mono (box_old hB0)))
  by_cases h0 : q3 = 0
  all_goals
    first
      | (have c1 := eqi_t h0; have hr := Lib.hid (decide_eq_true h0))
      | (have c1 := eqi_f h0; have hr := Lib.hid (decide_eq_false h0))
    go_enter Try.func37, Try.ntmps37
    go_wp2_with (go_at_call 17; go_must ((with_reducible refine C.out.mono ?_); rintro e w2 ⟨rfl, hb⟩; have hB2 := room_next hB0 hb; dsimp only))
    go_ret
    exact ⟨ret_bool hr.out.symm, box_old hB2⟩

set_option maxRecDepth 100000 in
set_option maxHeartbeats 1000000 in
theorem Some_any (a1 a2 a3 a4 a5 : Option Addr) (k1 k2 k3 k4 k5 : Nat) (r : SeRoom) (w : World) (hm : RoomC w a1 a2 a3 a4 a5 k1 k2 k3 k4 k5 r) : Calls Try.prog 43 #[(.agg #[.slice a1 r.writers.length k1, .slice a2 r.kept.length k2, .slice a3 r.leaks.length k3, .slice a4 r.letters.length k4, .slice a5 r.heard.length k5])] w fun e w' => e = .returned (.bool (someB r)) ∧ Below w.heap.size w w' := by
  have hB0 := Below.refl (w.heap.size + 1) (w.alloc (.cells #[.slice a1 r.writers.length k1, .slice a2 r.kept.length k2, .slice a3 r.leaks.length k3, .slice a4 r.letters.length k4, .slice a5 r.heard.length k5] 28))
  obtain ⟨x0, x1, x2, x3, x4, z0⟩ := box_room hB0
  have hS : someB r = (decide (seErr r = 0) && decide (0 < (seTruths r []).length)) := rfl
  have V := Valid_any _ _ _ _ _ _ _ _ _ _ r (w.alloc (.cells #[.slice a1 r.writers.length k1, .slice a2 r.kept.length k2, .slice a3 r.leaks.length k3, .slice a4 r.letters.length k4, .slice a5 r.heard.length k5] 28)) (hm.mono (box_old hB0))
  by_cases h0 : seErr r = 0
  · have hv := seValid_of h0
    rw [decide_eq_true h0] at V
    rw [decide_eq_true h0, Bool.true_and] at hS
    have T := fun (W : World) (h : Below (w.heap.size + 1) (w.alloc (.cells #[.slice a1 r.writers.length k1, .slice a2 r.kept.length k2, .slice a3 r.leaks.length k3, .slice a4 r.letters.length k4, .slice a5 r.heard.length k5] 28)) W) => RTruths_any a1 a2 a3 a4 a5 k1 k2 k3 k4 k5 r none [] 0 W (hm.mono (box_old h)) hv ⟨by simp, by omega, fun _ => rfl⟩ (IntsC.nil _ _)
    rw [List.length_nil] at T
    replace V := Lib.hid V
    replace T := Lib.hid T
    rw [hS]
    clear hS h0
    generalize seTruths r [] = L at T
    by_cases hl : (0 : Int) < L.length
    all_goals
      first
        | (have hr := Lib.hid (decide_eq_true (show 0 < L.length by omega)))
        | (have hr := Lib.hid (decide_eq_false (show ¬ 0 < L.length by omega)))
      go_enter Try.func43, Try.ntmps43
      go_wp2_with (first
        | (go_at_call 46; go_must ((with_reducible refine (T.out _ hB2).mono ?_); rintro e w3 ⟨v, rfl, ⟨a, c, rfl, hso, -⟩, hb3⟩; have hB3 := room_next hB2 hb3; have hll := hso.len; dsimp only))
        | (go_at_call 37; go_must ((with_reducible refine V.out.mono ?_); rintro e w2 ⟨rfl, hb⟩; have hB2 := room_next hB0 hb; obtain ⟨x0, x1, x2, x3, x4, z0⟩ := box_room hB2; dsimp only)))
      go_ret
      exact ⟨by first | rfl | exact ret_bool hr.out.symm, box_old hB3⟩
  · rw [decide_eq_false h0] at V
    rw [decide_eq_false h0, Bool.false_and] at hS
    replace V := Lib.hid V
    rw [hS]
    clear hS h0
    go_enter Try.func43, Try.ntmps43
    go_wp2_with (go_at_call 37; go_must ((with_reducible refine V.out.mono ?_); rintro e w2 ⟨rfl, hb⟩; have hB2 := room_next hB0 hb; dsimp only))
    go_ret
    exact ⟨rfl, box_old hB2⟩

set_option maxHeartbeats 1000000 in
theorem Subset_any (a b : Option Addr) (l m : List Int) (c d : Nat) (w : World) (hl : SlOk a l.length c) (hm : SlOk b m.length d) (hi : IntsC w a l) (hj : IntsC w b m) :
    Calls Try.prog 51 #[.slice a l.length c, .slice b m.length d] w fun e w' => e = .returned (.bool (subB l m)) ∧ w' = w := by
  have HS : Hid (subB l m = l.all (hasB m)) := rfl
  have hll := hl.len
  generalize subB l m = res at HS ⊢
  have HA := Lib.hid (fun n => Has_any b m d n w hm.len hj)
  go_enter Try.func51, Try.ntmps51
  go_wp2
  go_loop [5] (fun i => ∃ j : Nat, j ≤ l.length ∧ i = .int .i64 j ∧ Hid ((l.take j).all (hasB m) = true)) (fun i => l.length - (intOf i).toNat)
  case atStart => exact ⟨0, Nat.zero_le _, rfl, Lib.hid (by simp)⟩
  case round =>
    obtain ⟨j, hj, rfl, HJ⟩ := hrel
    by_cases hlt : j < l.length
    · obtain ⟨b1, o1, rfl, hb1, hx⟩ := hi j hlt
      have HT := Lib.hid (fun h => all_take (hasB m) l j hlt HJ.out h)
      have HN := Lib.hid (fun h => HS.out.trans (all_not (hasB m) l j hlt h))
      generalize l[j] = x at hx HT HN
      have A := HA.out x
      generalize hasB m x = hb at A HT HN
      have A := Lib.hid A
      have hji : (j : Int) < l.length := by omega
      cases hb
      · have hr := Lib.hid (HN.out rfl)
        go_wp2_with (go_at_call 39; go_must ((with_reducible refine A.out.mono ?_); rintro e w5 ⟨rfl, hw5⟩; obtain rfl := hw5.symm; dsimp only))
        go_ret
        exact ⟨ret_bool hr.out.symm, rfl⟩
      · have ht := Lib.hid (HT.out rfl)
        go_wp2_with (go_at_call 39; go_must ((with_reducible refine A.out.mono ?_); rintro e w5 ⟨rfl, hw5⟩; obtain rfl := hw5.symm; dsimp only))
        go_round
        case rel => exact ⟨j + 1, by omega, by go_num, ht⟩
        case measure => simp [intOf]; omega
    · obtain rfl : j = l.length := by omega
      have hr := Lib.hid (show res = true by rw [HS.out, ← HJ.out, List.take_length])
      go_wp2
      go_ret
      exact ⟨ret_bool hr.out.symm, rfl⟩
end Go.Proofs.Ytmhbjohpggghgaa
