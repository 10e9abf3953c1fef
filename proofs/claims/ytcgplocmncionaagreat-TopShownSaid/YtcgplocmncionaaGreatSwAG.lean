/- What is proved here: the plain functions' answers at the rooms of the examples of layer 12, by computation. No condition. -/
/- What is proved here: contracts of the laws' Room and span of layer 12. No condition. -/
/- What is proved here: the functions of layer 12 and of its reference, at rooms whose answers are named; numbers that are compared. Conditions: the room lies in memory. -/
/- What is proved here: cells that last, of a span, of worlds that grow. No condition. -/
/- What is proved here: contracts of the laws' valid, some and subset of layer 12. Conditions: the room lies in memory. -/
/- What is proved here: append as a step of a region that draws its order. Over any program. -/
/- What is proved here: a region that draws its order and ends in one operation z for which the others are waited: what holds of the world all along need not hold behind z. Over any program. -/
import Derived.Test.YtcgplocmncionaaGreatSpAll
import Derived.Test.YtcgplocmncionaaGreatSrG
import Derived.Deep.AppendLies
import Derived.Deep.RegionHeld3
import Derived.Deep.RegionHeld
import Derived.StillTail
set_option linter.unusedVariables false
set_option linter.unusedSimpArgs false
namespace Go.Proofs.YtcgplocmncionaaGreat
/-- The room of the examples, of which some things were heard. -/
def exR (H : List SeHeard) : SeRoom :=
  { writers := [⟨#[97, 110, 97]⟩, ⟨#[98, 101, 110]⟩, ⟨#[99, 105, 100]⟩], kept := [4, 0], leaks := [⟨0, 1, true⟩, ⟨1, 2, false⟩], letters := [⟨0, 1, 0⟩, ⟨1, 2, -1⟩, ⟨1, 1, -1⟩], heard := H }
theorem ex_ben : sinceOf (exR []) 1 0 = ((1, 1), 1, 0) := by decide +kernel
theorem ex_cid : sinceOf (exR []) 2 0 = ((2, 2), 0, 0) := by decide +kernel
theorem ex_never : sinceOf (exR []) 2 1 = ((0, 0), 2, 0) := by decide +kernel
theorem ex_two : knowsOf (exR []) 2 0 2 = (0, 0) := by decide +kernel
theorem ex_one : knowsOf (exR []) 2 0 1 = (2, 0) := by decide +kernel
theorem ex_told : toldOf (exR [⟨2, 0, 3, true⟩]) 1 = (1, 0) := by decide +kernel
theorem ex_not : toldOf (exR [⟨2, 0, 5, false⟩]) 1 = (2, 0) := by decide +kernel
theorem ex_wrong : seWrongOf (exR [⟨2, 0, 1, true⟩]) = ([0], 0) := by decide +kernel
theorem ex_zero : toldOf (exR [⟨2, 0, 1, true⟩]) 0 = (0, 8) := by decide +kernel
theorem ex_all : mayOf (exR []) 1 = ([0, 1, 2], 0) := by decide +kernel
theorem ex_some : mayOf (exR [⟨2, 0, 5, false⟩]) 2 = ([0, 1], 0) := by decide +kernel
theorem ex_plan : planOf (exR [⟨2, 0, 5, false⟩]) = ([0, 0, 1], 0, 0) := by decide +kernel
theorem ex_down : planOf (exR []) = ([], 0, 9) := by decide +kernel
theorem ex_cut : cutOf (exR []) 0 = ([0], 0) := by decide +kernel
end Go.Proofs.YtcgplocmncionaaGreat
namespace Go.Proofs.YtcgplocmncionaaGreat
open Go Go.RowKit

theorem exR_blk {W : World} {b1 b2 b3 b4 : Nat} {t1 t2 t3 t4 : TypeId} {a5 : Option Addr} {k5 : Nat} {H : List SeHeard}
    (h1 : W.heap[b1]? = some (.cells #[.string ⟨#[97, 110, 97]⟩, .string ⟨#[98, 101, 110]⟩, .string ⟨#[99, 105, 100]⟩] t1 (0, 0)))
    (h2 : W.heap[b2]? = some (.cells #[.int .i64 4, .int .i64 0] t2 (0, 0)))
    (h3 : W.heap[b3]? = some (.cells #[.int .i64 0, .int .i64 1, .bool true, .int .i64 1, .int .i64 2, .bool false] t3 (0, 0)))
    (h4 : W.heap[b4]? = some (.cells #[.int .i64 0, .int .i64 1, .int .i64 0, .int .i64 1, .int .i64 2, .int .i64 (-1), .int .i64 1, .int .i64 1, .int .i64 (-1)] t4 (0, 0)))
    (ho : SlOk a5 H.length k5) (h5 : HeardC W a5 H) : RoomC W (some ⟨b1, 0, none⟩) (some ⟨b2, 0, none⟩) (some ⟨b3, 0, none⟩) (some ⟨b4, 0, none⟩) a5 3 2 2 3 k5 (exR H) := by
  refine ⟨⟨Nat.le_refl _, by decide, fun h => by cases h⟩, ⟨Nat.le_refl _, by decide, fun h => by cases h⟩, ⟨Nat.le_refl _, by decide, fun h => by cases h⟩, ⟨Nat.le_refl _, by decide, fun h => by cases h⟩, ho, fun i hi => ?_, fun i hi => ?_, fun i hi => ?_, fun i hi => ?_, h5, fun s hs => ?_⟩
  · have h : i = 0 ∨ i = 1 ∨ i = 2 := by have : i < 3 := hi; omega
    rcases h with rfl | rfl | rfl <;> exact ⟨b1, 0, rfl, lt_of_block h1, blk_cell _ h1 rfl⟩
  · have h : i = 0 ∨ i = 1 := by have : i < 2 := hi; omega
    rcases h with rfl | rfl <;> exact ⟨b2, 0, rfl, lt_of_block h2, blk_cell _ h2 rfl⟩
  · have h : i = 0 ∨ i = 1 := by have : i < 2 := hi; omega
    rcases h with rfl | rfl <;> exact ⟨b3, 0, rfl, lt_of_block h3, blk_cell _ h3 rfl, blk_cell _ h3 rfl, blk_cell _ h3 rfl⟩
  · have h : i = 0 ∨ i = 1 ∨ i = 2 := by have : i < 3 := hi; omega
    rcases h with rfl | rfl | rfl <;> exact ⟨b4, 0, rfl, lt_of_block h4, blk_cell _ h4 rfl, blk_cell _ h4 rfl, blk_cell _ h4 rfl⟩
  · have hs : s = ⟨#[97, 110, 97]⟩ ∨ s = ⟨#[98, 101, 110]⟩ ∨ s = ⟨#[99, 105, 100]⟩ := by simpa [exR] using hs
    rcases hs with rfl | rfl | rfl <;> decide

theorem heard_one {W : World} {b : Nat} {t : TypeId} {x : SeHeard} (h : W.heap[b]? = some (.cells #[.int .i64 x.writer, .int .i64 x.secret, .int .i64 x.day, .bool x.knew] t (0, 0))) : HeardC W (some ⟨b, 0, none⟩) [x] := fun i hi => by
  have e : i = 0 := by simp at hi; omega
  subst e
  exact ⟨b, 0, rfl, lt_of_block h, blk_cell _ h rfl, blk_cell _ h rfl, blk_cell _ h rfl, blk_cell _ h rfl⟩
set_option maxRecDepth 100000 in
set_option maxHeartbeats 1000000 in
theorem Room_none (w : World) : Calls Tryz.prog 33 #[.int .i64 (-1), .bool false] w fun e w' => ∃ a1 a2 a3 a4 a5 k1 k2 k3 k4 k5, e = .returned (roomV a1 a2 a3 a4 a5 k1 k2 k3 k4 k5 (exR [])) ∧ RoomC w' a1 a2 a3 a4 a5 k1 k2 k3 k4 k5 (exR []) ∧ Below w.heap.size w w' := by
  go_enter Tryz.func33, Tryz.ntmps33
  go_wp2
  (try simp only [Exit.inBlock, Exit.then])
  refine bodyPost_ret (v := .agg #[.slice (some ⟨w.heap.size + 1, 0, none⟩) 3 3, .slice (some ⟨w.heap.size + 1 + 1, 0, none⟩) 2 2, .slice (some ⟨w.heap.size + 1 + 1 + 1, 0, none⟩) 2 2, .slice (some ⟨w.heap.size + 1 + 1 + 1 + 1, 0, none⟩) 3 3, .slice none 0 0]) ?_ rfl ⟨some ⟨w.heap.size + 1, 0, none⟩, some ⟨w.heap.size + 1 + 1, 0, none⟩, some ⟨w.heap.size + 1 + 1 + 1, 0, none⟩, some ⟨w.heap.size + 1 + 1 + 1 + 1, 0, none⟩, none, 3, 2, 2, 3, 0, rfl, ?_, ?_⟩
  · rw [results_cell1 rfl]
    go_simp
  · refine exR_blk (t1 := 9) (t2 := 3) (t3 := 37) (t4 := 43) ?_ ?_ ?_ ?_ ⟨by decide, by decide, fun _ => rfl⟩ (fun i hi => absurd hi (Nat.not_lt_zero i))
    all_goals (repeat' (first | exact alloc_at _ _ (by simp) | refine (Below.heap_setCell _ _ _ _ (by simp)).trans ?_ | refine (heap_alloc_old _ _ (by first | omega | (simp <;> omega))).trans ?_))
  · exact (by (repeat' (first | assumption | exact Below.refl _ _ | refine below_drew' ?_ | refine Below.setCell ?_ (by first | omega | (simp <;> omega)) _ | refine Below.alloc ?_ (by first | omega | (simp <;> omega)) _)))

set_option maxRecDepth 100000 in
set_option maxHeartbeats 1000000 in
theorem Room_some (day : Int) (knew : Bool) (w : World) (hd : 0 ≤ day) : Calls Tryz.prog 33 #[.int .i64 day, .bool knew] w fun e w' => ∃ a1 a2 a3 a4 a5 k1 k2 k3 k4 k5, e = .returned (roomV a1 a2 a3 a4 a5 k1 k2 k3 k4 k5 (exR [⟨2, 0, day, knew⟩])) ∧ RoomC w' a1 a2 a3 a4 a5 k1 k2 k3 k4 k5 (exR [⟨2, 0, day, knew⟩]) ∧ Below w.heap.size w w' := by
  go_enter Tryz.func33, Tryz.ntmps33
  go_wp2
  (try simp only [Exit.inBlock, Exit.then])
  refine bodyPost_ret (v := .agg #[.slice (some ⟨w.heap.size + 1, 0, none⟩) 3 3, .slice (some ⟨w.heap.size + 1 + 1, 0, none⟩) 2 2, .slice (some ⟨w.heap.size + 1 + 1 + 1, 0, none⟩) 2 2, .slice (some ⟨w.heap.size + 1 + 1 + 1 + 1, 0, none⟩) 3 3, .slice (some ⟨w.heap.size + 1 + 1 + 1 + 1 + 1 + 1, 0, none⟩) 1 1]) ?_ rfl ⟨some ⟨w.heap.size + 1, 0, none⟩, some ⟨w.heap.size + 1 + 1, 0, none⟩, some ⟨w.heap.size + 1 + 1 + 1, 0, none⟩, some ⟨w.heap.size + 1 + 1 + 1 + 1, 0, none⟩, some ⟨w.heap.size + 1 + 1 + 1 + 1 + 1 + 1, 0, none⟩, 3, 2, 2, 3, 1, rfl, ?_, ?_⟩
  · rw [results_cell1 rfl]
    go_simp
  · refine exR_blk (t1 := 9) (t2 := 3) (t3 := 37) (t4 := 43) ?_ ?_ ?_ ?_ ⟨Nat.le_refl _, by decide, fun h => by cases h⟩ (heard_one (t := 58) ?_)
    all_goals (repeat' (first | exact alloc_at _ _ (by simp) | refine (Below.heap_setCell _ _ _ _ (by simp)).trans ?_ | refine (heap_alloc_old _ _ (by first | omega | (simp <;> omega))).trans ?_))
  · exact (by (repeat' (first | assumption | exact Below.refl _ _ | refine below_drew' ?_ | refine Below.setCell ?_ (by first | omega | (simp <;> omega)) _ | refine Below.alloc ?_ (by first | omega | (simp <;> omega)) _)))

theorem Span_any (lo hi : Int) (w : World) : Calls Tryz.prog 39 #[.int .i64 lo, .int .i64 hi] w fun e w' => e = .returned (.agg #[.int .i64 lo, .int .i64 hi]) ∧ Below w.heap.size w w' := by
  go_enter Tryz.func39, Tryz.ntmps39
  go_wp2
  (try simp only [Exit.inBlock, Exit.then])
  refine bodyPost_ret (v := .agg #[.int .i64 lo, .int .i64 hi]) ?_ rfl ⟨rfl, ?_⟩
  · rw [results_cell1 rfl]
    go_simp
  · exact (by (repeat' (first | assumption | exact Below.refl _ _ | refine below_drew' ?_ | refine Below.setCell ?_ (by first | omega | (simp <;> omega)) _ | refine Below.alloc ?_ (by first | omega | (simp <;> omega)) _)))
end Go.Proofs.YtcgplocmncionaaGreat
namespace Go.Proofs.YtcgplocmncionaaGreat
open Go Go.RowKit

theorem A_Check (a1 a2 a3 a4 a5 : Option Addr) (k1 k2 k3 k4 k5 : Nat) (r : SeRoom) (i j e : Int) (h : seCheck r = (i, j, e)) (w : World) (hm : RoomC w a1 a2 a3 a4 a5 k1 k2 k3 k4 k5 r) : Calls Tryz.prog 52 #[(.agg #[.slice a1 r.writers.length k1, .slice a2 r.kept.length k2, .slice a3 r.leaks.length k3, .slice a4 r.letters.length k4, .slice a5 r.heard.length k5])] w fun x w' => x = .returned (.tuple #[.int .i64 i, .int .i64 j, .int .i64 e]) ∧ Below w.heap.size w w' := by
  have C := SCheck_any a1 a2 a3 a4 a5 k1 k2 k3 k4 k5 r w hm
  rwa [h] at C
theorem A_Since (a1 a2 a3 a4 a5 : Option Addr) (k1 k2 k3 k4 k5 : Nat) (r : SeRoom) (u s : Int) (lo hi m e : Int) (h : sinceOf r u s = ((lo, hi), m, e)) (w : World) (hm : RoomC w a1 a2 a3 a4 a5 k1 k2 k3 k4 k5 r) : Calls Tryz.prog 34 #[(.agg #[.slice a1 r.writers.length k1, .slice a2 r.kept.length k2, .slice a3 r.leaks.length k3, .slice a4 r.letters.length k4, .slice a5 r.heard.length k5]), .int .i64 u, .int .i64 s] w fun x w' => x = .returned (.tuple #[.agg #[.int .i64 lo, .int .i64 hi], .int .i64 m, .int .i64 e]) ∧ Below w.heap.size w w' := by
  have C := SSinceF_any a1 a2 a3 a4 a5 k1 k2 k3 k4 k5 r u s w hm
  rwa [h] at C
theorem A_Knows (a1 a2 a3 a4 a5 : Option Addr) (k1 k2 k3 k4 k5 : Nat) (r : SeRoom) (u s d : Int) (m e : Int) (h : knowsOf r u s d = (m, e)) (w : World) (hm : RoomC w a1 a2 a3 a4 a5 k1 k2 k3 k4 k5 r) : Calls Tryz.prog 5 #[(.agg #[.slice a1 r.writers.length k1, .slice a2 r.kept.length k2, .slice a3 r.leaks.length k3, .slice a4 r.letters.length k4, .slice a5 r.heard.length k5]), .int .i64 u, .int .i64 s, .int .i64 d] w fun x w' => x = .returned (.tuple #[.int .i64 m, .int .i64 e]) ∧ Below w.heap.size w w' := by
  have C := SKnows_any a1 a2 a3 a4 a5 k1 k2 k3 k4 k5 r u s d w hm
  rwa [h] at C
theorem A_Told (a1 a2 a3 a4 a5 : Option Addr) (k1 k2 k3 k4 k5 : Nat) (r : SeRoom) (n : Int) (m e : Int) (h : toldOf r n = (m, e)) (w : World) (hm : RoomC w a1 a2 a3 a4 a5 k1 k2 k3 k4 k5 r) : Calls Tryz.prog 35 #[(.agg #[.slice a1 r.writers.length k1, .slice a2 r.kept.length k2, .slice a3 r.leaks.length k3, .slice a4 r.letters.length k4, .slice a5 r.heard.length k5]), .int .i64 n] w fun x w' => x = .returned (.tuple #[.int .i64 m, .int .i64 e]) ∧ Below w.heap.size w w' := by
  have C := STold_any a1 a2 a3 a4 a5 k1 k2 k3 k4 k5 r n w hm
  rwa [h] at C
theorem A_Wrong (a1 a2 a3 a4 a5 : Option Addr) (k1 k2 k3 k4 k5 : Nat) (r : SeRoom) (l : List Int) (e : Int) (h : seWrongOf r = (l, e)) (w : World) (hm : RoomC w a1 a2 a3 a4 a5 k1 k2 k3 k4 k5 r) : Calls Tryz.prog 36 #[(.agg #[.slice a1 r.writers.length k1, .slice a2 r.kept.length k2, .slice a3 r.leaks.length k3, .slice a4 r.letters.length k4, .slice a5 r.heard.length k5])] w fun x w' => ∃ a c, x = .returned (.tuple #[.slice a l.length c, .int .i64 e]) ∧ SlOk a l.length c ∧ IntsC w' a l ∧ Below w.heap.size w w' := by
  have C := SWrong_any a1 a2 a3 a4 a5 k1 k2 k3 k4 k5 r w hm
  rw [h] at C
  exact C.mono fun x w' ⟨v, h1, ⟨a, c, h2, h3, h4⟩, h5⟩ => ⟨a, c, by rw [h1, h2], h3, h4, h5⟩
theorem A_May (a1 a2 a3 a4 a5 : Option Addr) (k1 k2 k3 k4 k5 : Nat) (r : SeRoom) (n : Int) (l : List Int) (e : Int) (h : mayOf r n = (l, e)) (w : World) (hm : RoomC w a1 a2 a3 a4 a5 k1 k2 k3 k4 k5 r) : Calls Tryz.prog 14 #[(.agg #[.slice a1 r.writers.length k1, .slice a2 r.kept.length k2, .slice a3 r.leaks.length k3, .slice a4 r.letters.length k4, .slice a5 r.heard.length k5]), .int .i64 n] w fun x w' => ∃ a c, x = .returned (.tuple #[.slice a l.length c, .int .i64 e]) ∧ SlOk a l.length c ∧ IntsC w' a l ∧ Below w.heap.size w w' := by
  have C := SMayF_any a1 a2 a3 a4 a5 k1 k2 k3 k4 k5 r n w hm
  rw [h] at C
  exact C.mono fun x w' ⟨v, h1, ⟨a, c, h2, h3, h4⟩, h5⟩ => ⟨a, c, by rw [h1, h2], h3, h4, h5⟩
theorem A_Plan (a1 a2 a3 a4 a5 : Option Addr) (k1 k2 k3 k4 k5 : Nat) (r : SeRoom) (l : List Int) (n e : Int) (h : planOf r = (l, n, e)) (w : World) (hm : RoomC w a1 a2 a3 a4 a5 k1 k2 k3 k4 k5 r) : Calls Tryz.prog 37 #[(.agg #[.slice a1 r.writers.length k1, .slice a2 r.kept.length k2, .slice a3 r.leaks.length k3, .slice a4 r.letters.length k4, .slice a5 r.heard.length k5])] w fun x w' => ∃ a c, x = .returned (.tuple #[.slice a l.length c, .int .i64 n, .int .i64 e]) ∧ SlOk a l.length c ∧ IntsC w' a l ∧ Below w.heap.size w w' := by
  have C := SPlanF_any a1 a2 a3 a4 a5 k1 k2 k3 k4 k5 r w hm
  rw [h] at C
  exact C.mono fun x w' ⟨v, h1, ⟨a, c, h2, h3, h4⟩, h5⟩ => ⟨a, c, by rw [h1, h2], h3, h4, h5⟩
theorem A_Cut (a1 a2 a3 a4 a5 : Option Addr) (k1 k2 k3 k4 k5 : Nat) (r : SeRoom) (s : Int) (l : List Int) (e : Int) (h : cutOf r s = (l, e)) (w : World) (hm : RoomC w a1 a2 a3 a4 a5 k1 k2 k3 k4 k5 r) : Calls Tryz.prog 38 #[(.agg #[.slice a1 r.writers.length k1, .slice a2 r.kept.length k2, .slice a3 r.leaks.length k3, .slice a4 r.letters.length k4, .slice a5 r.heard.length k5]), .int .i64 s] w fun x w' => ∃ a c, x = .returned (.tuple #[.slice a l.length c, .int .i64 e]) ∧ SlOk a l.length c ∧ IntsC w' a l ∧ Below w.heap.size w w' := by
  have C := SCut_any a1 a2 a3 a4 a5 k1 k2 k3 k4 k5 r s w hm
  rw [h] at C
  exact C.mono fun x w' ⟨v, h1, ⟨a, c, h2, h3, h4⟩, h5⟩ => ⟨a, c, by rw [h1, h2], h3, h4, h5⟩
theorem al_on (W : World) (o : Obj) : Below W.heap.size W (W.alloc o) := (Below.refl _ _).alloc (Nat.le_refl _) o
theorem Ints_true {a b : Option Addr} {l m : List Int} {c d : Nat} {w : World} (h : l = m) (hl : l.length ≤ 100) (hi : IntsC w a l) (hj : IntsC w b m) :
    Calls Tryz.prog 32 #[.slice a l.length c, .slice b m.length d] w fun e w' => e = .returned (.bool true) ∧ Below w.heap.size w w' := by
  have C := Ints_any a b l m c d w (by omega) (by rw [← h]; omega) hi hj
  rw [intsB_iff.2 h] at C
  exact C.mono fun e w' ⟨h1, q, h2⟩ => ⟨h1, by rw [h2]; exact below_draws _ _ q⟩
theorem ints_blk {W : World} {b : Nat} {t : TypeId} {l : List Int} (h : W.heap[b]? = some (.cells (l.map (Value.int .i64)).toArray t (0, 0))) : IntsC W (some ⟨b, 0, none⟩) l := fun i hi =>
  ⟨b, 0, rfl, lt_of_block h, blk_cell _ h (by simp [hi])⟩
theorem Ints_one {a : Option Addr} {l : List Int} {c : Nat} {w : World} (x : Int) (t : TypeId) (h : l = [x]) (hi : IntsC w a l) :
    Calls Tryz.prog 32 #[.slice a l.length c, .slice (some ⟨w.heap.size, 0, none⟩) 1 1] (w.alloc (.cells #[.int .i64 x] t)) fun e w' => e = .returned (.bool true) ∧ Below w.heap.size w w' :=
  (Ints_true (m := [x]) (d := 1) h (by rw [h]; simp) (hi.mono (al_on w _)) (ints_blk (alloc_at _ _ rfl))).mono fun e w' ⟨h1, h2⟩ => ⟨h1, (al_on w _).trans (h2.mono (by simp))⟩
theorem Ints_two {a : Option Addr} {l : List Int} {c : Nat} {w : World} (x y : Int) (t : TypeId) (h : l = [x, y]) (hi : IntsC w a l) :
    Calls Tryz.prog 32 #[.slice a l.length c, .slice (some ⟨w.heap.size, 0, none⟩) 2 2] (w.alloc (.cells #[.int .i64 x, .int .i64 y] t)) fun e w' => e = .returned (.bool true) ∧ Below w.heap.size w w' :=
  (Ints_true (m := [x, y]) (d := 2) h (by rw [h]; simp) (hi.mono (al_on w _)) (ints_blk (alloc_at _ _ rfl))).mono fun e w' ⟨h1, h2⟩ => ⟨h1, (al_on w _).trans (h2.mono (by simp))⟩
theorem Ints_three {a : Option Addr} {l : List Int} {c : Nat} {w : World} (x y z : Int) (t : TypeId) (h : l = [x, y, z]) (hi : IntsC w a l) :
    Calls Tryz.prog 32 #[.slice a l.length c, .slice (some ⟨w.heap.size, 0, none⟩) 3 3] (w.alloc (.cells #[.int .i64 x, .int .i64 y, .int .i64 z] t)) fun e w' => e = .returned (.bool true) ∧ Below w.heap.size w w' :=
  (Ints_true (m := [x, y, z]) (d := 3) h (by rw [h]; simp) (hi.mono (al_on w _)) (ints_blk (alloc_at _ _ rfl))).mono fun e w' ⟨h1, h2⟩ => ⟨h1, (al_on w _).trans (h2.mono (by simp))⟩
end Go.Proofs.YtcgplocmncionaaGreat
namespace Go.Proofs.YtcgplocmncionaaGreat
open Go Go.RowKit
def SpC (W : World) (b : Nat) (x y : Int) : Prop := W.cell? ⟨b, 0, none⟩ = some (.int .i64 x) ∧ W.cell? ⟨b, 1, none⟩ = some (.int .i64 y) ∧ b < W.heap.size
theorem sp_on {W V : World} {b : Nat} {x y : Int} (h : SpC W b x y) (hb : Below W.heap.size W V) : SpC V b x y :=
  ⟨cell_below hb h.1, cell_below hb h.2.1, Nat.lt_of_lt_of_le h.2.2 hb.size⟩
theorem sp_new (W : World) (x y : Int) (t : TypeId) : SpC (W.alloc (.cells #[.int .i64 x, .int .i64 y] t)) W.heap.size x y :=
  ⟨blk_cell 0 (alloc_at _ _ rfl) rfl, blk_cell 1 (alloc_at _ _ rfl) rfl, by simp⟩
theorem q_on {X V V' : World} (h : Below X.heap.size X V) (h2 : Below V.heap.size V V') : Below X.heap.size X V' := h.trans (h2.mono h.size)
end Go.Proofs.YtcgplocmncionaaGreat
namespace Go.Proofs.YtcgplocmncionaaGreat
open Go Go.RowKit Go.Shelf

end Go.Proofs.YtcgplocmncionaaGreat
namespace Go.Proofs.YtcgplocmncionaaGreat
open Go Go.RowKit
theorem run_app {P : Program} {w : World} {t e ty : TypeId} {z : Value} {size bytes : Nat} (hE : ElemInfo P t e z size bytes) {v y : Value} (base n m : Nat) (xs news : List Value) (hown : w.ownsRow base e size v n xs) (hsrc : SrcAt w y m size news)
    (hnm : n + m ≤ 1000000) (hbt : bytes ≤ 1000000) (hbase : base ≤ w.heap.size) :
    ∃ v' w', (Builtin.append_ #[t, t] ty #[v, y]).run P w = .ok v' w' ∧ w'.ownsRow base e size v' (n + m) (xs ++ news) ∧ w.grownBy w' v.ownBlock ∧ (v'.ownBlock = v.ownBlock ∨ v'.ownBlock = some w.heap.size) := by
  obtain ⟨i, hi, hz, hsz, hby⟩ := info_parts hE.info
  obtain ⟨h1, h2, h3⟩ := hsrc
  rcases h3 with ⟨rfl, rfl⟩ | ⟨ad, c, rfl, hc⟩
  · have hn : news = [] := List.eq_nil_of_length_eq_zero (by simpa using h1)
    subst hn
    have hrun := run_append_owned_none (P := P) (w := w) base t ty e i size hE.und hi v n xs hown
    exact ⟨v, w, hrun, by simpa using hown, ⟨rfl, rfl, rfl, Nat.le_refl _, fun _ _ _ => rfl⟩, .inl rfl⟩
  · have hm : maxLen = 9223372036854775807 := rfl
    have hb : (n + m) * bytes ≤ 1000000 * 1000000 := Nat.mul_le_mul hnm hbt
    obtain ⟨v', w', hr, k2, k3, _, k5⟩ := run_append_own_at (P := P) w base t ty e i z size bytes hE.und hi hz hsz hby hE.zsz hE.pos v n xs hown ad m c news h1 hc h2 (by omega) (by omega) hbase
    exact ⟨v', w', hr, k2, k3, k5⟩
theorem step_app {P : Program} {w : World} {ops : Array Oper} {o : Oper} {a : Act} {K : Act → World → Prop} {Q : Exit → Act → World → Prop} {E : Prop} (s x : Operand) {t e : TypeId} {z : Value} {size bytes : Nat}
    (hE : ElemInfo P t e z size bytes) (hgd : o.guard = none) (ho : o.op = .call { callee := .builtin .append, args := #[s, x], argTypes := #[t, t] })
    {v y : Value} (hs : a.eval s = v) (hx : a.eval x = y)
    (base n m : Nat) (xs news : List Value) (hown : w.ownsRow base e size v n xs) (hsrc : SrcAt w y m size news)
    (hnm : n + m ≤ 1000000) (hbt : bytes ≤ 1000000) (hbase : base ≤ w.heap.size)
    (h : ∀ v' w', w'.ownsRow base e size v' (n + m) (xs ++ news) → w.grownBy w' v.ownBlock → (v'.ownBlock = v.ownBlock ∨ v'.ownBlock = some w.heap.size) → K (a.put o.dst v') w') :
    if Region.wanted o (yielded ops a.tmps) = true then Oper.wp P o a w K Q else E := by
  have hw : Region.wanted o (yielded ops a.tmps) = true := by simp [Region.wanted, hgd]
  rw [if_pos hw]
  obtain ⟨v', w', hr, h2, h3, h4⟩ := run_app (P := P) (w := w) (t := t) (ty := o.type) hE base n m xs news hown hsrc hnm hbt hbase
  unfold Oper.wp execOp
  simp only [ho, resolve, invoke, builtin, Sem.run_bind, Sem.run_pure, Result.andThen_ok, List.map_toArray, List.map_cons, List.map_nil, hs, hx, hr]
  exact h v' w' h2 h3 h4
theorem made_row2 {B : Nat} {W : World} (h : B ≤ W.heap.size) (e : TypeId) (n : Nat) : (W.alloc (.cells #[] e)).ownsRow B e n (.slice (some ⟨W.heap.size, 0, none⟩) 0 0) 0 [] :=
  World.ownsRow_made (base := B) (e := e) (size := n) W #[] 0 h (by decide) (by simp)
theorem app_grown {X W V : World} {e : TypeId} {size n : Nat} {v : Value} {xs : List Value} (h : Below X.heap.size X W) (ho : W.ownsRow X.heap.size e size v n xs) (hg : W.grownBy V v.ownBlock) : Below X.heap.size X V :=
  h.grown hg h.size (fun k e => (ho.lt k e).1)
theorem src_grown {W V : World} {b c m n : Nat} {row : Option Nat} {news : List Value} (h : SrcAt W (.slice (some ⟨b, 0, none⟩) m c) m n news) (hg : W.grownBy V row) (hne : some b ≠ row) : SrcAt V (.slice (some ⟨b, 0, none⟩) m c) m n news := by
  obtain ⟨h1, h2, h3⟩ := h
  refine ⟨h1, h2, ?_⟩
  rcases h3 with ⟨h3, h4⟩ | ⟨ad, c', h3, h4⟩
  · cases h3
  · cases h3
    refine .inr ⟨_, _, rfl, fun j u hj => ?_⟩
    have := h4 j u hj
    rw [Addr.add_lit] at this ⊢
    exact hg.cell this hne
theorem s3_keep {U : World} {b : Nat} {v0 v1 v2 : Value} {t : TypeId} (h : U.heap[b]? = some (.cells #[v0, v1, v2] t (0, 0))) : U.cell? ⟨b, 0, none⟩ = some v0 ∧ U.cell? ⟨b, 1, none⟩ = some v1 ∧ U.cell? ⟨b, 2, none⟩ = some v2 ∧ b < U.heap.size :=
  ⟨blk_cell 0 h rfl, blk_cell 1 h rfl, blk_cell 2 h rfl, lt_of_block h⟩
end Go.Proofs.YtcgplocmncionaaGreat
namespace Go.Proofs.YtcgplocmncionaaGreat
open Go Go.RowKit
section
variable {P : Program} {ops : Array Oper} {Q : Exit → Act → World → Prop} {md : Region.Mode} {S : World → Prop} {z : Nat}
/-- Whatever comes up next; S holds behind it, unless it is z. -/
def wpZ (P : Program) (md : Region.Mode) (ops : Array Oper) (Q : Exit → Act → World → Prop) (S : World → Prop) (z : Nat) : Nat → Array Bool → Act → World → Prop
  | 0, listed, a, w => Region.ready md ops listed = [] ∧ Q .normal a w
  | g + 1, listed, a, w => (Region.ready md ops listed = [] → Q .normal a w) ∧ ∀ i ∈ Region.ready md ops listed, wpOp P ops Q i (fun b v => (i ≠ z → S v) ∧ wpZ P md ops Q S z g (listed.setIfInBounds i true) b v) a w
theorem wpZ_any : ∀ (g : Nat) (listed : Array Bool) (a : Act) (w : World), wpZ P md ops Q S z g listed a w → wpAny P md ops Q g listed a w
  | 0, _, _, _, h => h
  | g + 1, _, _, _, h => ⟨h.1, fun i hi => wpOp_mono (fun b v k => wpZ_any g _ b v k.2) (h.2 i hi)⟩
theorem listed_getD {listed : Array Bool} {i : Nat} (h0 : listed.getD i true = false) (h1 : listed.getD i false = true) : False := by
  rcases Nat.lt_or_ge i listed.size with h | h
  · simp [h] at h0 h1
    rw [h0] at h1; cases h1
  · simp [Array.getElem?_eq_none h] at h1
/-- What z waits for and has not come up keeps z from coming up. -/
theorem z_waits {listed : Array Bool} {i : Nat} (hw : Region.waitsFor md ops z i = true) (hi : i ∈ Region.ready md ops listed) : ∀ j ∈ Region.ready md ops listed, j ≠ z := by
  rintro j hj rfl
  obtain ⟨oz, hoz, e, he, hb, rfl⟩ := Region.waitsFor_spec hw
  obtain ⟨_, oj, hoj, hall⟩ := mem_ready.1 hj
  rw [hoz] at hoj
  cases hoj
  exact listed_getD (mem_ready.1 hi).1 (hall e he hb)
theorem wpZ_first {i : Nat} {oi : Oper} {v : Value} (hi : ops[i]? = some oi) (hsel : ∀ (j : Nat) (o : Oper) cs b, ops[j]? = some o → o.op ≠ .select cs b)
    (hQ : ∀ c a w, Q (.panic c) (a.put oi.dst v) w → Q (.panic c) a w) (hw : Region.waitsFor md ops z i = true) :
    ∀ (g : Nat) (listed : Array Bool) (a : Act) (w : World),
      (∀ j oj, ops[j]? = some oj → j ≠ i → listed.getD j true = false → (∀ e ∈ oj.after, Region.binds md e = true → e.on ≠ i) → oi.apart ops oj = true) →
      i ∈ Region.ready md ops listed → YieldsIf P ops S oi v a → S w →
      wpZ P md ops Q S z g (listed.setIfInBounds i true) (a.put oi.dst v) w → wpZ P md ops Q S z (g + 1) listed a w
  | 0, listed, a, w, _, hr, hy, hS, H => ⟨fun h => by rw [h] at hr; exact absurd hr (by simp), fun j hj => by
      by_cases e : j = i
      · subst e
        exact hy.wpOp hi hS ⟨fun _ => hS, H⟩
      · have k := ready_mono hj e
        rw [H.1] at k
        exact absurd k (by simp)⟩
  | g + 1, listed, a, w, hfree, hr, hy, hS, H => ⟨fun h => by rw [h] at hr; exact absurd hr (by simp), fun j hj => by
      by_cases e : j = i
      · subst e
        exact hy.wpOp hi hS ⟨fun _ => hS, H⟩
      · have hjz := z_waits hw hr j hj
        obtain ⟨hjun, oj, hoj, hall⟩ := mem_ready.1 hj
        have hnot : ∀ e ∈ oj.after, Region.binds md e = true → e.on ≠ i := fun e he hb heq => listed_getD (mem_ready.1 hr).1 (by rw [← heq]; exact hall e he hb)
        have k := wpOp_putIf hoj (hfree j oj hoj e hjun hnot) (fun cs b => hsel i oi cs b hi) (fun cs b => hsel j oj cs b hoj) hQ hy (H.2 j (ready_mono hj e))
        refine wpOp_mono (fun b v k2 => ⟨k2.2.1, wpZ_first hi hsel hQ hw g (listed.setIfInBounds j true) b v (fun q oq hq hqi hun hno => hfree q oq hq hqi ?_ hno) (ready_mono hr (Ne.symm e)) k2.1 (k2.2.1 hjz) ?_⟩) k
        · by_cases hjq : j = q
          · subst hjq; exact hjun
          · rwa [getD_set_ne true hjq] at hun
        · rw [Array.setIfInBounds_comm _ _ e]
          exact k2.2.2⟩
theorem wpZ_take {i : Nat} {oi : Oper} {v : Value} {g : Nat} {listed : Array Bool} {a : Act} {w : World} (hi : ops[i]? = some oi)
    (hs : Region.noSelect ops = true) (hf : Region.free md ops listed i = true) (hr : (Region.ready md ops listed).contains i = true) (hw : Region.waitsFor md ops z i = true)
    (hQ : ∀ c a w, Q (.panic c) (a.put oi.dst v) w → Q (.panic c) a w) (hy : YieldsIf P ops S oi v a) (hS : S w)
    (h : wpZ P md ops Q S z g (listed.setIfInBounds i true) (a.put oi.dst v) w) : wpZ P md ops Q S z (g + 1) listed a w :=
  wpZ_first hi (Region.noSelect_spec hs) hQ hw g listed a w (Region.free_spec hi hf) (by simpa using hr) hy hS h
/-- Each of rs comes up next. -/
def AllZ (P : Program) (md : Region.Mode) (ops : Array Oper) (Q : Exit → Act → World → Prop) (S : World → Prop) (z : Nat) (g : Nat) (listed : Array Bool) (a : Act) (w : World) (rs : List Nat) : Prop :=
  ∀ i ∈ rs, wpOp P ops Q i (fun b v => (i ≠ z → S v) ∧ wpZ P md ops Q S z g (listed.setIfInBounds i true) b v) a w
theorem AllZ.nil {g : Nat} {listed : Array Bool} {a : Act} {w : World} : AllZ P md ops Q S z g listed a w [] := fun i h => absurd h (by simp)
theorem AllZ.cons {g : Nat} {listed : Array Bool} {a : Act} {w : World} {i : Nat} {o : Oper} {rs : List Nat} (ho : ops[i]? = some o)
    (h : ∀ K' : Act → World → Prop, Shut (∀ b v, (i ≠ z → S v) → wpZ P md ops Q S z g (listed.setIfInBounds i true) b v → K' b v) → if Region.wanted o (yielded ops a.tmps) = true then Oper.wp P o a w K' Q else K' (a.put o.dst undef) w)
    (hs : AllZ P md ops Q S z g listed a w rs) : AllZ P md ops Q S z g listed a w (i :: rs) := fun j hj => by
  rcases List.mem_cons.1 hj with rfl | hj
  · exact wpOp_step ho fun K' hK => h K' fun b v h1 h2 => hK b v ⟨h1, h2⟩
  · exact hs j hj
theorem wpZ_ready {rs : List Nat} {g : Nat} {listed : Array Bool} {a : Act} {w : World} (hr : Region.ready md ops listed = rs) (hne : rs ≠ []) (h : AllZ P md ops Q S z g listed a w rs) : wpZ P md ops Q S z (g + 1) listed a w :=
  ⟨fun h0 => absurd (hr ▸ h0) hne, hr ▸ h⟩
theorem wpZ_done {listed : Array Bool} {a : Act} {w : World} (hr : Region.ready md ops listed = []) (h : Q .normal a w) : ∀ g, wpZ P md ops Q S z g listed a w
  | 0 => ⟨hr, h⟩
  | _ + 1 => ⟨fun _ => h, by rw [hr]; simp⟩
theorem wp_region_z {id : Nat} {a : Act} {w : World} (S : World → Prop) (z : Nat) (hm : P.follows .mixedOrders = true) (hS : S w.drew) (h : S w.drew → wpZ P .any ops Q S z ops.size (Array.replicate ops.size false) a w.drew) : (Code.region id ops true).wp P Q a w :=
  wp_region_any hm (wpZ_any _ _ _ _ (h hS))
end
theorem cell_same {W W' : World} {b o : Nat} {v : Value} (hh : W'.heap[b]? = W.heap[b]?) (h : W.cell? ⟨b, o, none⟩ = some v) : W'.cell? ⟨b, o, none⟩ = some v := (World.cell?_of_block (a := ⟨b, o, none⟩) hh).trans h
theorem s5_keep {U : World} {b : Nat} {v0 v1 v2 v3 v4 : Value} {t : TypeId} (h : U.heap[b]? = some (.cells #[v0, v1, v2, v3, v4] t (0, 0))) : U.cell? ⟨b, 0, none⟩ = some v0 ∧ U.cell? ⟨b, 1, none⟩ = some v1 ∧ U.cell? ⟨b, 2, none⟩ = some v2 ∧ U.cell? ⟨b, 3, none⟩ = some v3 ∧ U.cell? ⟨b, 4, none⟩ = some v4 ∧ b < U.heap.size :=
  ⟨blk_cell 0 h rfl, blk_cell 1 h rfl, blk_cell 2 h rfl, blk_cell 3 h rfl, blk_cell 4 h rfl, lt_of_block h⟩
end Go.Proofs.YtcgplocmncionaaGreat
