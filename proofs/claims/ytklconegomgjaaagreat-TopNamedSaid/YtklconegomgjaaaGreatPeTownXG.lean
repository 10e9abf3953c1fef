/- What is proved here: the memory of TopNamed's loop: the plain town that it builds. No condition. -/
/- What is proved here: numbers that are compared with a few given ones. No condition. -/
/- What is proved here: the laws' book of layer 1 in memory. No condition. -/
/- What is proved here: the laws' towns of layer 3 in memory. No condition. -/
import Derived.Test.YtklconegomgjaaaGreatPeWhoB
import Derived.Test.YtklconegomgjaaaGreatPnA
import Derived.Test.YtklconegomgjaaaGreatOnly
import Derived.Test.YtklconegomgjaaaGreatRef1AG
import Derived.Test.YtklconegomgjaaaGreatPnBaseG
import Derived.Test.YtklconegomgjaaaGreatEaCommonG
import Derived.Laws.ResultCell
set_option linter.unusedVariables false
set_option linter.unusedSimpArgs false
namespace Go.Proofs.YtklconegomgjaaaGreat
open Go Go.RowKit Go.Shelf

theorem SrcAt.mentsN {w : World} {a : Option Addr} {l : List PeM} {c : Nat} (hn : a = none → c = 0) (h : PeMentsC w a l) : SrcAt w (.slice a l.length c) l.length 5 (flatC mentCells l) :=
  SrcAt.flat mentCells_len (by decide) mentCells_one hn (ments_flat h)
theorem ments_ownN {w : World} {base : Nat} {v : Value} {k : Nat} {l : List PeM} (h : w.ownsRow base 38 5 v k (flatC mentCells l)) : k = l.length ∧ ∃ a c, v = .slice a l.length c ∧ SlOk a l.length c ∧ PeMentsC w a l := by
  obtain ⟨h0, a, c, h1, h2, h3⟩ := flat_own mentCells_len (by decide) h
  exact ⟨h0, a, c, h1, h2, flat_ments h3⟩
theorem ment_snocN (p : List PeM) (a b c d e : Int) : flatC mentCells p ++ [.int .i64 a, .int .i64 b, .int .i64 c, .int .i64 d, .int .i64 e] = flatC mentCells (p ++ [⟨a, b, c, d, e⟩]) := flatC_snoc (f := mentCells) p ⟨a, b, c, d, e⟩
/-- The plain town's mentions so far. -/
def plainTo (t : PeW) (k : Nat) : List PeM := (t.ments.take k).map plainM
theorem plainTo_len {t : PeW} {k : Nat} (h : k ≤ t.ments.length) : (plainTo t k).length = k := by unfold plainTo; simp; omega
theorem plainTo_succ {t : PeW} {k : Nat} (h : k < t.ments.length) : plainTo t (k + 1) = plainTo t k ++ [⟨t.ments[k].spell, -1, 0, 199, -1⟩] := by
  unfold plainTo
  rw [List.take_succ_eq_append_getElem h, List.map_append]
  rfl
theorem plainTo_all (t : PeW) : plainTo t t.ments.length = (plainT t).ments := by unfold plainTo plainT; rw [List.take_length]
/-- The memory of TopNamed's loop. -/
structure PnI (Y V : World) (T : Nat) (a1 a2 : Option Addr) (k1 k2 : Nat) (t : PeW) (k : Nat) (a : Option Addr) (c : Nat) : Prop where
  q : Below Y.heap.size Y V
  tw : V.heap[T]? = some (.cells #[.int .i64 t.ear.sounds, .slice a1 t.ear.alphas.length k1, .slice a2 t.ear.spells.length k2, .int .i64 t.vills, .slice a (plainTo t k).length c, .slice none 0 0] 29 (0, 0))
  sp : V.heap[T + 1]? = some (.cells #[.int .i64 0, .int .i64 199] 36 (0, 0))
  ok : SlOk a (plainTo t k).length c
  mc : PeMentsC V a (plainTo t k)
section
variable {Y V V' : World} {T : Nat} {a1 a2 a : Option Addr} {k1 k2 : Nat} {t : PeW} {k c : Nat}
theorem PnI.on (h : PnI Y V T a1 a2 k1 k2 t k a c) (hb : Below V.heap.size V V') : PnI Y V' T a1 a2 k1 k2 t k a c :=
  ⟨h.q.trans (hb.mono h.q.size), (hb.block _ (lt_of_block h.tw)).trans h.tw, (hb.block _ (lt_of_block h.sp)).trans h.sp, h.ok, h.mc.mono hb⟩
/-- Behind the append. -/
theorem PnI.app {V2 : World} {a9 : Option Addr} {c9 : Nat} (h : PnI Y V T a1 a2 k1 k2 t k a c) (hy : Y.heap.size ≤ T) (hb : Below V.heap.size V V2) (hs9 : SlOk a9 (plainTo t (k + 1)).length c9)
    (ho : V2.ownsRow V.heap.size 38 5 (.slice a9 (plainTo t (k + 1)).length c9) (plainTo t (k + 1)).length (flatC mentCells (plainTo t (k + 1)))) :
    PnI Y (V2.setCell ⟨T, 4, none⟩ (.slice a9 (plainTo t (k + 1)).length c9)) T a1 a2 k1 k2 t (k + 1) a9 c9 := by
  have h2 := h.on hb
  have hz := lt_of_block h.tw
  refine ⟨h2.q.setCell hy _, ?_, (Below.heap_setCell _ _ _ _ (by simp)).trans h2.sp, hs9, ?_⟩
  · have := blk_set 4 (.slice a9 (plainTo t (k + 1)).length c9) h2.tw
    exact this
  · have h3 := ownsRow_setCell_other ho (a := ⟨T, 4, none⟩) (fun e => by have h1 := (ho.lt _ e).1; simp only at h1; omega) (.slice a9 (plainTo t (k + 1)).length c9)
    obtain ⟨_, a8, c8, e8, hs8, hw8⟩ := ments_ownN h3
    cases e8
    exact hw8
/-- At the end the town lies there. -/
theorem PnI.town (h : PnI Y V T a1 a2 k1 k2 t t.ments.length a c) (hm : BookC Y a1 a2 k1 k2 t.ear) : TownC V a1 a2 a none k1 k2 c 0 (plainT t) := by
  have h1 := h.ok
  have h2 := h.mc
  rw [plainTo_all] at h1 h2
  exact ⟨hm.mono h.q, h1, ⟨Nat.le_refl _, by decide, fun _ => rfl⟩, h2, PeTiesC.nil _ _⟩
end
end Go.Proofs.YtklconegomgjaaaGreat
namespace Go.Proofs.YtklconegomgjaaaGreat
open Go Go.RowKit
theorem alE_on (W : World) (o : Obj) : Below W.heap.size W (W.alloc o) := (Below.refl _ _).alloc (Nat.le_refl _) o
theorem IntsE_true {a b : Option Addr} {l m : List Int} {c d : Nat} {w : World} (h : l = m) (hl : l.length ≤ 100) (hi : IntsC w a l) (hj : IntsC w b m) :
    Calls Tryz.prog 28 #[.slice a l.length c, .slice b m.length d] w fun e w' => e = .returned (.bool true) ∧ Below w.heap.size w w' := by
  have C := Ints_any a b l m c d w (by omega) (by rw [← h]; omega) hi hj
  rw [intsB_iff.2 h] at C
  exact C.mono fun e w' ⟨h1, q, h2⟩ => ⟨h1, by rw [h2]; exact below_draws _ _ q⟩
theorem intsE_blk {W : World} {b : Nat} {t : TypeId} {l : List Int} (h : W.heap[b]? = some (.cells (l.map (Value.int .i64)).toArray t (0, 0))) : IntsC W (some ⟨b, 0, none⟩) l := fun i hi =>
  ⟨b, 0, rfl, lt_of_block h, blk_cell _ h (by simp [hi])⟩
theorem IntsE_one {a : Option Addr} {l : List Int} {c : Nat} {w : World} (x : Int) (t : TypeId) (h : l = [x]) (hi : IntsC w a l) :
    Calls Tryz.prog 28 #[.slice a l.length c, .slice (some ⟨w.heap.size, 0, none⟩) 1 1] (w.alloc (.cells #[.int .i64 x] t)) fun e w' => e = .returned (.bool true) ∧ Below w.heap.size w w' :=
  (IntsE_true (m := [x]) (d := 1) h (by rw [h]; simp) (hi.mono (alE_on w _)) (intsE_blk (alloc_atE _ _ rfl))).mono fun e w' ⟨h1, h2⟩ => ⟨h1, (alE_on w _).trans (h2.mono (by simp))⟩
theorem IntsE_two {a : Option Addr} {l : List Int} {c : Nat} {w : World} (x y : Int) (t : TypeId) (h : l = [x, y]) (hi : IntsC w a l) :
    Calls Tryz.prog 28 #[.slice a l.length c, .slice (some ⟨w.heap.size, 0, none⟩) 2 2] (w.alloc (.cells #[.int .i64 x, .int .i64 y] t)) fun e w' => e = .returned (.bool true) ∧ Below w.heap.size w w' :=
  (IntsE_true (m := [x, y]) (d := 2) h (by rw [h]; simp) (hi.mono (alE_on w _)) (intsE_blk (alloc_atE _ _ rfl))).mono fun e w' ⟨h1, h2⟩ => ⟨h1, (alE_on w _).trans (h2.mono (by simp))⟩
theorem IntsE_four {a : Option Addr} {l : List Int} {c : Nat} {w : World} (x y z u : Int) (t : TypeId) (h : l = [x, y, z, u]) (hi : IntsC w a l) :
    Calls Tryz.prog 28 #[.slice a l.length c, .slice (some ⟨w.heap.size, 0, none⟩) 4 4] (w.alloc (.cells #[.int .i64 x, .int .i64 y, .int .i64 z, .int .i64 u] t)) fun e w' => e = .returned (.bool true) ∧ Below w.heap.size w w' :=
  (IntsE_true (m := [x, y, z, u]) (d := 4) h (by rw [h]; simp) (hi.mono (alE_on w _)) (intsE_blk (alloc_atE _ _ rfl))).mono fun e w' ⟨h1, h2⟩ => ⟨h1, (alE_on w _).trans (h2.mono (by simp))⟩
end Go.Proofs.YtklconegomgjaaaGreat
namespace Go.Proofs.YtklconegomgjaaaGreat
open Go Go.RowKit Go.Shelf

theorem exBook_valid : EaValid exBook := by
  refine ⟨by decide, by decide, fun i hi => ?_, fun i hi => ?_, fun i hi k hk => ?_, by decide, fun i hi => ?_⟩
  · have hi : i < 2 := hi
    obtain rfl | rfl : i = 0 ∨ i = 1 := by omega
    all_goals (decide +kernel +revert)
  · have hi : i < 2 := hi
    obtain rfl | rfl : i = 0 ∨ i = 1 := by omega
    all_goals (decide +revert)
  · have hi : i < 2 := hi
    obtain rfl | rfl : i = 0 ∨ i = 1 := by omega
    · have hk : k < 4 := hk
      obtain rfl | rfl | rfl | rfl : k = 0 ∨ k = 1 ∨ k = 2 ∨ k = 3 := by omega
      all_goals (decide +kernel +revert)
    · have hk : k < 3 := hk
      obtain rfl | rfl | rfl : k = 0 ∨ k = 1 ∨ k = 2 := by omega
      all_goals (decide +kernel +revert)
  · have hi : i < 4 := hi
    obtain rfl | rfl | rfl | rfl : i = 0 ∨ i = 1 ∨ i = 2 ∨ i = 3 := by omega
    all_goals (decide +kernel +revert)
theorem ELetter_any (a b : Int) (c : Bool) (w : World) : Calls Tryz.prog 67 #[.int .u8 a, .int .i64 b, .bool c] w fun e w' => e = .returned (.agg #[.int .u8 a, .int .i64 b, .bool c]) ∧ w' = w.alloc (.cells #[.int .u8 a, .int .i64 b, .bool c] 137) := by
  go_enter Tryz.func67, Tryz.ntmps67
  go_wp2
  refine bodyPost_ret (v := .agg #[.int .u8 a, .int .i64 b, .bool c]) ?_ rfl ⟨rfl, rfl⟩
  rw [results_one rfl]
  go_simp
theorem exBook_mem {W : World} {n1 n2 n3 n4 : Nat} (h1 : W.heap[n1]? = some (.cells #[.int .u8 97, .int .i64 1, .bool false, .int .u8 101, .int .i64 3, .bool false, .int .u8 107, .int .i64 4, .bool false, .int .u8 104, .int .i64 0, .bool true] 137 (0, 0)))
    (h2 : W.heap[n2]? = some (.cells #[.int .u8 107, .int .i64 4, .bool false, .int .u8 121, .int .i64 2, .bool true, .int .u8 110, .int .i64 1, .bool false] 137 (0, 0)))
    (h3 : W.heap[n3]? = some (.cells #[.string ⟨#[114, 111, 109, 97, 110]⟩, .slice (some ⟨n1, 0, none⟩) 4 4, .string ⟨#[97, 98, 106, 97, 100]⟩, .slice (some ⟨n2, 0, none⟩) 3 3] 130 (0, 0)))
    (h4 : W.heap[n4]? = some (.cells #[.int .i64 0, .string ⟨#[107, 101]⟩, .int .i64 1, .string ⟨#[107, 121]⟩, .int .i64 0, .string ⟨#[104, 107, 97]⟩, .int .i64 1, .string ⟨#[107, 110]⟩] 134 (0, 0))) : BookC W (some ⟨n3, 0, none⟩) (some ⟨n4, 0, none⟩) 2 4 exBook := by
  have hs : exBook = ⟨3, [⟨⟨#[114, 111, 109, 97, 110]⟩, [⟨97, 1, false⟩, ⟨101, 3, false⟩, ⟨107, 4, false⟩, ⟨104, 0, true⟩]⟩, ⟨⟨#[97, 98, 106, 97, 100]⟩, [⟨107, 4, false⟩, ⟨121, 2, true⟩, ⟨110, 1, false⟩]⟩], [⟨0, ⟨#[107, 101]⟩⟩, ⟨1, ⟨#[107, 121]⟩⟩, ⟨0, ⟨#[104, 107, 97]⟩⟩, ⟨1, ⟨#[107, 110]⟩⟩]⟩ := by
    unfold exBook
    have e1 : "roman".toUTF8 = ⟨#[114, 111, 109, 97, 110]⟩ := by decide +kernel
    have e2 : "abjad".toUTF8 = ⟨#[97, 98, 106, 97, 100]⟩ := by decide +kernel
    have e3 : "ke".toUTF8 = ⟨#[107, 101]⟩ := by decide +kernel
    have e4 : "ky".toUTF8 = ⟨#[107, 121]⟩ := by decide +kernel
    have e5 : "hka".toUTF8 = ⟨#[104, 107, 97]⟩ := by decide +kernel
    have e6 : "kn".toUTF8 = ⟨#[107, 110]⟩ := by decide +kernel
    rw [e1, e2, e3, e4, e5, e6]
  rw [hs]
  refine ⟨⟨Nat.le_refl _, by decide, fun h => by cases h⟩, ⟨Nat.le_refl _, by decide, fun h => by cases h⟩, fun i hi => ?_, fun i hi => ?_, by decide, by decide⟩
  · have hi : i < 2 := hi
    obtain rfl | rfl : i = 0 ∨ i = 1 := by omega
    · refine ⟨n3, 0, rfl, lt_of_block h3, blk_cell 0 h3 rfl, some ⟨n1, 0, none⟩, 4, blk_cell 1 h3 rfl, ⟨Nat.le_refl _, by decide, fun h => by cases h⟩, fun k hk => ?_⟩
      have hk : k < 4 := hk
      obtain rfl | rfl | rfl | rfl : k = 0 ∨ k = 1 ∨ k = 2 ∨ k = 3 := by omega
      · exact ⟨n1, 0, rfl, lt_of_block h1, blk_cell 0 h1 rfl, blk_cell 1 h1 rfl, blk_cell 2 h1 rfl⟩
      · exact ⟨n1, 0, rfl, lt_of_block h1, blk_cell 3 h1 rfl, blk_cell 4 h1 rfl, blk_cell 5 h1 rfl⟩
      · exact ⟨n1, 0, rfl, lt_of_block h1, blk_cell 6 h1 rfl, blk_cell 7 h1 rfl, blk_cell 8 h1 rfl⟩
      · exact ⟨n1, 0, rfl, lt_of_block h1, blk_cell 9 h1 rfl, blk_cell 10 h1 rfl, blk_cell 11 h1 rfl⟩
    · refine ⟨n3, 0, rfl, lt_of_block h3, blk_cell 2 h3 rfl, some ⟨n2, 0, none⟩, 3, blk_cell 3 h3 rfl, ⟨Nat.le_refl _, by decide, fun h => by cases h⟩, fun k hk => ?_⟩
      have hk : k < 3 := hk
      obtain rfl | rfl | rfl : k = 0 ∨ k = 1 ∨ k = 2 := by omega
      · exact ⟨n2, 0, rfl, lt_of_block h2, blk_cell 0 h2 rfl, blk_cell 1 h2 rfl, blk_cell 2 h2 rfl⟩
      · exact ⟨n2, 0, rfl, lt_of_block h2, blk_cell 3 h2 rfl, blk_cell 4 h2 rfl, blk_cell 5 h2 rfl⟩
      · exact ⟨n2, 0, rfl, lt_of_block h2, blk_cell 6 h2 rfl, blk_cell 7 h2 rfl, blk_cell 8 h2 rfl⟩
  · have hi : i < 4 := hi
    obtain rfl | rfl | rfl | rfl : i = 0 ∨ i = 1 ∨ i = 2 ∨ i = 3 := by omega
    · exact ⟨n4, 0, rfl, lt_of_block h4, blk_cell 0 h4 rfl, blk_cell 1 h4 rfl⟩
    · exact ⟨n4, 0, rfl, lt_of_block h4, blk_cell 2 h4 rfl, blk_cell 3 h4 rfl⟩
    · exact ⟨n4, 0, rfl, lt_of_block h4, blk_cell 4 h4 rfl, blk_cell 5 h4 rfl⟩
    · exact ⟨n4, 0, rfl, lt_of_block h4, blk_cell 6 h4 rfl, blk_cell 7 h4 rfl⟩
set_option maxRecDepth 100000 in
set_option maxHeartbeats 4000000 in
theorem EBook_any (w : World) : Calls Tryz.prog 21 #[] w fun e w' => ∃ a1 a2, e = .returned (.agg #[.int .i64 3, .slice a1 2 2, .slice a2 4 4]) ∧ BookC w' a1 a2 2 4 exBook ∧ Below w.heap.size w w' := by
  have LE := Lib.hid (fun (a b : Int) (c : Bool) (V : World) => ELetter_any a b c V)
  go_enter Tryz.func21, Tryz.ntmps21
  go_wp2_with (go_at_call 67; go_must ((with_reducible refine (LE.out _ _ _ _).mono ?_); rintro e w2 ⟨rfl, rfl⟩; dsimp only))
  refine bodyPost_ret (v := .agg #[.int .i64 3, .slice (some ⟨w.heap.size + 1 + 1 + 1 + 1 + 1 + 1 + 1 + 1 + 1 + 1 + 1 + 1, 0, none⟩) 2 2, .slice (some ⟨w.heap.size + 1 + 1 + 1 + 1 + 1 + 1 + 1 + 1 + 1 + 1 + 1 + 1 + 1, 0, none⟩) 4 4]) ?_ rfl ⟨_, _, rfl, exBook_mem (n1 := w.heap.size + 1 + 1 + 1 + 1 + 1) (n2 := w.heap.size + 1 + 1 + 1 + 1 + 1 + 1 + 1 + 1 + 1 + 1) ?_ ?_ ?_ ?_, ?_⟩
  · rw [results_one rfl]
    go_simp
  all_goals (try (repeat' (first | exact alloc_atE _ _ (by simp) | refine (heap_alloc_old _ _ (by first | omega | (simp <;> omega))).trans ?_)))
  exact (by (repeat' (first | assumption | exact Below.refl _ _ | refine below_drew' ?_ | refine Below.setCell ?_ (by first | omega | (simp <;> omega)) _ | refine Below.alloc ?_ (by first | omega | (simp <;> omega)) _)))
end Go.Proofs.YtklconegomgjaaaGreat
namespace Go.Proofs.YtklconegomgjaaaGreat
open Go Go.RowKit Go.Shelf

theorem exTown_valid (k : Nat) (hk : k ≤ 2) : PeValid (exTown k) := by
  have h3 : k = 0 ∨ k = 1 ∨ k = 2 := by omega
  refine ⟨exBook_valid, ?_, ?_, fun i hi => ?_, ?_, fun i hi => ?_⟩
  · show (1 : Int) ≤ 2 ∧ (2 : Int) ≤ 4
    decide
  · show 4 ≤ 5
    decide
  · have hi : i < 4 := hi
    obtain rfl | rfl | rfl | rfl : i = 0 ∨ i = 1 ∨ i = 2 ∨ i = 3 := by omega
    all_goals (rcases h3 with rfl | rfl | rfl <;> (decide +kernel +revert))
  · rcases h3 with rfl | rfl | rfl <;> decide
  · rcases h3 with rfl | rfl | rfl
    · have : i < 0 := hi
      omega
    · have : i < 1 := hi
      obtain rfl : i = 0 := by omega
      decide +kernel +revert
    · have : i < 2 := hi
      obtain rfl | rfl : i = 0 ∨ i = 1 := by omega
      all_goals decide +kernel +revert
theorem E_tie : ElemInfo Tryz.prog 27 44 (.agg #[.int .i64 0, .int .i64 0, .bool false]) 3 24 := ⟨by kernel_rfl, by kernel_rfl, rfl, by decide⟩
def tieCells (x : PeT) : List Value := [.int .i64 x.a, .int .i64 x.b, .bool x.same]
theorem tieCells_len (x : PeT) : (tieCells x).length = 3 := rfl
theorem tieCells_one (x : PeT) : ∀ u ∈ tieCells x, u.oneCell' = true := fun u hu => by simp [tieCells] at hu; rcases hu with rfl | rfl | rfl <;> rfl
theorem ties_flat {w : World} {a : Option Addr} {l : List PeT} (h : PeTiesC w a l) : FlatAt tieCells 3 w a l := fun i hi => by
  obtain ⟨b, off, e, hlt, h0, h1, h2⟩ := h i hi
  refine ⟨b, off, e, hlt, fun r u hr hu => ?_⟩
  obtain rfl | rfl | rfl : r = 0 ∨ r = 1 ∨ r = 2 := by omega
  · rw [← hu]; exact h0
  · rw [← hu]; exact h1
  · rw [← hu]; exact h2
theorem flat_ties {w : World} {a : Option Addr} {l : List PeT} (h : FlatAt tieCells 3 w a l) : PeTiesC w a l := fun i hi => by
  obtain ⟨b, off, e, hlt, hr⟩ := h i hi
  exact ⟨b, off, e, hlt, hr 0 _ (by omega) rfl, hr 1 _ (by omega) rfl, hr 2 _ (by omega) rfl⟩
theorem tie_own {w : World} {base : Nat} {v : Value} {k : Nat} {l : List PeT} (h : w.ownsRow base 44 3 v k (flatC tieCells l)) (hk : k = l.length) : ∃ a c, v = .slice a l.length c ∧ SlOk a l.length c ∧ PeTiesC w a l := by
  obtain ⟨h0, a, c, h1, h2, h3⟩ := flat_own tieCells_len (by decide) h
  subst hk
  exact ⟨a, c, h1, h2, flat_ties h3⟩
theorem SrcAt.tie1 (W : World) (a b : Int) (c : Bool) (t : TypeId) : SrcAt (W.alloc (.cells #[.int .i64 a, .int .i64 b, .bool c] t)) (.slice (some ⟨W.heap.size, 0, none⟩) 1 1) 1 3 [.int .i64 a, .int .i64 b, .bool c] :=
  SrcAt.boxP (vs := [.int .i64 a, .int .i64 b, .bool c]) W (fun u hu => by simp at hu; rcases hu with rfl | rfl | rfl <;> rfl) t
theorem LSpan_any (a b : Int) (w : World) : Calls Tryz.prog 36 #[.int .i64 a, .int .i64 b] w fun e w' => e = .returned (.agg #[.int .i64 a, .int .i64 b]) ∧ Below w.heap.size w w' := by
  go_enter Tryz.func36, Tryz.ntmps36
  go_wp2
  refine bodyPost_ret (v := .agg #[.int .i64 a, .int .i64 b]) ?_ rfl ⟨rfl, (Below.refl _ _).alloc (Nat.le_refl _) _⟩
  rw [results_one rfl]
  go_simp
theorem LTie_any (s : Bool) (w : World) : Calls Tryz.prog 77 #[.bool s] w fun e w' => e = .returned (.agg #[.int .i64 0, .int .i64 1, .bool s]) ∧ Below w.heap.size w w' := by
  go_enter Tryz.func77, Tryz.ntmps77
  go_wp2
  refine bodyPost_ret (v := .agg #[.int .i64 0, .int .i64 1, .bool s]) ?_ rfl ⟨rfl, (Below.refl _ _).alloc (Nat.le_refl _) _⟩
  rw [results_one rfl]
  go_simp
set_option maxRecDepth 100000 in
set_option maxHeartbeats 1000000 in
theorem LMent_any (a b c d f : Int) (w : World) : Calls Tryz.prog 35 #[.int .i64 a, .int .i64 b, .int .i64 c, .int .i64 d, .int .i64 f] w fun e w' => e = .returned (.agg #[.int .i64 a, .int .i64 b, .int .i64 c, .int .i64 d, .int .i64 f]) ∧ Below w.heap.size w w' := by
  have SP := Lib.hid (fun (V : World) => LSpan_any c d V)
  go_enter Tryz.func35, Tryz.ntmps35
  go_upto_region 1 with (fail)
  obtain ⟨X, hX⟩ : ∃ X : World, X = w.alloc (.cells #[.int .i64 0, .int .i64 0, .int .i64 0, .int .i64 0, .int .i64 0] 38) := ⟨_, rfl⟩
  rw [← hX]
  have hbX : Below w.heap.size w X := by rw [hX]; exact (Below.refl _ _).alloc (Nat.le_refl _) _
  have hX1 : X.heap[w.heap.size]? = some (.cells #[.int .i64 0, .int .i64 0, .int .i64 0, .int .i64 0, .int .i64 0] 38 (0, 0)) := by rw [hX]; exact alloc_atE _ _ rfl
  clear hX
  have hzX := lt_of_block hX1
  have HC := Lib.hid (fun (V : World) (h : Below X.heap.size X V) => (show (V.cell? ⟨w.heap.size, 0, none⟩ = some (.int .i64 0) ∧ V.cell? ⟨w.heap.size, 1, none⟩ = some (.int .i64 0) ∧ V.cell? ⟨w.heap.size, 2, none⟩ = some (.int .i64 0) ∧ V.cell? ⟨w.heap.size, 3, none⟩ = some (.int .i64 0) ∧ V.cell? ⟨w.heap.size, 4, none⟩ = some (.int .i64 0)) ∧ (V.frozen? ⟨w.heap.size, 0, none⟩ = false ∧ V.frozen? ⟨w.heap.size, 1, none⟩ = false ∧ V.frozen? ⟨w.heap.size, 2, none⟩ = false ∧ V.frozen? ⟨w.heap.size, 3, none⟩ = false ∧ V.frozen? ⟨w.heap.size, 4, none⟩ = false) ∧ w.heap.size < V.heap.size ∧ V.heap[w.heap.size]? = some (.cells #[.int .i64 0, .int .i64 0, .int .i64 0, .int .i64 0, .int .i64 0] 38 (0, 0)) from by
    have g := (h.block _ (lt_of_block hX1)).trans hX1
    exact ⟨⟨blk_cell 0 g rfl, blk_cell 1 g rfl, blk_cell 2 g rfl, blk_cell 3 g rfl, blk_cell 4 g rfl⟩, ⟨blk_free 0 g, blk_free 1 g, blk_free 2 g, blk_free 3 g, blk_free 4 g⟩, lt_of_block g, g⟩))
  clear hX1 hzX
  go_wp2_with (go_at_call 36; go_must ((with_reducible refine (SP.out _).mono ?_); rintro e w2 ⟨rfl, hb2⟩; obtain ⟨⟨c0, c1, c2, c3, c4⟩, ⟨f0, f1, f2, f3, f4⟩, cz, cb⟩ := HC.out _ hb2; replace cb := Lib.hid cb; dsimp only))
  have hs := blk_set 4 (.int .i64 f) (blk_set 3 (.int .i64 d) (blk_set 2 (.int .i64 c) (blk_set 1 (.int .i64 b) (blk_set 0 (.int .i64 a) cb.out))))
  have hE := (((((hbX.trans (hb2.mono hbX.size)).setCell (p := ⟨w.heap.size, 0, none⟩) (Nat.le_refl _) (.int .i64 a)).setCell (p := ⟨w.heap.size, 1, none⟩) (Nat.le_refl _) (.int .i64 b)).setCell (p := ⟨w.heap.size, 2, none⟩) (Nat.le_refl _) (.int .i64 c)).setCell (p := ⟨w.heap.size, 3, none⟩) (Nat.le_refl _) (.int .i64 d)).setCell (p := ⟨w.heap.size, 4, none⟩) (Nat.le_refl _) (.int .i64 f)
  obtain ⟨Z, hZ⟩ : ∃ Z : World, Z = ((((w2.setCell ⟨w.heap.size, 0, none⟩ (.int .i64 a)).setCell ⟨w.heap.size, 1, none⟩ (.int .i64 b)).setCell ⟨w.heap.size, 2, none⟩ (.int .i64 c)).setCell ⟨w.heap.size, 3, none⟩ (.int .i64 d)).setCell ⟨w.heap.size, 4, none⟩ (.int .i64 f) := ⟨_, rfl⟩
  rw [← hZ] at hs hE ⊢
  clear hZ c0 c1 c2 c3 c4 f0 f1 f2 f3 f4 cz
  have c0 := blk_cell 0 hs rfl
  have c1 := blk_cell 1 hs rfl
  have c2 := blk_cell 2 hs rfl
  have c3 := blk_cell 3 hs rfl
  have c4 := blk_cell 4 hs rfl
  refine bodyPost_ret (v := .agg #[.int .i64 a, .int .i64 b, .int .i64 c, .int .i64 d, .int .i64 f]) ?_ rfl ⟨rfl, hE⟩
  rw [results_one rfl]
  go_simp
end Go.Proofs.YtklconegomgjaaaGreat
