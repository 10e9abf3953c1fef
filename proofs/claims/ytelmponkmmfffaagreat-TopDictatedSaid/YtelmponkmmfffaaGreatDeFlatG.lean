/- What is proved here: the contract of the reference's Some of layer 9. Condition: the hall lies in memory and is valid. -/
/- What is proved here: the contract of the reference's Before of layer 9, and of Rows of layer 1. Conditions: the plans lie in memory, as many lists each (Before). -/
/- What is proved here: the contract of the reference's Rows of layer 1. Condition: the rows lie in memory. -/
/- What is proved here: the contract of the reference's Spans of layer 1. Conditions: the spans lie in memory; their numbers are small. -/
/- What is proved here: plain facts: if a plan surely does, so does the one in which each writer's customers stand in the order of their ships. No program. No condition. -/
/- What is proved here: the plain functions' answers at the halls of the examples of layer 9, by computation. No condition. -/
/- What is proved here: customers, writers and spans of layer 9 as cells in a row; what the call owns, seen as such. No condition. -/
import Derived.Test.YtelmponkmmfffaaGreatDrJG
import Derived.Test.YtelmponkmmfffaaGreatDrEG
import Derived.Test.YtelmponkmmfffaaGreatBlkG
import Derived.Test.YtelmponkmmfffaaGreatProg
import Derived.Laws.OwnMore
set_option linter.unusedVariables false
set_option linter.unusedSimpArgs false
namespace Go.Proofs.YtelmponkmmfffaaGreat
open Go Go.RowKit Go.Shelf

end Go.Proofs.YtelmponkmmfffaaGreat
namespace Go.Proofs.YtelmponkmmfffaaGreat
open Go Go.RowKit Go.Shelf

end Go.Proofs.YtelmponkmmfffaaGreat
namespace Go.Proofs.YtelmponkmmfffaaGreat
open Go Go.RowKit Go.Shelf

def rowsTo (A B : List (List Int)) (k : Nat) : Bool := decide (A.length = B.length) && decide (A.take k = B.take k)
theorem rowsTo_zero {A B : List (List Int)} : rowsTo A B 0 = decide (A.length = B.length) := by simp [rowsTo]
theorem rowsTo_succ {A B : List (List Int)} {k : Nat} (h1 : k < A.length) (h2 : k < B.length) (hs : rowsTo A B k = true) : rowsTo A B (k + 1) = intsB A[k] B[k] := by
  unfold rowsTo at hs ⊢
  simp only [Bool.and_eq_true, decide_eq_true_eq] at hs
  rw [decide_eq_true hs.1, Bool.true_and, List.take_succ_eq_append_getElem h1, List.take_succ_eq_append_getElem h2, hs.2]
  by_cases e : A[k] = B[k]
  · rw [e, intsB_iff.2 rfl]; simp
  · have : intsB A[k] B[k] = false := by
      cases h : intsB A[k] B[k] with
      | false => rfl
      | true => exact absurd (intsB_iff.1 h) e
    rw [this]
    exact decide_eq_false (fun h => e (by have := List.append_cancel_left h; simpa using this))
theorem rowsTo_no {A B : List (List Int)} {k : Nat} (hs : rowsTo A B k = false) : decide (A = B) = false := by
  apply decide_eq_false
  rintro rfl
  simp [rowsTo] at hs
theorem rowsTo_yes {A B : List (List Int)} (hs : rowsTo A B A.length = true) : decide (A = B) = true := by
  unfold rowsTo at hs
  simp only [Bool.and_eq_true, decide_eq_true_eq] at hs
  have h2 := hs.2
  rw [List.take_length, hs.1, List.take_length] at h2
  exact decide_eq_true h2
theorem rowsTo_len {A B : List (List Int)} {k : Nat} (hs : rowsTo A B k = true) : A.length = B.length := by
  unfold rowsTo at hs
  simp only [Bool.and_eq_true, decide_eq_true_eq] at hs
  exact hs.1
theorem eqn_dec (a b : Nat) : ((a : Int) == (b : Int)) = decide (a = b) := by
  by_cases h : a = b
  · simp [h]
  · rw [decide_eq_false h]; simp; omega
set_option maxRecDepth 100000 in
set_option maxHeartbeats 2000000 in
theorem DRRows_any (a b : Option Addr) (A B : List (List Int)) (ca cb : Nat) (w : World) (hoa : SlOk a A.length ca) (hob : SlOk b B.length cb) (hi : RowsC w a A) (hj : RowsC w b B) :
    Calls Tryz.prog 43 #[.slice a A.length ca, .slice b B.length cb] w fun e w' => e = .returned (.bool (decide (A = B))) ∧ ∃ q, w' = w.drewN q := by
  have hal := hoa.len
  have hbl := hob.len
  have ha1 := hoa.1
  have hb1 := hob.1
  have HST := Lib.hid (fun k h1 h2 hs => rowsTo_succ (A := A) (B := B) (k := k) h1 h2 hs)
  have HNO := Lib.hid (fun k hs => rowsTo_no (A := A) (B := B) (k := k) hs)
  have HYE := Lib.hid (fun hs => rowsTo_yes (A := A) (B := B) hs)
  have HLE := Lib.hid (fun k hs => rowsTo_len (A := A) (B := B) (k := k) hs)
  have H0 : Hid (((A.length : Int) == (B.length : Int)) = rowsTo A B 0) := Lib.hid (by rw [rowsTo_zero, eqn_dec])
  generalize decide (A = B) = r at HNO HYE ⊢
  go_enter Tryz.func43, Tryz.ntmps43
  go_wp2
  go_loopw [5, 6] (fun s i wr => ∃ (k q : Nat), k ≤ A.length ∧ i = .int .i64 k ∧ s = .bool (rowsTo A B k) ∧ wr = w.drewN q) (fun _ i _ => A.length - (intOf i).toNat)
  case atStart => exact ⟨0, 0, Nat.zero_le _, rfl, val_bool H0.out, rfl⟩
  case round =>
    obtain ⟨k, q, hk, rfl, rfl, hwr⟩ := hrel
    have hbr : Below w.heap.size w wr := by rw [hwr]; exact below_draws _ _ _
    have HQ := Lib.hid (fun n => show ∃ m, wr.drewN n = w.drewN m from ⟨q + n, by rw [hwr]; simp⟩)
    have HQ0 : Hid (∃ m, wr = w.drewN m) := Lib.hid ⟨q, hwr⟩
    clear hwr
    cases hs : rowsTo A B k with
    | false =>
      have hr := HNO.out k hs
      subst hr
      go_wp2
      go_ret
      exact ⟨rfl, HQ0.out⟩
    | true =>
      by_cases hlt : k < A.length
      · have hlb : k < B.length := by have := HLE.out k hs; omega
        obtain ⟨b1, o1, a1, c1, e1, z1, h1, h2, h3⟩ := hi.mono hbr k hlt
        obtain ⟨b2, o2, a2, c2, e2, z2, g1, g2, g3⟩ := hj.mono hbr k hlb
        have hka : (k : Int) < ca := by omega
        have hkb : (k : Int) < cb := by omega
        have hkb2 : (k : Int) < B.length := by omega
        have hst := HST.out k hlt hlb hs
        have C1 := fun (W : World) (hq : Below wr.heap.size wr W) => Ints_any a1 a2 A[k] B[k] c1 c2 W h2.len g2.len (h3.mono hq) (g3.mono hq)
        generalize intsB A[k] B[k] = bi at hst C1
        have C1 := Lib.hid C1
        have HST2 := Lib.hid hst
        clear hst hi hj h3 g3 hs
        subst e1
        subst e2
        go_upto_region 5 with (fail)
        go_quiet ((go_at_call 30; exact Calls.quiet_drewN (C1.out _ (below_draws _ _ _))))
        go_wp2
        go_roundw
        case rel =>
          obtain ⟨m, hm⟩ := HQ.out nq
          exact ⟨k + 1, m, by omega, by go_num, by rw [HST2.out], hm⟩
        case measure => simp [intOf]; omega
      · obtain rfl : k = A.length := by omega
        have hr := HYE.out hs
        subst hr
        clear hs
        go_wp2
        go_ret
        exact ⟨rfl, HQ0.out⟩
end Go.Proofs.YtelmponkmmfffaaGreat
namespace Go.Proofs.YtelmponkmmfffaaGreat
open Go Go.RowKit Go.Shelf

set_option maxRecDepth 100000 in
set_option maxHeartbeats 1000000 in
theorem sp_lits (a b : Int) (ha : 0 ≤ a ∧ a < 64000) (hb : 0 ≤ b ∧ b < 64000) : Tryz.prog.keyLits 2 37 (Value.agg #[.int .i64 a, .int .i64 b]).cells.toList = some [.int .i64 a, .int .i64 b] := by
  have h1 : (match Tryz.prog.underlying 37 with | some (.struct fs) => (fs.toList.map fun f => (f.type, f.offset)) == [(3, 0), (3, 1)] && fs.all (fun f => f.name != "_") | _ => false) = true := by kernel_rfl
  have h4 : Tryz.prog.underlying 3 = some (.int .i64) := by kernel_rfl
  have h5 : Tryz.prog.cellsOf 3 = 1 := by kernel_rfl
  have h6 : Tryz.prog.cellsOf 37 = 2 := by kernel_rfl
  have e1 : ∀ (m : Nat) (x : Int), 0 ≤ x ∧ x < 64000 → Tryz.prog.keyLits (m + 1) 3 [.int .i64 x] = some [.int .i64 x] := fun m x hx => by
    unfold Program.keyLits
    simp only [h4, okI_small x hx.1 hx.2, and_self, if_true]
  cases hu : Tryz.prog.underlying 37 with
  | none => rw [hu] at h1; cases h1
  | some kd =>
    rw [hu] at h1
    cases kd with
    | struct fs =>
      simp only [Bool.and_eq_true, beq_iff_eq] at h1
      obtain ⟨g1, g2⟩ := h1
      show Tryz.prog.keyLits (1 + 1) 37 [.int .i64 a, .int .i64 b] = _
      unfold Program.keyLits
      rw [hu]
      obtain ⟨L⟩ := fs
      simp only at g1 g2 ⊢
      match L, g1 with
      | [f0, f1], g1 =>
        simp only [List.map_cons, List.map_nil, List.cons.injEq, Prod.mk.injEq, and_true] at g1
        obtain ⟨⟨t0, o0⟩, t1, o1⟩ := g1
        simp only [h6, List.length_cons, List.length_nil, Nat.zero_add, Nat.reduceAdd, g2, and_self, if_true, List.mapM_cons, List.mapM_nil, t0, o0, t1, o1, h5, List.drop_zero, List.drop_succ_cons, List.take_succ_cons, List.take_zero, e1 0 a ha, e1 0 b hb]
        rfl
    | _ => simp at h1
theorem sp_eq (a b a' b' : Int) (ha : 0 ≤ a ∧ a < 64000) (hb : 0 ≤ b ∧ b < 64000) (ha' : 0 ≤ a' ∧ a' < 64000) (hb' : 0 ≤ b' ∧ b' < 64000) (w : World) :
    (Op.equalIn 10000 37 (.agg #[.int .i64 a, .int .i64 b]) (.agg #[.int .i64 a', .int .i64 b'])).run Tryz.prog w = .ok (decide (a = a' ∧ b = b')) w := by
  obtain ⟨r, hr, hi⟩ := run_equalIn_deep (P := Tryz.prog) 9998 2 37 (by kernel_rfl) w 2 2 (.agg #[.int .i64 a, .int .i64 b]) (.agg #[.int .i64 a', .int .i64 b']) _ _ (by kernel_rfl) (by kernel_rfl) (sp_lits a b ha hb) (sp_lits a' b' ha' hb')
  have e : r = decide (a = a' ∧ b = b') := by
    rw [Bool.eq_iff_iff, hi]
    simp only [List.cons.injEq, Lit.int.injEq, true_and, and_true, decide_eq_true_eq]
  rw [e] at hr
  exact hr
def spansTo (A B : List (Int × Int)) (k : Nat) : Bool := decide (A.length = B.length) && decide (A.take k = B.take k)
theorem spansTo_zero {A B : List (Int × Int)} : spansTo A B 0 = decide (A.length = B.length) := by simp [spansTo]
theorem spansTo_succ {A B : List (Int × Int)} {k : Nat} (h1 : k < A.length) (h2 : k < B.length) (hs : spansTo A B k = true) : spansTo A B (k + 1) = decide (A[k].1 = B[k].1 ∧ A[k].2 = B[k].2) := by
  unfold spansTo at hs ⊢
  simp only [Bool.and_eq_true, decide_eq_true_eq] at hs
  rw [decide_eq_true hs.1, Bool.true_and, List.take_succ_eq_append_getElem h1, List.take_succ_eq_append_getElem h2, hs.2]
  by_cases e : A[k] = B[k]
  · rw [e]; simp
  · rw [decide_eq_false (fun h => e (by have := List.append_cancel_left h; simpa using this)), decide_eq_false (fun h => e (Prod.ext h.1 h.2))]
theorem spansTo_no {A B : List (Int × Int)} {k : Nat} (hs : spansTo A B k = false) : decide (A = B) = false := by
  apply decide_eq_false
  rintro rfl
  simp [spansTo] at hs
theorem spansTo_yes {A B : List (Int × Int)} (hs : spansTo A B A.length = true) : decide (A = B) = true := by
  unfold spansTo at hs
  simp only [Bool.and_eq_true, decide_eq_true_eq] at hs
  have h2 := hs.2
  rw [List.take_length, hs.1, List.take_length] at h2
  exact decide_eq_true h2
theorem spansTo_len {A B : List (Int × Int)} {k : Nat} (hs : spansTo A B k = true) : A.length = B.length := by
  unfold spansTo at hs
  simp only [Bool.and_eq_true, decide_eq_true_eq] at hs
  exact hs.1
def SmallS (A : List (Int × Int)) : Prop := ∀ s ∈ A, (0 ≤ s.1 ∧ s.1 < 64000) ∧ 0 ≤ s.2 ∧ s.2 < 64000
set_option maxRecDepth 100000 in
set_option maxHeartbeats 2000000 in
theorem DRSpans_any (a b : Option Addr) (A B : List (Int × Int)) (ca cb : Nat) (w : World) (hoa : SlOk a A.length ca) (hob : SlOk b B.length cb) (hi : SpansC w a A) (hj : SpansC w b B) (hsa : SmallS A) (hsb : SmallS B) :
    Calls Tryz.prog 41 #[.slice a A.length ca, .slice b B.length cb] w fun e w' => e = .returned (.bool (decide (A = B))) ∧ ∃ q, w' = w.drewN q := by
  have hal := hoa.len
  have hbl := hob.len
  have ha1 := hoa.1
  have hb1 := hob.1
  have HST := Lib.hid (fun k h1 h2 hs => spansTo_succ (A := A) (B := B) (k := k) h1 h2 hs)
  have HNO := Lib.hid (fun k hs => spansTo_no (A := A) (B := B) (k := k) hs)
  have HYE := Lib.hid (fun hs => spansTo_yes (A := A) (B := B) hs)
  have HLE := Lib.hid (fun k hs => spansTo_len (A := A) (B := B) (k := k) hs)
  have H0 : Hid (((A.length : Int) == (B.length : Int)) = spansTo A B 0) := Lib.hid (by rw [spansTo_zero, eqn_dec])
  generalize decide (A = B) = r at HNO HYE ⊢
  go_enter Tryz.func41, Tryz.ntmps41
  go_wp2
  go_loopw [5, 6] (fun s i wr => ∃ (k q : Nat), k ≤ A.length ∧ i = .int .i64 k ∧ s = .bool (spansTo A B k) ∧ wr = w.drewN q) (fun _ i _ => A.length - (intOf i).toNat)
  case atStart => exact ⟨0, 0, Nat.zero_le _, rfl, val_bool H0.out, rfl⟩
  case round =>
    obtain ⟨k, q, hk, rfl, rfl, hwr⟩ := hrel
    have hbr : Below w.heap.size w wr := by rw [hwr]; exact below_draws _ _ _
    have HQ := Lib.hid (fun n => show ∃ m, wr.drewN n = w.drewN m from ⟨q + n, by rw [hwr]; simp⟩)
    have HQ0 : Hid (∃ m, wr = w.drewN m) := Lib.hid ⟨q, hwr⟩
    clear hwr
    cases hs : spansTo A B k with
    | false =>
      have hr := HNO.out k hs
      subst hr
      go_wp2
      go_ret
      exact ⟨rfl, HQ0.out⟩
    | true =>
      by_cases hlt : k < A.length
      · have hlb : k < B.length := by have := HLE.out k hs; omega
        obtain ⟨b1, o1, e1, z1, h1, h2⟩ := hi.mono hbr k hlt
        obtain ⟨b2, o2, e2, z2, g1, g2⟩ := hj.mono hbr k hlb
        have hka : (k : Int) < ca := by omega
        have hkb : (k : Int) < cb := by omega
        have hkb2 : (k : Int) < B.length := by omega
        have hst := HST.out k hlt hlb hs
        have q1 := hsa _ (List.getElem_mem hlt)
        have q2 := hsb _ (List.getElem_mem hlb)
        generalize A[k] = s at h1 h2 hst q1
        generalize B[k] = t at g1 g2 hst q2
        obtain ⟨s1, s2⟩ := s
        obtain ⟨t1, t2⟩ := t
        simp only at h1 h2 g1 g2 hst q1 q2
        have heq : ∀ W : World, (Op.equalIn 10000 37 (.agg #[.int .i64 s1, .int .i64 s2]) (.agg #[.int .i64 t1, .int .i64 t2])).run Tryz.prog W = .ok (decide (s1 = t1 ∧ s2 = t2)) W := fun W => sp_eq s1 s2 t1 t2 q1.1 q1.2 q2.1 q2.2 W
        generalize decide (s1 = t1 ∧ s2 = t2) = bi at hst heq
        have HST2 := Lib.hid hst
        clear hst hi hj hs
        subst e1
        subst e2
        go_upto_region 5 with (fail)
        go_quiet (fail)
        go_wp2
        go_roundw
        case rel =>
          obtain ⟨m, hm⟩ := HQ.out nq
          exact ⟨k + 1, m, by omega, by go_num, by rw [HST2.out], hm⟩
        case measure => simp [intOf]; omega
      · obtain rfl : k = A.length := by omega
        have hr := HYE.out hs
        subst hr
        clear hs
        go_wp2
        go_ret
        exact ⟨rfl, HQ0.out⟩
end Go.Proofs.YtelmponkmmfffaaGreat
namespace Go.Proofs.YtelmponkmmfffaaGreat

end Go.Proofs.YtelmponkmmfffaaGreat
namespace Go.Proofs.YtelmponkmmfffaaGreat
/-- The hall of the examples, with a ship of the first customer. -/
def exH (ship : Int) : DeH :=
  { wax := 1, writers := [⟨⟨#[112, 97, 122]⟩, 3, 0, 0⟩, ⟨⟨#[114, 117, 116]⟩, 1, 2, 4⟩], customers := [⟨⟨#[97, 110, 97]⟩, 0, 5, 8, ship⟩, ⟨⟨#[98, 101, 110]⟩, 1, 6, 10, 12⟩, ⟨⟨#[99, 111, 114, 97]⟩, 0, 4, 6, 15⟩] }
def exP : List (List Int) := [[1], [2, 0]]
def exO : List (List Int) := [[0, 1], [2]]
theorem ex_ends : deEnds (exH 20) exP = ([(13, 20), (7, 11), (7, 11)], 0) := by decide +kernel
theorem ex_must : deFate (exH 20) exP = (1, 0) := by decide +kernel
theorem ex_may : deFate (exH 17) exP = (0, 0) := by decide +kernel
theorem ex_never : deFate (exH 17) exO = (2, 0) := by decide +kernel
theorem ex_late : deLate (exH 17) exP = (0, 0) := by decide +kernel
theorem ex_none : deLate (exH 20) exP = (0, 9) := by decide +kernel
theorem ex_best : deBest (exH 20) = (exP, 20, 0) := by decide +kernel
theorem ex_down : deBest (exH 17) = ([], 0, 9) := by decide +kernel
theorem ex_enough : deEnough (exH 20) = ([0, 1], 0) := by decide +kernel
theorem ex_away : deAway (exH 17) = ([0], 0) := by decide +kernel
theorem ex_six : deLater (exH 17) 1 = (6, 0) := by decide +kernel
theorem ex_three : deLater (exH 17) 2 = (3, 0) := by decide +kernel
end Go.Proofs.YtelmponkmmfffaaGreat
namespace Go.Proofs.YtelmponkmmfffaaGreat
open Go Go.RowKit
theorem E_cust : ElemInfo Tryz.prog 26 39 (.agg #[.string ⟨#[]⟩, .int .i64 0, .int .i64 0, .int .i64 0, .int .i64 0]) 5 48 := ⟨by kernel_rfl, by kernel_rfl, rfl, by decide⟩
def custCells (x : DeC) : List Value := [.string x.name, .int .i64 x.kind, .int .i64 x.lo, .int .i64 x.hi, .int .i64 x.ship]
theorem custCells_len (x : DeC) : (custCells x).length = 5 := rfl
theorem custCells_one (x : DeC) : ∀ u ∈ custCells x, u.oneCell' = true := by
  intro u hu; simp [custCells] at hu; rcases hu with rfl | rfl | rfl | rfl | rfl <;> rfl
theorem cust_flat {w : World} {a : Option Addr} {l : List DeC} : CustsC w a l ↔ FlatAt custCells 5 w a l := by
  constructor
  · intro h i hi
    obtain ⟨b, off, e, hb, h0, h1, h2, h3, h4⟩ := h i hi
    refine ⟨b, off, e, hb, fun r u hr hu => ?_⟩
    have hr' : r = 0 ∨ r = 1 ∨ r = 2 ∨ r = 3 ∨ r = 4 := by omega
    rcases hr' with rfl | rfl | rfl | rfl | rfl <;> (simp [custCells] at hu; subst hu; assumption)
  · intro h i hi
    obtain ⟨b, off, e, hb, hc⟩ := h i hi
    exact ⟨b, off, e, hb, hc 0 _ (by omega) rfl, hc 1 _ (by omega) rfl, hc 2 _ (by omega) rfl, hc 3 _ (by omega) rfl, hc 4 _ (by omega) rfl⟩
theorem SrcAt.custs {w : World} {a : Option Addr} {l : List DeC} {c : Nat} (hn : a = none → c = 0) (h : CustsC w a l) : SrcAt w (.slice a l.length c) l.length 5 (flatC custCells l) :=
  SrcAt.flat custCells_len (by decide) custCells_one hn (cust_flat.1 h)
theorem custs_own {w : World} {base : Nat} {e : TypeId} {v : Value} {k : Nat} {l : List DeC} (h : w.ownsRow base e 5 v k (flatC custCells l)) : k = l.length ∧ ∃ a c, v = .slice a l.length c ∧ SlOk a l.length c ∧ CustsC w a l := by
  obtain ⟨h1, a, c, h2, h3, h4⟩ := flat_own custCells_len (by decide) h
  exact ⟨h1, a, c, h2, h3, cust_flat.2 h4⟩
/-- One element in a block of its own. -/
theorem SrcAt.box {vs : List Value} (W : World) (h1 : ∀ u ∈ vs, u.oneCell' = true) (t : TypeId) : SrcAt (W.alloc (.cells vs.toArray t)) (.slice (some ⟨W.heap.size, 0, none⟩) 1 1) 1 vs.length vs := by
  refine ⟨by simp, h1, .inr ⟨_, _, rfl, fun j u hj => ?_⟩⟩
  rw [Addr.add_lit, Nat.zero_add]
  exact blk_cell j (heap_alloc_new W _) (by simpa using hj)
theorem custs_ship (l : List DeC) (i : Nat) (h : i < l.length) (v : Int) : (flatC custCells l).set (i * 5 + 4) (.int .i64 v) = flatC custCells (l.modify i fun x => { x with ship := v }) := by
  induction l generalizing i with
  | nil => simp at h
  | cons y l ih =>
    show (.string y.name :: .int .i64 y.kind :: .int .i64 y.lo :: .int .i64 y.hi :: .int .i64 y.ship :: flatC custCells l : List Value).set (i * 5 + 4) _ = _
    cases i with
    | zero => rfl
    | succ i =>
      have := ih i (by simpa using h)
      rw [show (i + 1) * 5 + 4 = i * 5 + 4 + 5 from by omega]
      simp only [List.set_cons_succ, this]
      rfl
theorem modify_twice (l : List DeC) (i : Nat) (u v : Int) : (l.modify i fun x => { x with ship := u }).modify i (fun x => { x with ship := v }) = l.modify i fun x => { x with ship := v } := by
  apply List.ext_getElem
  · simp
  · intro j h1 h2
    rw [List.getElem_modify, List.getElem_modify, List.getElem_modify]
    by_cases e : i = j <;> simp [e]
theorem modify_same (l : List DeC) (i : Nat) (h : i < l.length) : (l.modify i fun x => { x with ship := l[i].ship }) = l := by
  apply List.ext_getElem
  · simp
  · intro j h1 h2
    rw [List.getElem_modify]
    by_cases e : i = j
    · subst e; simp
    · simp [e]
end Go.Proofs.YtelmponkmmfffaaGreat
