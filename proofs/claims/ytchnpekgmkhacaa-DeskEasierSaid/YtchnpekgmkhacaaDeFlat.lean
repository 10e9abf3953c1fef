/- What is proved here: customers, writers and spans of layer 9 as cells in a row; what the call owns, seen as such. No condition. -/
import Derived.Test.YtchnpekgmkhacaaDeRep
import Derived.Test.YtchnpekgmkhacaaFlatG
import Derived.Test.YtchnpekgmkhacaaProg
import Derived.Laws.OwnMore
set_option linter.unusedVariables false
set_option linter.unusedSimpArgs false
namespace Go.Proofs.Ytchnpekgmkhacaa
open Go Go.RowKit
theorem E_cust : ElemInfo Try.prog 23 55 (.agg #[.string ⟨#[]⟩, .int .i64 0, .int .i64 0, .int .i64 0, .int .i64 0]) 5 48 := ⟨by kernel_rfl, by kernel_rfl, rfl, by decide⟩
theorem E_writ : ElemInfo Try.prog 22 72 (.agg #[.string ⟨#[]⟩, .int .i64 0, .int .i64 0, .int .i64 0]) 4 40 := ⟨by kernel_rfl, by kernel_rfl, rfl, by decide⟩
def custCells (x : DeC) : List Value := [.string x.name, .int .i64 x.kind, .int .i64 x.lo, .int .i64 x.hi, .int .i64 x.ship]
def writCells (x : DeW) : List Value := [.string x.name, .int .i64 x.kinds, .int .i64 x.lo, .int .i64 x.hi]
theorem custCells_len (x : DeC) : (custCells x).length = 5 := rfl
theorem writCells_len (x : DeW) : (writCells x).length = 4 := rfl
theorem custCells_one (x : DeC) : ∀ u ∈ custCells x, u.oneCell' = true := by
  intro u hu; simp [custCells] at hu; rcases hu with rfl | rfl | rfl | rfl | rfl <;> rfl
theorem writCells_one (x : DeW) : ∀ u ∈ writCells x, u.oneCell' = true := by
  intro u hu; simp [writCells] at hu; rcases hu with rfl | rfl | rfl | rfl <;> rfl
theorem cust_flat {w : World} {a : Option Addr} {l : List DeC} : CustsC w a l ↔ FlatAt custCells 5 w a l := by
  constructor
  · intro h i hi
    obtain ⟨b, off, e, hb, h0, h1, h2, h3, h4⟩ := h i hi
    refine ⟨b, off, e, hb, fun r u hr hu => ?_⟩
    have hr' : r = 0 ∨ r = 1 ∨ r = 2 ∨ r = 3 ∨ r = 4 := by omega
    rcases hr' with rfl | rfl | rfl | rfl | rfl <;> (simp [custCells] at hu; subst hu; assumption)
  · intro h i hi
    obtain ⟨b, off, e, hb, hc⟩ := h i hi
    exact ⟨b, off, e, hb, hc 0 _ (by omega) rfl, hc 1 _ (by omega) rfl, hc 2 _ (by omega) rfl, hc 3 _ (by omega) rfl, hc 4 _ (by omega) rfl⟩
theorem writ_flat {w : World} {a : Option Addr} {l : List DeW} : WritersC w a l ↔ FlatAt writCells 4 w a l := by
  constructor
  · intro h i hi
    obtain ⟨b, off, e, hb, h0, h1, h2, h3⟩ := h i hi
    refine ⟨b, off, e, hb, fun r u hr hu => ?_⟩
    have hr' : r = 0 ∨ r = 1 ∨ r = 2 ∨ r = 3 := by omega
    rcases hr' with rfl | rfl | rfl | rfl <;> (simp [writCells] at hu; subst hu; assumption)
  · intro h i hi
    obtain ⟨b, off, e, hb, hc⟩ := h i hi
    exact ⟨b, off, e, hb, hc 0 _ (by omega) rfl, hc 1 _ (by omega) rfl, hc 2 _ (by omega) rfl, hc 3 _ (by omega) rfl⟩
theorem SrcAt.custs {w : World} {a : Option Addr} {l : List DeC} {c : Nat} (hn : a = none → c = 0) (h : CustsC w a l) : SrcAt w (.slice a l.length c) l.length 5 (flatC custCells l) :=
  SrcAt.flat custCells_len (by decide) custCells_one hn (cust_flat.1 h)
theorem SrcAt.writs {w : World} {a : Option Addr} {l : List DeW} {c : Nat} (hn : a = none → c = 0) (h : WritersC w a l) : SrcAt w (.slice a l.length c) l.length 4 (flatC writCells l) :=
  SrcAt.flat writCells_len (by decide) writCells_one hn (writ_flat.1 h)
theorem custs_own {w : World} {base : Nat} {e : TypeId} {v : Value} {k : Nat} {l : List DeC} (h : w.ownsRow base e 5 v k (flatC custCells l)) : k = l.length ∧ ∃ a c, v = .slice a l.length c ∧ SlOk a l.length c ∧ CustsC w a l := by
  obtain ⟨h1, a, c, h2, h3, h4⟩ := flat_own custCells_len (by decide) h
  exact ⟨h1, a, c, h2, h3, cust_flat.2 h4⟩
theorem writs_own {w : World} {base : Nat} {e : TypeId} {v : Value} {k : Nat} {l : List DeW} (h : w.ownsRow base e 4 v k (flatC writCells l)) : k = l.length ∧ ∃ a c, v = .slice a l.length c ∧ SlOk a l.length c ∧ WritersC w a l := by
  obtain ⟨h1, a, c, h2, h3, h4⟩ := flat_own writCells_len (by decide) h
  exact ⟨h1, a, c, h2, h3, writ_flat.2 h4⟩
/-- One element in a block of its own. -/
theorem SrcAt.box {vs : List Value} (W : World) (h1 : ∀ u ∈ vs, u.oneCell' = true) (t : TypeId) : SrcAt (W.alloc (.cells vs.toArray t)) (.slice (some ⟨W.heap.size, 0, none⟩) 1 1) 1 vs.length vs := by
  refine ⟨by simp, h1, .inr ⟨_, _, rfl, fun j u hj => ?_⟩⟩
  rw [Addr.add_lit, Nat.zero_add]
  exact blk_cell j (heap_alloc_new W _) (by simpa using hj)
theorem custs_ship (l : List DeC) (i : Nat) (h : i < l.length) (v : Int) : (flatC custCells l).set (i * 5 + 4) (.int .i64 v) = flatC custCells (l.modify i fun x => { x with ship := v }) := by
  induction l generalizing i with
  | nil => simp at h
  | cons y l ih =>
    show (.string y.name :: .int .i64 y.kind :: .int .i64 y.lo :: .int .i64 y.hi :: .int .i64 y.ship :: flatC custCells l : List Value).set (i * 5 + 4) _ = _
    cases i with
    | zero => rfl
    | succ i =>
      have := ih i (by simpa using h)
      rw [show (i + 1) * 5 + 4 = i * 5 + 4 + 5 from by omega]
      simp only [List.set_cons_succ, this]
      rfl
theorem modify_twice (l : List DeC) (i : Nat) (u v : Int) : (l.modify i fun x => { x with ship := u }).modify i (fun x => { x with ship := v }) = l.modify i fun x => { x with ship := v } := by
  apply List.ext_getElem
  · simp
  · intro j h1 h2
    rw [List.getElem_modify, List.getElem_modify, List.getElem_modify]
    by_cases e : i = j <;> simp [e]
theorem modify_same (l : List DeC) (i : Nat) (h : i < l.length) : (l.modify i fun x => { x with ship := l[i].ship }) = l := by
  apply List.ext_getElem
  · simp
  · intro j h1 h2
    rw [List.getElem_modify]
    by_cases e : i = j
    · subst e; simp
    · simp [e]
end Go.Proofs.Ytchnpekgmkhacaa
