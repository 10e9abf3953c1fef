/- What is proved here: leaks, letters and things heard of layer 12 as cells in a row; what the call owns, seen as such. No condition. -/
import Derived.Test.YtmhbjohpggghgaaSeRep
import Derived.Test.YtmhbjohpggghgaaFlatG
import Derived.Test.YtmhbjohpggghgaaProg
import Derived.Laws.OwnMore
set_option linter.unusedVariables false
set_option linter.unusedSimpArgs false
namespace Go.Proofs.Ytmhbjohpggghgaa
open Go Go.RowKit
theorem E_leak : ElemInfo Try.prog 24 79 (.agg #[.int .i64 0, .int .i64 0, .bool false]) 3 24 := ⟨by kernel_rfl, by kernel_rfl, rfl, by decide⟩
theorem E_letter : ElemInfo Try.prog 25 68 (.agg #[.int .i64 0, .int .i64 0, .int .i64 0]) 3 24 := ⟨by kernel_rfl, by kernel_rfl, rfl, by decide⟩
theorem E_heard : ElemInfo Try.prog 26 74 (.agg #[.int .i64 0, .int .i64 0, .int .i64 0, .bool false]) 4 32 := ⟨by kernel_rfl, by kernel_rfl, rfl, by decide⟩
def leakCells (x : SeLeak) : List Value := [.int .i64 x.src, .int .i64 x.dst, .bool x.sure]
def letterCells (x : SeLetter) : List Value := [.int .i64 x.day, .int .i64 x.secrets, .int .i64 x.writer]
def heardCells (x : SeHeard) : List Value := [.int .i64 x.writer, .int .i64 x.secret, .int .i64 x.day, .bool x.knew]
theorem leakCells_len (x : SeLeak) : (leakCells x).length = 3 := rfl
theorem letterCells_len (x : SeLetter) : (letterCells x).length = 3 := rfl
theorem heardCells_len (x : SeHeard) : (heardCells x).length = 4 := rfl
theorem leakCells_one (x : SeLeak) : ∀ u ∈ leakCells x, u.oneCell' = true := by
  intro u hu; simp [leakCells] at hu; rcases hu with rfl | rfl | rfl <;> rfl
theorem letterCells_one (x : SeLetter) : ∀ u ∈ letterCells x, u.oneCell' = true := by
  intro u hu; simp [letterCells] at hu; rcases hu with rfl | rfl | rfl <;> rfl
theorem heardCells_one (x : SeHeard) : ∀ u ∈ heardCells x, u.oneCell' = true := by
  intro u hu; simp [heardCells] at hu; rcases hu with rfl | rfl | rfl | rfl <;> rfl
theorem leak_flat {w : World} {a : Option Addr} {l : List SeLeak} : LeaksC w a l ↔ FlatAt leakCells 3 w a l := by
  constructor
  · intro h i hi
    obtain ⟨b, off, e, hb, h0, h1, h2⟩ := h i hi
    refine ⟨b, off, e, hb, fun r u hr hu => ?_⟩
    have hr' : r = 0 ∨ r = 1 ∨ r = 2 := by omega
    rcases hr' with rfl | rfl | rfl <;> (simp [leakCells] at hu; subst hu; assumption)
  · intro h i hi
    obtain ⟨b, off, e, hb, hc⟩ := h i hi
    exact ⟨b, off, e, hb, hc 0 _ (by omega) rfl, hc 1 _ (by omega) rfl, hc 2 _ (by omega) rfl⟩
theorem letter_flat {w : World} {a : Option Addr} {l : List SeLetter} : LettersC w a l ↔ FlatAt letterCells 3 w a l := by
  constructor
  · intro h i hi
    obtain ⟨b, off, e, hb, h0, h1, h2⟩ := h i hi
    refine ⟨b, off, e, hb, fun r u hr hu => ?_⟩
    have hr' : r = 0 ∨ r = 1 ∨ r = 2 := by omega
    rcases hr' with rfl | rfl | rfl <;> (simp [letterCells] at hu; subst hu; assumption)
  · intro h i hi
    obtain ⟨b, off, e, hb, hc⟩ := h i hi
    exact ⟨b, off, e, hb, hc 0 _ (by omega) rfl, hc 1 _ (by omega) rfl, hc 2 _ (by omega) rfl⟩
theorem heard_flat {w : World} {a : Option Addr} {l : List SeHeard} : HeardC w a l ↔ FlatAt heardCells 4 w a l := by
  constructor
  · intro h i hi
    obtain ⟨b, off, e, hb, h0, h1, h2, h3⟩ := h i hi
    refine ⟨b, off, e, hb, fun r u hr hu => ?_⟩
    have hr' : r = 0 ∨ r = 1 ∨ r = 2 ∨ r = 3 := by omega
    rcases hr' with rfl | rfl | rfl | rfl <;> (simp [heardCells] at hu; subst hu; assumption)
  · intro h i hi
    obtain ⟨b, off, e, hb, hc⟩ := h i hi
    exact ⟨b, off, e, hb, hc 0 _ (by omega) rfl, hc 1 _ (by omega) rfl, hc 2 _ (by omega) rfl, hc 3 _ (by omega) rfl⟩
theorem SrcAt.leaks {w : World} {a : Option Addr} {l : List SeLeak} {c : Nat} (hn : a = none → c = 0) (h : LeaksC w a l) : SrcAt w (.slice a l.length c) l.length 3 (flatC leakCells l) :=
  SrcAt.flat leakCells_len (by decide) leakCells_one hn (leak_flat.1 h)
theorem SrcAt.letters {w : World} {a : Option Addr} {l : List SeLetter} {c : Nat} (hn : a = none → c = 0) (h : LettersC w a l) : SrcAt w (.slice a l.length c) l.length 3 (flatC letterCells l) :=
  SrcAt.flat letterCells_len (by decide) letterCells_one hn (letter_flat.1 h)
theorem SrcAt.heard {w : World} {a : Option Addr} {l : List SeHeard} {c : Nat} (hn : a = none → c = 0) (h : HeardC w a l) : SrcAt w (.slice a l.length c) l.length 4 (flatC heardCells l) :=
  SrcAt.flat heardCells_len (by decide) heardCells_one hn (heard_flat.1 h)
theorem leaks_own {w : World} {base : Nat} {e : TypeId} {v : Value} {k : Nat} {l : List SeLeak} (h : w.ownsRow base e 3 v k (flatC leakCells l)) : k = l.length ∧ ∃ a c, v = .slice a l.length c ∧ SlOk a l.length c ∧ LeaksC w a l := by
  obtain ⟨h1, a, c, h2, h3, h4⟩ := flat_own leakCells_len (by decide) h
  exact ⟨h1, a, c, h2, h3, leak_flat.2 h4⟩
theorem letters_own {w : World} {base : Nat} {e : TypeId} {v : Value} {k : Nat} {l : List SeLetter} (h : w.ownsRow base e 3 v k (flatC letterCells l)) : k = l.length ∧ ∃ a c, v = .slice a l.length c ∧ SlOk a l.length c ∧ LettersC w a l := by
  obtain ⟨h1, a, c, h2, h3, h4⟩ := flat_own letterCells_len (by decide) h
  exact ⟨h1, a, c, h2, h3, letter_flat.2 h4⟩
theorem heard_own {w : World} {base : Nat} {e : TypeId} {v : Value} {k : Nat} {l : List SeHeard} (h : w.ownsRow base e 4 v k (flatC heardCells l)) : k = l.length ∧ ∃ a c, v = .slice a l.length c ∧ SlOk a l.length c ∧ HeardC w a l := by
  obtain ⟨h1, a, c, h2, h3, h4⟩ := flat_own heardCells_len (by decide) h
  exact ⟨h1, a, c, h2, h3, heard_flat.2 h4⟩
/-- One element in a block of its own. -/
theorem SrcAt.box {vs : List Value} (W : World) (h1 : ∀ u ∈ vs, u.oneCell' = true) (t : TypeId) : SrcAt (W.alloc (.cells vs.toArray t)) (.slice (some ⟨W.heap.size, 0, none⟩) 1 1) 1 vs.length vs := by
  refine ⟨by simp, h1, .inr ⟨_, _, rfl, fun j u hj => ?_⟩⟩
  rw [Addr.add_lit, Nat.zero_add]
  refine blk_cell j (heap_alloc_new _ _) ?_
  rw [← hj]
  simp
theorem SrcAt.heard1 (W : World) (a b c : Int) (d : Bool) (t : TypeId) : SrcAt (W.alloc (.cells #[.int .i64 a, .int .i64 b, .int .i64 c, .bool d] t)) (.slice (some ⟨W.heap.size, 0, none⟩) 1 1) 1 4 [.int .i64 a, .int .i64 b, .int .i64 c, .bool d] :=
  SrcAt.box (vs := [.int .i64 a, .int .i64 b, .int .i64 c, .bool d]) W (heardCells_one ⟨a, b, c, d⟩) t
theorem SrcAt.leak1 (W : World) (a b : Int) (d : Bool) (t : TypeId) : SrcAt (W.alloc (.cells #[.int .i64 a, .int .i64 b, .bool d] t)) (.slice (some ⟨W.heap.size, 0, none⟩) 1 1) 1 3 [.int .i64 a, .int .i64 b, .bool d] :=
  SrcAt.box (vs := [.int .i64 a, .int .i64 b, .bool d]) W (leakCells_one ⟨a, b, d⟩) t
theorem SrcAt.letter1 (W : World) (a b c : Int) (t : TypeId) : SrcAt (W.alloc (.cells #[.int .i64 a, .int .i64 b, .int .i64 c] t)) (.slice (some ⟨W.heap.size, 0, none⟩) 1 1) 1 3 [.int .i64 a, .int .i64 b, .int .i64 c] :=
  SrcAt.box (vs := [.int .i64 a, .int .i64 b, .int .i64 c]) W (letterCells_one ⟨a, b, c⟩) t
end Go.Proofs.Ytmhbjohpggghgaa
