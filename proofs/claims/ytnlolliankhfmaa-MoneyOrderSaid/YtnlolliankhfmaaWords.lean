/- What is proved here: words of layer 7 as cells in a row; a growing row of them. No condition. -/
import Derived.Test.YtnlolliankhfmaaGround
import Derived.Test.YtnlolliankhfmaaMoRep
import Derived.Test.YtnlolliankhfmaaProg
import Derived.Laws.OwnMore
set_option linter.unusedVariables false
set_option linter.unusedSimpArgs false
namespace Go.Proofs.Ytnlolliankhfmaa
open Go Go.RowKit

theorem E_word : ElemInfo Try.prog 24 70 (.agg #[.int .i64 0, .int .i64 0, .int .i64 0, .int .i64 0, .bool false]) 5 40 := ⟨by kernel_rfl, by kernel_rfl, rfl, by decide⟩

def wordCells (x : MoWord) : List Value := [.int .i64 x.says, .int .i64 x.sum, .int .i64 x.of, .int .i64 x.back, .bool x.came]
def wordsFlat (l : List MoWord) : List Value := l.flatMap wordCells
theorem wordsFlat_cons (x : MoWord) (l : List MoWord) : wordsFlat (x :: l) = .int .i64 x.says :: .int .i64 x.sum :: .int .i64 x.of :: .int .i64 x.back :: .bool x.came :: wordsFlat l := rfl
theorem wordsFlat_len (l : List MoWord) : (wordsFlat l).length = l.length * 5 := by
  induction l with
  | nil => rfl
  | cons x l ih => rw [wordsFlat_cons]; simp only [List.length_cons, ih]; omega
theorem wordsFlat_get (l : List MoWord) (i : Nat) (h : i < l.length) (r : Nat) (hr : r < 5) : (wordsFlat l)[i * 5 + r]? = (wordCells l[i])[r]? := by
  induction l generalizing i with
  | nil => simp at h
  | cons x l ih =>
    rw [wordsFlat_cons]
    cases i with
    | zero =>
      have hr' : r = 0 ∨ r = 1 ∨ r = 2 ∨ r = 3 ∨ r = 4 := by omega
      rcases hr' with rfl | rfl | rfl | rfl | rfl <;> rfl
    | succ i =>
      have := ih i (by simpa using h)
      rw [show (i + 1) * 5 + r = i * 5 + r + 5 from by omega]
      simpa using this
theorem wordsFlat_set (l : List MoWord) (i : Nat) (h : i < l.length) (x : MoWord) :
    (((((wordsFlat l).set (i * 5) (.int .i64 x.says)).set (i * 5 + 1) (.int .i64 x.sum)).set (i * 5 + 2) (.int .i64 x.of)).set (i * 5 + 3) (.int .i64 x.back)).set (i * 5 + 4) (.bool x.came) = wordsFlat (l.set i x) := by
  induction l generalizing i with
  | nil => simp at h
  | cons y l ih =>
    rw [wordsFlat_cons]
    cases i with
    | zero => rfl
    | succ i =>
      have := ih i (by simpa using h)
      rw [show (i + 1) * 5 = i * 5 + 5 from by omega, show i * 5 + 5 + 1 = i * 5 + 1 + 5 from by omega, show i * 5 + 5 + 2 = i * 5 + 2 + 5 from by omega, show i * 5 + 5 + 3 = i * 5 + 3 + 5 from by omega, show i * 5 + 5 + 4 = i * 5 + 4 + 5 from by omega]
      simp only [List.set_cons_succ, this]
      rfl
theorem wordsFlat_one (l : List MoWord) : ∀ u ∈ wordsFlat l, u.oneCell' = true := by
  intro u hu
  obtain ⟨x, _, hx⟩ := List.mem_flatMap.1 hu
  simp [wordCells] at hx
  rcases hx with rfl | rfl | rfl | rfl | rfl <;> rfl

theorem SrcAt.words {w : World} {a : Option Addr} {l : List MoWord} {c : Nat} (hn : a = none → c = 0) (h : WordsC w a l) : SrcAt w (.slice a l.length c) l.length 5 (wordsFlat l) := by
  refine ⟨wordsFlat_len l, wordsFlat_one l, ?_⟩
  cases a with
  | none =>
    have : l.length = 0 := by
      by_cases h0 : 0 < l.length
      · obtain ⟨b, off, e, _⟩ := h 0 h0
        cases e
      · omega
    left
    rw [hn rfl, this]
    exact ⟨rfl, rfl⟩
  | some ad =>
    refine .inr ⟨ad, c, rfl, fun j u hj => ?_⟩
    have hlt : j < l.length * 5 := by
      have := (List.getElem?_eq_some_iff.1 hj).1
      rw [wordsFlat_len] at this
      exact this
    obtain ⟨i, r, hr, rfl⟩ : ∃ i r, r < 5 ∧ j = i * 5 + r := ⟨j / 5, j % 5, by omega, by omega⟩
    have hi : i < l.length := by omega
    rw [wordsFlat_get l i hi r hr] at hj
    obtain ⟨b, off, e, _, h0, h1, h2, h3, h4⟩ := h i hi
    cases e
    rw [Addr.add_lit, ← Nat.add_assoc]
    have hr' : r = 0 ∨ r = 1 ∨ r = 2 ∨ r = 3 ∨ r = 4 := by omega
    rcases hr' with rfl | rfl | rfl | rfl | rfl <;> (simp [wordCells] at hj; subst hj; assumption)

/-- What the call owns, seen as a slice of words. -/
theorem words_own {w : World} {base : Nat} {e : TypeId} {v : Value} {n : Nat} {l : List MoWord} (h : w.ownsRow base e 5 v n (wordsFlat l)) :
    n = l.length ∧ ∃ a c, v = .slice a l.length c ∧ SlOk a l.length c ∧ WordsC w a l := by
  have hl := h.1
  rw [wordsFlat_len] at hl
  have hn : n = l.length := by omega
  subst hn
  refine ⟨rfl, ?_⟩
  have hm : maxLen = 9223372036854775807 := rfl
  rcases h.2 with ⟨rfl, h0⟩ | ⟨g, cap, cur, rfl, _, hg, h3, h4, h5, h6⟩
  · exact ⟨none, 0, by rw [h0], ⟨by omega, by omega, fun _ => rfl⟩, fun i hi => by omega⟩
  · refine ⟨_, _, rfl, ⟨h3, by omega, fun h => by cases h⟩, fun i hi => ⟨g, 0, rfl, (Array.getElem?_eq_some_iff.1 hg).1, ?_⟩⟩
    have hc : ∀ r u, r < 5 → (wordCells l[i])[r]? = some u → w.cell? ⟨g, 0 + i * 5 + r, none⟩ = some u := fun r u hr hu => by
      have := h.cells (g := g) rfl (i * 5 + r) u (by rw [wordsFlat_get l i hi r hr]; exact hu)
      rw [Addr.add_lit] at this
      rw [Nat.add_assoc]; exact this
    exact ⟨hc 0 _ (by omega) rfl, hc 1 _ (by omega) rfl, hc 2 _ (by omega) rfl, hc 3 _ (by omega) rfl, hc 4 _ (by omega) rfl⟩
end Go.Proofs.Ytnlolliankhfmaa
