/- What is proved here: helpers of the laws over memory: With at one word. Conditions: the list lies in memory. -/
import Derived.Test.YtnlolliankhfmaaLwA
import Derived.Test.YtnlolliankhfmaaLwT
import Derived.Test.YtnlolliankhfmaaFacts
import Derived.Deep.DeepCutAuto
set_option linter.unusedVariables false
set_option linter.unusedSimpArgs false
namespace Go.Proofs.Ytnlolliankhfmaa
open Go Go.RowKit
theorem With_one (ac az aw ap : Option Addr) (cc cz cw cp : Nat) (m : MoList) (k : Nat) (t : TypeId) (w : World) (hm : ListC w ac az aw ap cc cz cw cp m) (hk : k < m.words.length) (hz : m.words.length ≤ 6) :
    Calls Try.prog 49 #[(.agg #[.slice ac m.claimants.length cc, .slice az m.sums.length cz, .slice aw m.words.length cw, .slice ap m.paid.length cp]), .slice (some ⟨w.heap.size, 0, none⟩) 1 1] (w.alloc (.cells #[.int .i64 (k : Int)] t)) fun e w' => ∃ aw' cw', e = .returned (listV ac az aw' ap cc cz cw' cp (withCame m k true)) ∧ ListC w' ac az aw' ap cc cz cw' cp (withCame m k true) ∧ Below w.heap.size w w' := by
  have C := With7_any ac az aw ap cc cz cw cp m (some ⟨w.heap.size, 0, none⟩) [(k : Int)] 1 (w.alloc (.cells #[.int .i64 (k : Int)] t)) (hm.mono (al_on w _)) ⟨by simp, by omega, fun h => by cases h⟩ (ints_blk (t := t) (alloc_at _ _ rfl)) (fun x hx => by simp at hx; omega) (by omega)
  rw [withWords_one] at C
  exact C.mono fun e w' ⟨a, c, h1, h2, h3⟩ => ⟨a, c, h1, h2, (al_on w _).trans (h3.mono (by simp))⟩
theorem withCame_list {w Z : World} {ac az aw ap : Option Addr} {cc cz cw cp : Nat} {m : MoList} {B c9 : Nat} {a9 : Option Addr} (k : Nat) (b : Bool) (hm : ListC w ac az aw ap cc cz cw cp m) (hb : Below w.heap.size w Z) (hs : SlOk a9 m.words.length c9)
    (ho : Z.ownsRow B 70 5 (.slice a9 m.words.length c9) m.words.length (wordsFlat (turnCame m.words k b))) : ListC Z ac az a9 ap cc cz c9 cp (withCame m k b) := by
  have hY := hm.mono hb
  have hl := turnCame_len m.words k b
  obtain ⟨_, a8, c8, e8, hs8, hw8⟩ := words_own ho
  rw [hl] at e8
  cases e8
  exact ⟨hY.okc, hY.okz, hs8, hY.okp, hY.claimants, hY.sums, hw8, hY.paid, hY.csize, hY.zsize⟩
theorem withCame_len (m : MoList) (k : Nat) (b : Bool) : (withCame m k b).words.length = m.words.length := turnCame_len m.words k b
theorem withCame_cl (m : MoList) (k : Nat) (b : Bool) : (withCame m k b).claimants = m.claimants := rfl
theorem withCame_su (m : MoList) (k : Nat) (b : Bool) : (withCame m k b).sums = m.sums := rfl
theorem withCame_pa (m : MoList) (k : Nat) (b : Bool) : (withCame m k b).paid = m.paid := rfl
theorem set5_heap' {X : World} {g b a0 a1 a2 a3 a4 : Nat} {u0 u1 u2 u3 u4 : Value} (h : b ≠ g) : (((((X.setCell ⟨g, a0, none⟩ u0).setCell ⟨g, a1, none⟩ u1).setCell ⟨g, a2, none⟩ u2).setCell ⟨g, a3, none⟩ u3).setCell ⟨g, a4, none⟩ u4).heap[b]? = X.heap[b]? := by
  rw [Below.heap_setCell _ _ _ _ h, Below.heap_setCell _ _ _ _ h, Below.heap_setCell _ _ _ _ h, Below.heap_setCell _ _ _ _ h, Below.heap_setCell _ _ _ _ h]
/-- Word k of an own row of words is stored with 'came' turned: its memory behind. -/
theorem own_turn {Y : World} {B g c9 k : Nat} {ws : List MoWord} {b : Bool} {says sum of back : Int} {came : Bool} (hk : k < ws.length) (hy : ws[k] = ⟨says, sum, of, back, came⟩)
    (ho : Y.ownsRow B 70 5 (.slice (some ⟨g, 0, none⟩) ws.length c9) ws.length (wordsFlat ws)) :
    (((((Y.setCell ⟨g, k * 5, none⟩ (.int .i64 says)).setCell ⟨g, k * 5 + 1, none⟩ (.int .i64 sum)).setCell ⟨g, k * 5 + 2, none⟩ (.int .i64 of)).setCell ⟨g, k * 5 + 3, none⟩ (.int .i64 back)).setCell ⟨g, k * 5 + 4, none⟩ (.bool b)).ownsRow B 70 5 (.slice (some ⟨g, 0, none⟩) ws.length c9) ws.length (wordsFlat (turnCame ws k b)) := by
  have hst := wordsFlat_set ws k hk { ws[k] with came := b }
  rw [turnCame_set ws k b hk, ← hst, hy]
  exact (((((ho.stored (k * 5) _).1.stored (k * 5 + 1) _).1.stored (k * 5 + 2) _).1.stored (k * 5 + 3) _).1.stored (k * 5 + 4) _).1
end Go.Proofs.Ytnlolliankhfmaa
