/- What is proved here: how the search for a plan lies in memory and stays. No condition. -/
import Derived.Test.YtmhbjohpggghgaaSePl1
import Derived.Laws.CopyOwn
set_option linter.unusedVariables false
set_option linter.unusedSimpArgs false
namespace Go.Proofs.Ytmhbjohpggghgaa
open Go Go.RowKit Go.Shelf

/-- The blocks of the search. -/
structure PlB where
  bm : Nat
  bo : Nat
  bx : Nat
  bwr : Nat
  bwt : Nat
  bmy : Nat
  pb : Nat
  bp : Nat
  bf : Nat
  bn : Nat
def PlB.caps (B : PlB) : Array Value := #[.pointer (some ⟨B.bf, 0, none⟩), .pointer (some ⟨B.bwt, 0, none⟩), .pointer (some ⟨B.bp, 0, none⟩), .pointer (some ⟨B.bwr, 0, none⟩), .pointer (some ⟨B.bx, 0, none⟩), .pointer (some ⟨B.bmy, 0, none⟩), .pointer (some ⟨B.bn, 0, none⟩)]
def PlB.ok (B : PlB) (b0 : Nat) : Prop := b0 ≤ B.bx ∧ B.bx < B.bwr ∧ B.bwr < B.bwt ∧ B.bwr ≠ B.bm ∧ B.bwt ≠ B.bm ∧ B.bwt < B.bo ∧ B.bm < B.bmy ∧ B.bo < B.bmy ∧ B.bmy < B.pb ∧ B.pb < B.bp ∧ B.bp < B.bf ∧ B.bf < B.bn
/-- What the best plan so far is, as a value. -/
def BestV (W : World) (bn n : Nat) (v : Value) : Option (List Int) → Prop
  | none => v = .slice none 0 0
  | some q => ∃ g, v = .slice (some ⟨g, 0, none⟩) n n ∧ BlkI W g 3 q ∧ q.length = n ∧ bn < g
def waitCell : Option (List Int) → Nat
  | none => 0
  | some q => waitingOf q
structure PlanC (w0 W : World) (B : PlB) (a1 a2 a3 a4 a5 : Option Addr) (k1 k2 k3 k4 k5 : Nat) (r : SeRoom) (L : List Int) (best : Option (List Int)) : Prop where
  keep : KeepN w0 W B.bm B.bo a1 a2 a3 a4 a5 k1 k2 k3 k4 k5 r
  ok : B.ok w0.heap.size
  x : W.heap[B.bx]? = some (.cells #[.slice a1 r.writers.length k1, .slice a2 r.kept.length k2, .slice a3 r.leaks.length k3, .slice a4 r.letters.length k4, .slice a5 r.heard.length k5] 28 (0, 0))
  wr : ∃ v, W.heap[B.bwr]? = some (.cells #[v] 23 (0, 0)) ∧ BestV W B.bn r.letters.length v best
  wt : W.heap[B.bwt]? = some (.cells #[.int .i64 (waitCell best : Int)] 3 (0, 0))
  my : W.heap[B.bmy]? = some (.cells #[.func (.func 93) #[.pointer (some ⟨B.bm, 0, none⟩)] #[]] 82 (0, 0))
  arr : BlkI W B.pb 3 L
  len : L.length = r.letters.length
  p : W.heap[B.bp]? = some (.cells #[.slice (some ⟨B.pb, 0, none⟩) r.letters.length r.letters.length] 23 (0, 0))
  f : W.heap[B.bf]? = some (.cells #[.bool best.isSome] 4 (0, 0))
  n : W.heap[B.bn]? = some (.cells #[.func (.func 95) #[] B.caps] 126 (0, 0))
theorem BestV.same {W W' : World} {bn n : Nat} {v : Value} {best : Option (List Int)} (h : BestV W bn n v best) (e : ∀ g, bn < g → g < W.heap.size → W'.heap[g]? = W.heap[g]?) : BestV W' bn n v best := by
  cases best with
  | none => exact h
  | some q =>
    obtain ⟨g, h1, h2, h3, h4⟩ := h
    exact ⟨g, h1, h2.same (e g h4 h2.lt), h3, h4⟩
variable {w0 W W' : World} {B : PlB} {a1 a2 a3 a4 a5 : Option Addr} {k1 k2 k3 k4 k5 : Nat} {r : SeRoom} {L : List Int} {best : Option (List Int)}
theorem PlanC.lt (h : PlanC w0 W B a1 a2 a3 a4 a5 k1 k2 k3 k4 k5 r L best) : B.bn < W.heap.size := lt_of_block h.n
theorem PlanC.below (hm : RoomC w0 a1 a2 a3 a4 a5 k1 k2 k3 k4 k5 r) (h : PlanC w0 W B a1 a2 a3 a4 a5 k1 k2 k3 k4 k5 r L best) (hb : Below W.heap.size W W') : PlanC w0 W' B a1 a2 a3 a4 a5 k1 k2 k3 k4 k5 r L best := by
  have hl := h.lt
  have ho := h.ok
  unfold PlB.ok at ho
  refine ⟨h.keep.belowB hm hb h.keep.2.size h.keep.1.bm_lt h.keep.1.bo_lt, h.ok, (hb.block _ (lt_of_block h.x)).trans h.x, ?_, (hb.block _ (lt_of_block h.wt)).trans h.wt, (hb.block _ (lt_of_block h.my)).trans h.my, h.arr.same (hb.block _ h.arr.lt), h.len, (hb.block _ (lt_of_block h.p)).trans h.p, (hb.block _ (lt_of_block h.f)).trans h.f, (hb.block _ hl).trans h.n⟩
  obtain ⟨v, h1, h2⟩ := h.wr
  exact ⟨v, (hb.block _ (lt_of_block h1)).trans h1, h2.same fun g _ hg => hb.block g hg⟩
theorem PlanC.step (h : PlanC w0 W B a1 a2 a3 a4 a5 k1 k2 k3 k4 k5 r L best) (hg : W.grownBy W' (some B.bo)) (hR : RoomW W' B.bm B.bo a1 a2 a3 a4 a5 k1 k2 k3 k4 k5 r 0) : PlanC w0 W' B a1 a2 a3 a4 a5 k1 k2 k3 k4 k5 r L best := by
  have ho := h.ok
  unfold PlB.ok at ho
  have e : ∀ b, b ≠ B.bo → b < W.heap.size → W'.heap[b]? = W.heap[b]? := fun b h1 h2 => hg.block b h2 (fun e => h1 (Option.some.inj e))
  refine ⟨h.keep.step hg hR (by omega), h.ok, (e _ (by omega) (lt_of_block h.x)).trans h.x, ?_, (e _ (by omega) (lt_of_block h.wt)).trans h.wt, (e _ (by omega) (lt_of_block h.my)).trans h.my, h.arr.same (e _ (by omega) h.arr.lt), h.len, (e _ (by omega) (lt_of_block h.p)).trans h.p, (e _ (by omega) (lt_of_block h.f)).trans h.f, (e _ (by omega) h.lt).trans h.n⟩
  obtain ⟨v, h1, h2⟩ := h.wr
  exact ⟨v, (e _ (by omega) (lt_of_block h1)).trans h1, h2.same fun g h3 hg => e g (by omega) hg⟩
/-- A number goes into the plan. -/
theorem PlanC.setp (hm : RoomC w0 a1 a2 a3 a4 a5 k1 k2 k3 k4 k5 r) (h : PlanC w0 W B a1 a2 a3 a4 a5 k1 k2 k3 k4 k5 r L best) (i : Nat) (x : Int) : PlanC w0 (W.setCell ⟨B.pb, i, none⟩ (.int .i64 x)) B a1 a2 a3 a4 a5 k1 k2 k3 k4 k5 r (L.set i x) best := by
  have ho := h.ok
  unfold PlB.ok at ho
  have e : ∀ b, b ≠ B.pb → (W.setCell ⟨B.pb, i, none⟩ (.int .i64 x)).heap[b]? = W.heap[b]? := fun b h1 => Below.heap_setCell _ _ _ _ h1
  have hbl : Below w0.heap.size w0 (W.setCell ⟨B.pb, i, none⟩ (.int .i64 x)) := h.keep.2.setCell (by simp; omega) _
  obtain ⟨T, hT, hM⟩ := h.keep.1.map
  refine ⟨⟨⟨hm.mono hbl, h.keep.1.blk.same (e _ (by omega)), T, hT.same (e _ (by omega)), hM⟩, hbl⟩, h.ok, (e _ (by omega)).trans h.x, ?_, (e _ (by omega)).trans h.wt, (e _ (by omega)).trans h.my, h.arr.set i x, by rw [List.length_set]; exact h.len, (e _ (by omega)).trans h.p, (e _ (by omega)).trans h.f, (e _ (by omega)).trans h.n⟩
  obtain ⟨v, h1, h2⟩ := h.wr
  exact ⟨v, (e _ (by omega)).trans h1, h2.same fun g h3 hg => e g (by omega)⟩
/-- A better plan is laid. -/
theorem PlanC.found (hm : RoomC w0 a1 a2 a3 a4 a5 k1 k2 k3 k4 k5 r) (h : PlanC w0 W B a1 a2 a3 a4 a5 k1 k2 k3 k4 k5 r L best) {g : Nat} {q : List Int} (hq : q.length = r.letters.length) (hg : W.heap.size ≤ g) (hos : W'.os = W.os) (ht : W'.tape = W.tape) (hou : W'.output = W.output) (hsz : W.heap.size ≤ W'.heap.size)
    (he : ∀ b, b < W.heap.size → b ≠ B.bwr → b ≠ B.bwt → b ≠ B.bf → W'.heap[b]? = W.heap[b]?) (h1 : W'.heap[B.bwr]? = some (.cells #[.slice (some ⟨g, 0, none⟩) r.letters.length r.letters.length] 23 (0, 0)))
    (h2 : W'.heap[B.bwt]? = some (.cells #[.int .i64 (waitingOf q : Int)] 3 (0, 0))) (h3 : W'.heap[B.bf]? = some (.cells #[.bool true] 4 (0, 0))) (h4 : BlkI W' g 3 q) : PlanC w0 W' B a1 a2 a3 a4 a5 k1 k2 k3 k4 k5 r L (some q) := by
  have ho := h.ok
  have hl := h.lt
  unfold PlB.ok at ho
  have hz := h.keep.2.size
  have hbl : Below w0.heap.size w0 W' := ⟨hos.trans h.keep.2.os, ht.trans h.keep.2.tape, hou.trans h.keep.2.output, Nat.le_trans hz hsz, fun b hb => (he b (by omega) (by omega) (by omega) (by omega)).trans (h.keep.2.block b hb)⟩
  obtain ⟨T, hT, hM⟩ := h.keep.1.map
  have e : ∀ b, b < W.heap.size → b ≠ B.bwr → b ≠ B.bwt → b ≠ B.bf → W'.heap[b]? = W.heap[b]? := he
  exact ⟨⟨⟨hm.mono hbl, h.keep.1.blk.same (e _ h.keep.1.bm_lt (by omega) (by omega) (by omega)), T, hT.same (e _ hT.lt (by omega) (by omega) (by omega)), hM⟩, hbl⟩, h.ok, (e _ (lt_of_block h.x) (by omega) (by omega) (by omega)).trans h.x, ⟨_, h1, g, rfl, h4, hq, by omega⟩, h2, (e _ (lt_of_block h.my) (by omega) (by omega) (by omega)).trans h.my, h.arr.same (e _ h.arr.lt (by omega) (by omega) (by omega)), h.len, (e _ (lt_of_block h.p) (by omega) (by omega) (by omega)).trans h.p, h3, (e _ hl (by omega) (by omega) (by omega)).trans h.n⟩
/-- Whether a writer may be the next one of a plan. -/
def takenB (r : SeRoom) (p : List Int) (u : Int) (day : Int) : Bool := (List.range p.length).any fun k => decide (p[k]?.getD 0 = u) && decide ((letterAt r k).day = day)
theorem fits_writer (r : SeRoom) (p : List Int) (u : Nat) (hp : p.length < r.letters.length) (hu : u < r.writers.length) (hd : r.letters[p.length].day ≤ 10) :
    fitsAt r (seTruths r []) (p ++ [(u : Int)]) p.length = (!takenB r p u r.letters[p.length].day && (decide (r.letters[p.length].writer = -1) || decide (r.letters[p.length].writer = (u : Int))) && mayB r r.letters[p.length] u) := by
  have e1 : letterAt r p.length = r.letters[p.length] := by unfold letterAt; rw [List.getElem?_eq_getElem hp]; rfl
  have e2 : (p ++ [(u : Int)])[p.length]?.getD 0 = (u : Int) := by rw [List.getElem?_append_right (Nat.le_refl _)]; simp
  unfold fitsAt
  simp only [e1, e2]
  rw [may_can r _ u hd]
  have e3 : seWho r (u : Int) = true := inB_iff.2 ⟨by omega, by omega⟩
  have e4 : ((List.range p.length).all fun k => !(decide ((p ++ [(u : Int)])[k]?.getD 0 = (u : Int)) && decide ((letterAt r k).day = r.letters[p.length].day))) = !takenB r p u r.letters[p.length].day := by
    unfold takenB
    rw [Bool.eq_iff_iff, List.all_eq_true]
    simp only [Bool.not_eq_true', List.any_eq_false]
    constructor
    · intro h k hk
      have := h k hk
      rw [List.getElem?_append_left (List.mem_range.1 hk)] at this
      simpa using this
    · intro h k hk
      have := h k hk
      rw [List.getElem?_append_left (List.mem_range.1 hk)]
      simpa using this
  rw [e3, e4]
  have e5 : decide ((u : Int) = -1) = false := by simp
  have e6 : decide ((u : Int) = r.letters[p.length].writer) = decide (r.letters[p.length].writer = (u : Int)) := decide_eq_decide.2 ⟨Eq.symm, Eq.symm⟩
  rw [e5, e6]
  cases takenB r p u r.letters[p.length].day <;> cases mayB r r.letters[p.length] u <;> cases decide (r.letters[p.length].writer = -1) <;> cases decide (r.letters[p.length].writer = (u : Int)) <;> rfl
theorem fits_nobody (r : SeRoom) (T : List (List Int)) (p : List Int) (hp : p.length < r.letters.length) : fitsAt r T (p ++ [-1]) p.length = decide (r.letters[p.length].writer = -1) := by
  have e1 : letterAt r p.length = r.letters[p.length] := by unfold letterAt; rw [List.getElem?_eq_getElem hp]; rfl
  have e2 : (p ++ [(-1 : Int)])[p.length]?.getD 0 = (-1 : Int) := by rw [List.getElem?_append_right (Nat.le_refl _)]; simp
  unfold fitsAt
  simp only [e1, e2]
  by_cases h : r.letters[p.length].writer = -1
  · simp [h]
  · simp [h]; omega
end Go.Proofs.Ytmhbjohpggghgaa
