/- What is proved here: a law for a range over a function whose iterator turns memory by a relation R while it goes (a map that remembers), the body leaving at its end or by a return. Over any program. -/
/- What is proved here: a law for a range over a function whose iterator keeps its state in cells of its own, the body leaving at its end or by a return. Over any program. -/
/- What is proved here: next, as an iterator. Conditions: the hall is looked at and valid; the stand lies in memory. -/
/- What is proved here: minutes of writers are compared as their numbers are; what over lays at first. No condition but the numbers' size. -/
import Derived.Test.YtelmponkmmfffaaGreatDeFailG
import Derived.Test.YtelmponkmmfffaaGreatDeFlawG
import Derived.DeepKeys
set_option linter.unusedVariables false
set_option linter.unusedSimpArgs false
namespace Go.Proofs.YtelmponkmmfffaaGreat
open Go Go.RowKit

/-- How the body of a round is left. -/
def roundM {α : Type} (B : Nat) (I : List α → World → Prop) (Ix : Code → List α → World → Prop) (xs : List α) (W : World) : Exit → Act → World → Prop
  | .normal, _, W' => Above B W W' ∧ I xs W'
  | .ret, _, W' => Above B W W' ∧ Ix .ret xs W'
  | .exit id, _, W' => Above B W W' ∧ Ix (.exit id) xs W'
  | _, _, _ => False

variable {P : Program}

end Go.Proofs.YtelmponkmmfffaaGreat
namespace Go.Proofs.YtelmponkmmfffaaGreat
open Go Go.RowKit
variable {P : Program}

/-- **An iterator that gives xs, its state in cells of its own, the body leaving early or not.** B: what lies at or above it is the iterator's, or the loop's. -/
def SeqX {α : Type} (P : Program) (gf : Nat) (lb : Array Value) (encs : α → Array Value) (B : Nat) (Z : World → Prop) (xs : List α) (w : World) : Prop :=
  ∀ (l : Nat) (J Jx : List α → World → Prop) (W : World), Below w.heap.size w W → w.heap.size ≤ W.heap.size → (∀ s A A', J s A → Below W.heap.size A A' → J s A') → (∀ s A, J s A → Z A) →
    (∀ pre x W1, J pre W1 → pre ++ [x] <+: xs → YieldAt Fence.wide 0 P l (encs x) W1 fun e W' => (e = .returned (.bool true) ∧ J (pre ++ [x]) W' ∧ Above B W1 W') ∨ (e = .returned (.bool false) ∧ Jx (pre ++ [x]) W')) →
    J [] W → CallsIn Fence.wide 0 P gf (#[.func (.yield l) #[] #[]] ++ lb) W fun e W' => (∃ v, e = .returned v) ∧ (J xs W' ∨ ∃ pre, Jx pre W')

theorem wpIn_rangeFunc_X {α : Type} {g : Operand} {ps : Array Tmp} {assign body : Code} {Q : Exit → Act → World → Prop} {a : Act} {w : World}
    {gf : Nat} {lb : Array Value} (hg : a.eval g = .func (.func gf) #[] lb) (eg : ∀ args w, (callFunc gf args).run P w = .ok (.enter gf args) w)
    {encs : α → Array Value} {Z : World → Prop} {B : Nat} {xs : List α} {w0 : World} (hseq : SeqX P gf lb encs B Z xs w0) (hb0 : Below w0.heap.size w0 w) (hB : B ≤ w.heap.size) (hps : ∀ x, (encs x).size = ps.size)
    (I : List α → World → Prop) (Ix : Code → List α → World → Prop) (hI : ∀ s A A', I s A → Below B A A' → I s A') (hIx : ∀ c s A o lp, Ix c s A → A.heap[w.heap.size + 1]? = some (.loop lp) → Ix c s (A.putObj (w.heap.size + 1) o))
    (hIZ : ∀ s A, I s A → Z A) (h0 : I [] w)
    (hround : ∀ (l : Nat) (pre : List α) (x : α) (W : World), w.heap.size < l → l < W.heap.size → I pre W → pre ++ [x] <+: xs →
      assign.wpIn (Fence.wide.inRound l) 0 P (Exit.then (fun a' Wa => Above B W Wa ∧ I pre Wa ∧ ∀ Wb, Wb.heap.size = Wa.heap.size → (∀ b, b ≠ l → Wb.heap[b]? = Wa.heap[b]?) → I pre Wb →
        body.wpIn (Fence.wide.inRound l) 0 P (roundM B I Ix (pre ++ [x]) Wb) a' Wb) (fun _ _ _ => False)) { tmps := (ps.zip (encs x)).foldl (fun t (p, v) => t.setIfInBounds p v) a.tmps, defers := [] } W)
    (hdone : ∀ (D : Nat) (W : World), w.heap.size ≤ D → I xs W → W.heap[D]? = some (.deferred (some [])) → Q .normal { a with defers := { target := .collected D, args := #[] } :: a.defers } W)
    (hstop : ∀ (D : Nat) (c : Code) (pre : List α) (W : World), w.heap.size ≤ D → Ix c pre W → W.heap[D]? = some (.deferred (some [])) → c.wpIn Fence.wide 0 P Q { a with defers := { target := .collected D, args := #[] } :: a.defers } W) :
    (Code.rangeFunc g ps assign body).wpIn Fence.wide 0 P Q a w := by
  refine wpIn_rangeFunc ?_
  intro fn hfn
  rw [show Fence.wide.round = none from rfl]
  obtain ⟨rec, hrec⟩ : ∃ rec : LoopState → Option Code → Loop, rec = fun st pe => { state := st, pending := pe, fn, tmps := a.tmps, params := ps, assign, body, defers := w.heap.size } := ⟨_, rfl⟩
  obtain ⟨W1, hW1⟩ : ∃ W1, (w.alloc (.deferred (some []))).alloc (.loop (rec .ready none)) = W1 := ⟨_, rfl⟩
  have hL1 : W1.heap[w.heap.size + 1]? = some (.loop (rec .ready none)) := by
    rw [← hW1]; have := World.alloc_heap_new (w.alloc (.deferred (some []))) (.loop (rec .ready none)); rwa [World.size_alloc] at this
  have hK1 : W1.heap[w.heap.size]? = some (.deferred (some [])) := by
    rw [← hW1]; exact (Below.heap_alloc _ _ _ (by simp)).trans (World.alloc_heap_new w _)
  have hbw1 : Below w.heap.size w W1 := by
    rw [← hW1]; exact (((Below.refl _ w).alloc (Nat.le_refl _) _).alloc (by simp) _)
  have hsz1 : W1.heap.size = w.heap.size + 2 := by rw [← hW1]; simp
  have hI1 : I [] W1 := hI _ _ _ h0 (hbw1.mono hB)
  have hb1 : Below w0.heap.size w0 W1 := hb0.trans (hbw1.mono hb0.size)
  have hput : ∀ (A : World) (o : Obj), Below B A (A.putObj (w.heap.size + 1) o) := fun A o => ⟨rfl, rfl, rfl, by simp [World.putObj], fun b hb => World.putObj_heap_other (by omega)⟩
  refine ⟨w.heap.size + 1, [{ target := .collected w.heap.size, args := #[] }], W1, { target := .fn (.func gf) lb, args := #[.func (.yield (w.heap.size + 1)) #[] #[]] }, W1, gf,
    #[.func (.yield (w.heap.size + 1)) #[] #[]] ++ lb, W1, ?_, ?_, ?_, ?_, fun h => (by cases h), ?_⟩
  · rw [← hW1, hrec]; exact run_enterLoop_outer _ _ _ _ _
  · simp only [resolve, hg]
    simp [go_sem]
  · intro f' hf'; trivial
  · simp [invoke, go_sem, eg]
  · refine (hseq (w.heap.size + 1)
      (fun pre W => I pre W ∧ W.heap[w.heap.size + 1]? = some (.loop (rec .ready none)) ∧ W.heap[w.heap.size]? = some (.deferred (some [])))
      (fun pre W => ∃ c, Ix c pre W ∧ W.heap[w.heap.size + 1]? = some (.loop (rec .done (some c))) ∧ W.heap[w.heap.size]? = some (.deferred (some [])))
      W1 hb1 hb1.size
      (fun s A A' hs hb => ⟨hI s A A' hs.1 (hb.mono (by omega)), (hb.block _ (by omega)).trans hs.2.1, (hb.block _ (by omega)).trans hs.2.2⟩)
      (fun s A hs => hIZ s A hs.1)
      ?_ ⟨hI1, hL1, hK1⟩).mono ?_
    · rintro pre x W ⟨hi, hl, hk⟩ hpre
      have hlt : w.heap.size + 1 < W.heap.size := (Array.getElem?_eq_some_iff.1 hl).1
      have hy := run_yield (P := P) (args := encs x) hl (by rw [hrec]; exact hps x)
      rw [hrec] at hy
      refine ⟨fn, _, assign, body, hy, roundIn_of_wpIn hfn (wpIn_mono (hround _ pre x W (by omega) hlt hi hpre) ?_)⟩
      clear hy
      rintro e a' Wa he
      cases e with
      | normal =>
        obtain ⟨hab, hia, hbody⟩ := he
        have hla : Wa.heap[w.heap.size + 1]? = some (.loop (rec .ready none)) := (hab.block _ (by omega) hlt).trans hl
        have hka : Wa.heap[w.heap.size]? = some (.deferred (some [])) := (hab.block _ (by omega) (by omega)).trans hk
        have hlta : w.heap.size + 1 < Wa.heap.size := (Array.getElem?_eq_some_iff.1 hla).1
        refine ⟨_, run_beginRound hla (by rw [hrec]), ?_⟩
        have hl2 : (Wa.putObj (w.heap.size + 1) (.loop { rec .ready none with state := .busy })).heap[w.heap.size + 1]? = some (.loop { rec .ready none with state := .busy }) := World.putObj_heap_same hlta
        have hk2 : (Wa.putObj (w.heap.size + 1) (.loop { rec .ready none with state := .busy })).heap[w.heap.size]? = some (.deferred (some [])) := (World.putObj_heap_other (by omega)).trans hka
        have hsp : ∀ o, (Wa.putObj (w.heap.size + 1) o).heap.size = Wa.heap.size := fun o => by simp [World.putObj]
        refine wpIn_mono (hbody _ (hsp _) (fun b hb => World.putObj_heap_other hb) (hI _ _ _ hia (hput _ _))) ?_
        have fin : ∀ (jump : Option Code) (W3 : World), Above B (Wa.putObj (w.heap.size + 1) (.loop { rec .ready none with state := .busy })) W3 →
            (Instr.endRound (w.heap.size + 1) jump).run P W3 = .ok (.bool jump.isNone) (W3.putObj (w.heap.size + 1) (.loop (rec (if jump.isNone then .ready else .done) jump))) ∧
            (W3.putObj (w.heap.size + 1) (.loop (rec (if jump.isNone then .ready else .done) jump))).heap[w.heap.size + 1]? = some (.loop (rec (if jump.isNone then .ready else .done) jump)) ∧
            (W3.putObj (w.heap.size + 1) (.loop (rec (if jump.isNone then .ready else .done) jump))).heap[w.heap.size]? = some (.deferred (some [])) ∧ W3.heap[w.heap.size + 1]? = some (.loop { rec .ready none with state := .busy }) := fun jump W3 hab3 => by
          have hl3 : W3.heap[w.heap.size + 1]? = some (.loop { rec .ready none with state := .busy }) := (hab3.block _ (by omega) (by rw [hsp]; omega)).trans hl2
          have hk3 : W3.heap[w.heap.size]? = some (.deferred (some [])) := (hab3.block _ (by omega) (by rw [hsp]; omega)).trans hk2
          have hlt3 : w.heap.size + 1 < W3.heap.size := (Array.getElem?_eq_some_iff.1 hl3).1
          have hr := run_endRound (P := P) jump hl3
          refine ⟨?_, World.putObj_heap_same hlt3, (World.putObj_heap_other (by omega)).trans hk3, hl3⟩
          rw [hrec] at hr ⊢
          exact hr
        rintro e a3 W3 hp
        cases e with
        | normal =>
          obtain ⟨hab3, hi3⟩ := hp
          obtain ⟨hr, hl4, hk4, -⟩ := fin none W3 hab3
          have hfin : Above B W (W3.putObj (w.heap.size + 1) (.loop (rec .ready none))) := by
            have g := grownBy_putObj' W3 (w.heap.size + 1) (.loop (rec .ready none))
            have g2 := grownBy_putObj' Wa (w.heap.size + 1) (.loop { rec .ready none with state := .busy })
            have hz3 : Wa.heap.size ≤ W3.heap.size := by have := hab3.size; rw [hsp] at this; exact this
            have hza := hab.size
            refine ⟨g.os.trans (hab3.os.trans (g2.os.trans hab.os)), g.tape.trans (hab3.tape.trans (g2.tape.trans hab.tape)), g.output.trans (hab3.output.trans (g2.output.trans hab.output)), ?_, fun b hb1 hb2 => ?_⟩
            · have := g.size
              omega
            · by_cases hbl : b = w.heap.size + 1
              · subst hbl
                exact hl4.trans hl.symm
              · rw [World.putObj_heap_other hbl, hab3.block b hb1 (by rw [hsp]; omega), World.putObj_heap_other hbl, hab.block b hb1 hb2]
          exact ⟨_, _, hr, .inl ⟨rfl, ⟨hI _ _ _ hi3 (hput _ _), hl4, hk4⟩, hfin⟩⟩
        | ret =>
          obtain ⟨hab3, hi3⟩ := hp
          obtain ⟨hr, hl4, hk4, hl9⟩ := fin (some .ret) W3 hab3
          exact ⟨_, _, hr, .inr ⟨rfl, .ret, hIx _ _ _ _ _ hi3 hl9, hl4, hk4⟩⟩
        | exit id =>
          obtain ⟨hab3, hi3⟩ := hp
          obtain ⟨hr, hl4, hk4, hl9⟩ := fin (some (.exit id)) W3 hab3
          exact ⟨_, _, hr, .inr ⟨rfl, .exit id, hIx _ _ _ _ _ hi3 hl9, hl4, hk4⟩⟩
        | goto t => exact hp.elim
        | panic ch => exact hp.elim
        | outgrown => exact hp.elim
      | ret => exact he.elim
      | exit id => exact he.elim
      | goto t => exact he.elim
      | panic ch => exact he.elim
      | outgrown => exact he.elim
    · rintro e W2 ⟨⟨v, rfl⟩, (⟨hi, hl, hk⟩ | ⟨pre, c, hi, hl, hk⟩)⟩
      · have hlt : w.heap.size + 1 < W2.heap.size := (Array.getElem?_eq_some_iff.1 hl).1
        refine ⟨none, _, by have := run_endLoop (P := P) hl (by rw [hrec]; simp); rw [hrec] at this; exact this, ?_⟩
        exact hdone _ _ (Nat.le_refl _) (hI _ _ _ hi (hput _ _)) ((World.putObj_heap_other (by omega)).trans hk)
      · refine ⟨some c, _, by have := run_endLoop (P := P) hl (by rw [hrec]; simp); rw [hrec] at this; exact this, ?_⟩
        exact hstop _ c pre _ (Nat.le_refl _) (hIx _ _ _ _ _ hi hl) ((World.putObj_heap_other (by omega)).trans hk)
end Go.Proofs.YtelmponkmmfffaaGreat
namespace Go.Proofs.YtelmponkmmfffaaGreat
open Go Go.RowKit Go.Shelf

theorem bit_zeroD : ∀ c : Nat, c < 64 → ∀ k : Nat, k < 7 → (bits BinOp.and IntKind.i64 ((c : Int) / 2 ^ k) 1 == 0) = !c.testBit k := by decide +kernel
theorem or_bit32 : ∀ c : Nat, c < 32 → ∀ k : Nat, k < 5 → bits BinOp.or .i64 (c : Int) (wrap64 (2 ^ k)) = ((c ||| 2 ^ k : Nat) : Int) := by decide +kernel
theorem stL_next {h : DeH} {x : DeSt} (hx : StOk h x) (c : Nat) (hw : x.writer < 3) : ((stL x).set 1 ((x.done ||| 2 ^ c : Nat) : Int)).set (2 + x.writer) (goD h x c) = stL (nextC h x c) := by
  have hl : x.writer < x.ms.length := by rw [hx.len]; exact hw
  have m0 := nextC_minute h x c 0 hl
  have m1 := nextC_minute h x c 1 hl
  have m2 := nextC_minute h x c 2 hl
  unfold stL
  rw [m0, m1, m2]
  have e1 : (nextC h x c).writer = x.writer := rfl
  have e2 : (nextC h x c).done = x.done ||| 2 ^ c := rfl
  rw [e1, e2]
  have : x.writer = 0 ∨ x.writer = 1 ∨ x.writer = 2 := by omega
  rcases this with e | e | e <;> rw [e] <;> rfl
theorem blk_five {W : World} {b : Nat} {t : TypeId} {L : List Int} (h : BlkI W b t L) (hl : L.length = 5) (a0 a1 a2 a3 a4 : Int) :
    BlkI (((((W.setCell ⟨b, 0, none⟩ (.int .i64 a0)).setCell ⟨b, 1, none⟩ (.int .i64 a1)).setCell ⟨b, 2, none⟩ (.int .i64 a2)).setCell ⟨b, 3, none⟩ (.int .i64 a3)).setCell ⟨b, 4, none⟩ (.int .i64 a4)) b t [a0, a1, a2, a3, a4] := by
  have := ((((h.set 0 a0).set 1 a1).set 2 a2).set 3 a3).set 4 a4
  match L, hl with
  | [l0, l1, l2, l3, l4], _ => exact this
theorem filter_yesD {p : Nat → Bool} {k : Nat} (h : p k = true) : (List.range (k + 1)).filter p = (List.range k).filter p ++ [k] := by
  rw [List.range_succ, List.filter_append]; simp [h]
theorem filter_noD {p : Nat → Bool} {k : Nat} (h : p k = false) : (List.range (k + 1)).filter p = (List.range k).filter p := by
  rw [List.range_succ, List.filter_append]; simp [h]
theorem filter_preD {p : Nat → Bool} {k n : Nat} (hk : k < n) (h : p k = true) : (List.range k).filter p ++ [k] <+: (List.range n).filter p := by
  rw [← filter_yesD h]
  obtain ⟨m, rfl⟩ : ∃ m, n = (k + 1) + m := ⟨n - (k + 1), by omega⟩
  rw [show List.range (k + 1 + m) = List.range (k + 1) ++ (List.range m).map (k + 1 + ·) from List.range_add, List.filter_append]
  exact List.prefix_append _ _
/-- The stands that can follow, of the first customers. -/
def nextTo (h : DeH) (wm cm : Nat) (x : DeSt) (k : Nat) : List (Int × DeSt) := (-1, nextW x) :: ((List.range k).filter (putB h wm cm x)).map fun (c : Nat) => ((c : Int), nextC h x c)
theorem nextTo_yes {h : DeH} {wm cm : Nat} {x : DeSt} {k : Nat} (hp : putB h wm cm x k = true) : nextTo h wm cm x (k + 1) = nextTo h wm cm x k ++ [((k : Int), nextC h x k)] := by
  unfold nextTo; rw [filter_yesD hp, List.map_append]; rfl
theorem nextTo_no {h : DeH} {wm cm : Nat} {x : DeSt} {k : Nat} (hp : putB h wm cm x k = false) : nextTo h wm cm x (k + 1) = nextTo h wm cm x k := by
  unfold nextTo; rw [filter_noD hp]
theorem nextTo_all {h : DeH} {wm cm : Nat} {x : DeSt} (hx : x.writer ≠ h.writers.length) : nextTo h wm cm x h.customers.length = nextD h wm cm x := by
  unfold nextTo nextD; rw [if_neg hx]
theorem nextTo_pre {h : DeH} {wm cm : Nat} {x : DeSt} (hx : x.writer ≠ h.writers.length) {k : Nat} (hk : k < h.customers.length) (hp : putB h wm cm x k = true) : nextTo h wm cm x k ++ [((k : Int), nextC h x k)] <+: nextD h wm cm x := by
  rw [← nextTo_all hx]
  unfold nextTo
  obtain ⟨t, ht⟩ := filter_preD hk hp
  rw [← ht]
  exact ⟨t.map fun (c : Nat) => ((c : Int), nextC h x c), by simp⟩
theorem nextTo_first {h : DeH} {wm cm : Nat} {x : DeSt} (hx : x.writer ≠ h.writers.length) : [] ++ [((-1 : Int), nextW x)] <+: nextD h wm cm x := by
  unfold nextD; rw [if_neg hx]
  exact ⟨_, rfl⟩

/-- What the iterator needs: the hall, the cell that points to it, and the stand. -/
def ZN (W : World) (bm bo xb rc : Nat) (aw ac : Option Addr) (kw kc : Nat) (h : DeH) (wm cm : Nat) (x : DeSt) : Prop := HallW W bm bo aw ac kw kc h wm cm ∧ StB W xb x ∧ W.heap[rc]? = some (.cells #[.pointer (some ⟨bm, 0, none⟩)] 109 (0, 0))
@[reducible] def encN (y : Int × DeSt) : Array Value := #[.int .i64 y.1, standV y.2]

set_option maxRecDepth 100000 in
set_option maxHeartbeats 4000000 in
theorem DNext1_any (aw ac : Option Addr) (kw kc : Nat) (h : DeH) (bm bo wm cm xb rc l : Nat) (x : DeSt) (hv : DeValid h) (hwm : wm < 8) (hcm : cm < 32) (hx : StOk h x) (B : Nat) (W : World) (hB : B ≤ W.heap.size) (J Jx : List (Int × DeSt) → World → Prop)
    (hJ : ∀ s A A', J s A → Below W.heap.size A A' → J s A')
    (hJZ : ∀ s A, J s A → ZN A bm bo xb rc aw ac kw kc h wm cm x)
    (hY : ∀ (pre : List (Int × DeSt)) (y : Int × DeSt) (W1 : World), J pre W1 → pre ++ [y] <+: nextD h wm cm x → YieldAt Fence.wide 0 Tryz.prog l (encN y) W1 fun e W' => (e = .returned (.bool true) ∧ J (pre ++ [y]) W' ∧ Above B W1 W') ∨ (e = .returned (.bool false) ∧ Jx (pre ++ [y]) W')) (hj : J [] W) :
    Calls Tryz.prog 109 #[.func (.yield l) #[] #[], .pointer (some ⟨xb, 0, none⟩), .pointer (some ⟨rc, 0, none⟩)] W fun e W' => (∃ v, e = .returned v) ∧ (J (nextD h wm cm x) W' ∨ ∃ pre, Jx pre W') := by
  have hnw := hv.nw
  have hnc := hv.nc
  have hxw := hx.w
  have hz := hJZ _ _ hj
  have l1 := hz.1.hall.okw.len
  have l1c := hz.1.hall.okw.1
  have l2 := hz.1.hall.okc.len
  have l2c := hz.1.hall.okc.1
  obtain ⟨y0, y1, y2, y3, y4, y5, y6⟩ := hz.1.blk.cells
  obtain ⟨x0, x1, x2, x3, x4, xz⟩ := StB.cells hz.2.1
  have r0 := blk_cell 0 hz.2.2 rfl
  simp only [List.getElem_toArray, List.getElem_cons_zero] at r0
  have rz := lt_of_block hz.2.2
  by_cases hw : x.writer = h.writers.length
  · have g1 := eqn_t hw
    have HN : Hid (nextD h wm cm x = []) := Lib.hid (by unfold nextD; rw [if_pos hw])
    have HJ := Lib.hid (fun A' hb => hJ _ _ A' hj hb)
    clear hw hY hJ hJZ hz hj
    go_enter Tryz.func109, Tryz.ntmps109
    go_step3
    go_wp2
    go_quiet (fail)
    go_wp2
    (try simp only [Exit.inBlock, Exit.then])
    rw [Exit.noGoto_ret]
    refine bodyPost_ret (results_none rfl _ _ _) rfl ?_
    rw [HN.out]
    exact ⟨⟨_, rfl⟩, .inl (HJ.out _ (below_draws _ _ _))⟩
  · have g1 := eqn_f hw
    have HW := Lib.hid hw
    have hlt : x.writer < h.writers.length := by omega
    have HBN := Lib.hid (nextTo_first (wm := wm) (cm := cm) hw)
    have HPRE := Lib.hid (fun (k : Nat) (hk : k < h.customers.length) hp => nextTo_pre (wm := wm) (cm := cm) hw hk hp)
    have HALL := Lib.hid (nextTo_all (wm := wm) (cm := cm) hw)
    clear hw
    have HJ := Lib.hid hJ
    have HJZ := Lib.hid hJZ
    have HY := Lib.hid hY
    have hj0 := Lib.hid (fun A' hb => hJ _ _ A' hj hb)
    have HX := Lib.hid hx
    clear hJ hJZ hY hj hz hx
    go_enter Tryz.func109, Tryz.ntmps109
    go_step3
    go_wp2
    go_quiet (fail)
    clear y0 y1 y2 y3 y4 y5 y6 x0 x1 x2 x3 x4 xz r0 rz
    have hbU := below_draws W.heap.size W nq
    have hjU := hj0.out _ hbU
    generalize World.drewN W nq = U at hbU hjU ⊢
    clear nq
    have hzU := hbU.size
    have hz := HJZ.out _ _ hjU
    obtain ⟨y0, y1, y2, y3, y4, y5, y6⟩ := hz.1.blk.cells
    obtain ⟨x0, x1, x2, x3, x4, xz⟩ := StB.cells hz.2.1
    have r0 := blk_cell 0 hz.2.2 rfl
    simp only [List.getElem_toArray, List.getElem_cons_zero] at r0
    have rz := lt_of_block hz.2.2
    clear hz
    go_upto_region 3 with (fail)
    obtain ⟨Y, hYe⟩ : ∃ Y : World, Y = U.alloc (.cells #[.int .i64 ((x.writer : Int) + 1), .int .i64 (x.done : Int), .int .i64 (minuteAt x 0), .int .i64 (minuteAt x 1), .int .i64 (minuteAt x 2)] 115) := ⟨_, rfl⟩
    rw [← hYe]
    have hbY : Below W.heap.size W Y := by rw [hYe]; exact hbU.alloc hzU _
    have hYs : StB Y U.heap.size (nextW x) := by rw [hYe]; exact alloc_at _ _ rfl
    have hjY := hj0.out _ hbY
    clear hYe hjU hbU y0 y1 y2 y3 y4 y5 y6 x0 x1 x2 x3 x4 xz r0 rz
    have hBy : B ≤ U.heap.size := Nat.le_trans hB hzU
    have HY0 := HY.out [] (-1, nextW x) Y hjY HBN.out
    obtain ⟨fn, tmps, assign, body, hyr, hR⟩ := HY0
    have HR := Lib.hid hR
    clear hR hjY
    obtain ⟨e0, e1, e2, e3, e4, ez⟩ := StB.cells hYs
    dsimp only [encN, standV] at hyr
    refine (wpIn_wide (n := 0)).1 ?_
    gi_wp2
    refine ⟨rfl, HR.out.mono ?_⟩
    rintro e W2 (⟨rfl, hj2, hab⟩ | ⟨rfl, hq⟩)
    rotate_left 1
    · gi_wp2
      go_wp2
      (try simp only [Exit.inBlock, Exit.then])
      rw [Exit.noGoto_ret]
      exact bodyPost_ret (results_none rfl _ _ _) rfl ⟨⟨_, rfl⟩, .inr ⟨_, hq⟩⟩
    · have hy2 : BlkI W2 U.heap.size 115 (stL (nextW x)) := hYs.same (hab.block _ hBy hYs.lt)
      clear HR hyr e0 e1 e2 e3 e4 ez hab hYs hbY HBN
      have hz := HJZ.out _ _ hj2
      obtain ⟨y0, y1, y2, y3, y4, y5, y6⟩ := hz.1.blk.cells
      obtain ⟨x0, x1, x2, x3, x4, xz⟩ := StB.cells hz.2.1
      have r0 := blk_cell 0 hz.2.2 rfl
      simp only [List.getElem_toArray, List.getElem_cons_zero] at r0
      have rz := lt_of_block hz.2.2
      clear hz
      replace hj2 := Lib.hid (show J (nextTo h wm cm x 0) W2 from hj2)
      gi_wp2
      go_wp2
      go_step3
      go_wp2
      go_loopw [34] (fun i wr => ∃ c : Nat, c ≤ h.customers.length ∧ i = .int .i64 c ∧ Hid (J (nextTo h wm cm x c) wr) ∧ ∃ L : List Int, L.length = 5 ∧ BlkI wr U.heap.size 115 L) (fun i _ => h.customers.length - (intOf i).toNat)
      case atStart => exact ⟨0, Nat.zero_le _, rfl, hj2, _, rfl, hy2⟩
      case round =>
        clear y0 y1 y2 y3 y4 y5 y6 x0 x1 x2 x3 x4 xz r0 rz hj2 hy2
        obtain ⟨c, hc, rfl, hj, L, hL5, hL⟩ := hrel
        have hz := HJZ.out _ _ hj.out
        obtain ⟨y0, y1, y2, y3, y4, y5, y6⟩ := hz.1.blk.cells
        obtain ⟨x0, x1, x2, x3, x4, xz⟩ := StB.cells hz.2.1
        have r0 := blk_cell 0 hz.2.2 rfl
        simp only [List.getElem_toArray, List.getElem_cons_zero] at r0
        have rz := lt_of_block hz.2.2
        have xm := StB.minute hz.2.1 x.writer (by omega)
        by_cases hlc : c < h.customers.length
        · have hcn : (c : Int) < h.customers.length := by omega
          have hx3 : (x.writer : Int) < 3 := by omega
          have CA := Lib.hid (fun (V : World) (hV : HallW V bm bo aw ac kw kc h wm cm) => DCan_any _ _ _ _ h bm bo wm cm x.writer c V hV hv hwm hlt hlc)
          obtain ⟨b3, o3, rfl, -, -, k1, k2, k3, k4⟩ := hz.1.hall.custs c hlc
          have z3 := lt_of_cell k3
          have hcs := customer_ship hv hlc
          have ec : customerAt h c = h.customers[c] := by unfold customerAt; rw [List.getElem?_eq_getElem hlc]; rfl
          have hxm := HX.out.m x.writer
          have hwx := hv.wax
          have hgo : Hid (goD h x c = minuteAt x x.writer + h.customers[c].hi + h.wax) := Lib.hid (by unfold goD; rw [ec]; rfl)
          have HPB : Hid (putB h wm cm x c = (cm.testBit c && !x.done.testBit c && (wm.testBit x.writer && canD h x.writer c) && decide (goD h x c ≤ h.customers[c].ship))) := Lib.hid (by unfold putB; rw [ec])
          rw [hgo.out] at HPB
          rw [ec] at hcs
          clear ec
          generalize h.customers[c].hi = thi at k3 hcs hgo HPB
          generalize hsh : h.customers[c].ship = tsh at k4 hcs HPB
          have HSH := Lib.hid hsh
          clear hsh
          have g2 := bit_zeroD cm (by omega) c (by omega)
          have g3 := bit_and x.done (by have := HX.out.d; have := pow32 hv; omega) c (by omega)
          have hc64 : (c : Int) < 64 := by omega
          have HZ := Lib.hid hz.1
          have HNO := Lib.hid (fun hp => nextTo_no (h := h) (wm := wm) (cm := cm) (x := x) (k := c) hp)
          clear hz
          go_upto_region 8 with (fail)
          go_quiet (fail)
          have hbV := below_draws wr.heap.size wr nq
          have hWw : W.heap.size ≤ wr.heap.size := by have := hL.lt; omega
          have hjV := HJ.out _ _ _ hj.out (hbV.mono hWw)
          have hLV : BlkI (wr.drewN nq) U.heap.size 115 L := hL.same (hbV.block _ hL.lt)
          replace HZ := Lib.hid (HZ.out.below hbV)
          clear y0 y1 y2 y3 y4 y5 y6 x0 x1 x2 x3 x4 xz r0 rz xm k1 k2 k3 k4 z3 hL hj
          generalize World.drewN wr nq = V at hbV hjV hLV HZ ⊢
          clear nq
          have hz := HJZ.out _ _ hjV
          obtain ⟨y0, y1, y2, y3, y4, y5, y6⟩ := hz.1.blk.cells
          obtain ⟨x0, x1, x2, x3, x4, xz⟩ := StB.cells hz.2.1
          have r0 := blk_cell 0 hz.2.2 rfl
          simp only [List.getElem_toArray, List.getElem_cons_zero] at r0
          have rz := lt_of_block hz.2.2
          clear hz
          cases hb1 : cm.testBit c
          · rw [hb1] at g2 HPB
            simp only [Bool.not_false] at g2
            clear hb1
            go_wp2
            go_roundw
            case rel => exact ⟨c + 1, by omega, by go_num, Lib.hid (by rw [HNO.out (by rw [HPB.out]; simp)]; exact hjV), L, hL5, hLV⟩
            case measure => simp [intOf]; omega
          rw [hb1] at g2 HPB
          simp only [Bool.not_true] at g2
          clear hb1
          cases hb2 : x.done.testBit c
          rotate_left 1
          · rw [hb2] at g3 HPB
            clear hb2
            go_wp2
            go_roundw
            case rel => exact ⟨c + 1, by omega, by go_num, Lib.hid (by rw [HNO.out (by rw [HPB.out]; simp)]; exact hjV), L, hL5, hLV⟩
            case measure => simp [intOf]; omega
          rw [hb2] at g3 HPB
          clear hb2
          have CV := CA.out V HZ.out
          generalize (wm.testBit x.writer && canD h x.writer c) = cb at CV HPB
          replace CV := Lib.hid CV
          cases cb
          · go_wp2_with (go_at_call 110; go_must ((with_reducible refine CV.out.mono ?_); rintro e w2 ⟨rfl, nq2, rfl⟩; dsimp only))
            go_roundw
            case rel => exact ⟨c + 1, by omega, by go_num, Lib.hid (by rw [HNO.out (by rw [HPB.out]; simp)]; exact HJ.out _ _ _ hjV ((below_draws _ V nq2).mono (Nat.le_refl _))), L, hL5, hLV.same ((below_draws _ V nq2).block _ hLV.lt)⟩
            case measure => simp [intOf]; omega
          obtain ⟨b3', o3', e3, -, -, -, -, -, k4⟩ := HZ.out.hall.custs c hlc
          cases e3
          rw [HSH.out] at k4
          have z3 := lt_of_cell k4
          by_cases hgt : tsh < minuteAt x x.writer + thi + h.wax
          · go_wp2_with (go_at_call 110; go_must ((with_reducible refine CV.out.mono ?_); rintro e w2 ⟨rfl, nq2, rfl⟩; dsimp only))
            go_roundw
            case rel => exact ⟨c + 1, by omega, by go_num, Lib.hid (by rw [HNO.out (by rw [HPB.out]; simp; omega)]; exact HJ.out _ _ _ hjV ((below_draws _ V nq2).mono (Nat.le_refl _))), L, hL5, hLV.same ((below_draws _ V nq2).block _ hLV.lt)⟩
            case measure => simp [intOf]; omega
          have hle : minuteAt x x.writer + thi + h.wax ≤ tsh := by omega
          have hpb := HPB.out
          rw [decide_eq_true hle] at hpb
          have hpb2 : putB h wm cm x c = true := by rw [hpb]; rfl
          have HYES := Lib.hid (nextTo_yes (h := h) (wm := wm) (cm := cm) (x := x) (k := c) hpb2)
          have HPC := Lib.hid (HPRE.out c hlc hpb2)
          clear hle hpb hpb2 HPB HNO
          go_upto_region 10 with (go_at_call 110; go_must ((with_reducible refine CV.out.mono ?_); rintro e w2 ⟨rfl, nq2, rfl⟩; dsimp only))
          have hb2 := below_draws V.heap.size V nq2
          have hWV : W.heap.size ≤ V.heap.size := by have := hbV.size; omega
          have hj2 := HJ.out _ _ _ hjV (hb2.mono hWV)
          have hL2 : BlkI (V.drewN nq2) U.heap.size 115 L := hLV.same (hb2.block _ hLV.lt)
          clear y0 y1 y2 y3 y4 y5 y6 x0 x1 x2 x3 x4 xz r0 rz k4 z3 hLV hjV CV HZ CA
          generalize World.drewN V nq2 = V2 at hb2 hj2 hL2 ⊢
          clear nq2
          have hz := HJZ.out _ _ hj2
          obtain ⟨x0, x1, x2, x3, x4, xz⟩ := StB.cells hz.2.1
          have f0 := hL2.free 0
          have f1 := hL2.free 1
          have f2 := hL2.free 2
          have f3 := hL2.free 3
          have f4 := hL2.free 4
          have d0 := hL2.cell 0 (by omega)
          have d1 := hL2.cell 1 (by omega)
          have d2 := hL2.cell 2 (by omega)
          have d3 := hL2.cell 3 (by omega)
          have d4 := hL2.cell 4 (by omega)
          have dz := hL2.lt
          clear hz
          go_upto_region 11 with (fail)
          obtain ⟨Z, hZ⟩ : ∃ Z : World, Z = ((((V2.setCell ⟨U.heap.size, 0, none⟩ (.int .i64 (x.writer : Int))).setCell ⟨U.heap.size, 1, none⟩ (.int .i64 (x.done : Int))).setCell ⟨U.heap.size, 2, none⟩ (.int .i64 (minuteAt x 0))).setCell ⟨U.heap.size, 3, none⟩ (.int .i64 (minuteAt x 1))).setCell ⟨U.heap.size, 4, none⟩ (.int .i64 (minuteAt x 2)) := ⟨_, rfl⟩
          rw [← hZ]
          have hZL : BlkI Z U.heap.size 115 (stL x) := by rw [hZ]; exact blk_five hL2 hL5 _ _ _ _ _
          have hbZ : Below W.heap.size V2 Z := by rw [hZ]; exact (((((Below.refl _ _).setCell hzU _).setCell hzU _).setCell hzU _).setCell hzU _).setCell hzU _
          have hjZ := HJ.out _ _ _ hj2 hbZ
          clear hZ x0 x1 x2 x3 x4 xz f0 f1 f2 f3 f4 d0 d1 d2 d3 d4 dz hj2 hL2
          have hdl := HX.out.d
          have hp32 := pow32 hv
          have HOR := Lib.hid (or_bit32 x.done (by omega) c (by omega))
          have HNX := Lib.hid (stL_next HX.out c (by omega))
          rw [hgo.out] at HNX
          have d1 := hZL.cell 1 (by simp)
          simp only [List.getElem_cons_zero, List.getElem_cons_succ] at d1
          have f1 := hZL.free 1
          have dz := hZL.lt
          clear hdl hp32
          apply wp_mid _ (fun Z' => BlkI Z' U.heap.size 115 ((stL x).set 1 ((x.done ||| 2 ^ c : Nat) : Int)) ∧ Below W.heap.size Z Z')
          · (focus go_region)
            all_goals
              rw [HOR.out]
              refine ⟨rfl, ?_, ?_⟩
              · exact hZL.set 1 _
              · exact below_drew' ((Below.refl _ _).setCell hzU _)
          rintro Z1 ⟨hL1, hbZ1⟩
          have hj1 := HJ.out _ _ _ hjZ hbZ1
          clear d1 f1 dz hjZ hZL
          have hz := HJZ.out _ _ hj1
          obtain ⟨x0, x1, x2, x3, x4, xz⟩ := StB.cells hz.2.1
          have dm := hL1.cell (2 + x.writer) (by simp; omega)
          have fm := hL1.free (2 + x.writer)
          have dz := hL1.lt
          clear hz
          go_upto_region 13 with (fail)
          obtain ⟨Z2, hZ2⟩ : ∃ Z2 : World, Z2 = Z1.setCell ⟨U.heap.size, 2 + x.writer, none⟩ (.int .i64 (minuteAt x x.writer + thi + h.wax)) := ⟨_, rfl⟩
          rw [← hZ2]
          have hS2 : StB Z2 U.heap.size (nextC h x c) := by
            have h9 := hL1.set (2 + x.writer) (minuteAt x x.writer + thi + h.wax)
            rw [HNX.out] at h9
            rw [hZ2]
            exact h9
          have hj2 := HJ.out _ _ Z2 hj1 (by rw [hZ2]; exact (Below.refl _ _).setCell hzU _)
          clear hZ2 x0 x1 x2 x3 x4 xz dm fm dz hj1 hL1
          have HY0 := HY.out (nextTo h wm cm x c) ((c : Int), nextC h x c) Z2 hj2 HPC.out
          rw [← HYES.out] at HY0
          obtain ⟨fn, tmps, assign, body, hyr, hR⟩ := HY0
          have HR := Lib.hid hR
          clear hR hj2
          obtain ⟨e0, e1, e2, e3, e4, ez⟩ := StB.cells hS2
          dsimp only [encN, standV] at hyr
          refine (wpIn_wide (n := 0)).1 ?_
          gi_wp2
          refine ⟨rfl, HR.out.mono ?_⟩
          rintro e W3 (⟨rfl, hj3, hab⟩ | ⟨rfl, hq⟩)
          rotate_left 1
          · gi_wp2
            go_wp2
            (try simp only [Exit.inBlock, Exit.then])
            rw [Exit.noGoto_ret]
            exact bodyPost_ret (results_none rfl _ _ _) rfl ⟨⟨_, rfl⟩, .inr ⟨_, hq⟩⟩
          · have hL3 : BlkI W3 U.heap.size 115 (stL (nextC h x c)) := hS2.same (hab.block _ hBy hS2.lt)
            clear HR hyr e0 e1 e2 e3 e4 ez hab hS2
            gi_wp2
            go_wp2
            go_roundw
            case rel => exact ⟨c + 1, by omega, by go_num, Lib.hid hj3, _, rfl, hL3⟩
            case measure => simp [intOf]; omega
        · obtain rfl : c = h.customers.length := by omega
          rw [HALL.out] at hj
          go_wp2
          (try simp only [Exit.noGoto])
          go_end0
          exact ⟨⟨_, rfl⟩, .inl hj.out⟩
/-- next, as an iterator. -/
theorem DNext_seq (aw ac : Option Addr) (kw kc : Nat) (h : DeH) (bm bo wm cm xb rc : Nat) (x : DeSt) (hv : DeValid h) (hwm : wm < 8) (hcm : cm < 32) (hx : StOk h x) (w0 : World) :
    SeqX Tryz.prog 109 #[.pointer (some ⟨xb, 0, none⟩), .pointer (some ⟨rc, 0, none⟩)] encN w0.heap.size (fun A => ZN A bm bo xb rc aw ac kw kc h wm cm x) (nextD h wm cm x) w0 :=
  fun l J Jx W _ hz hJ hJZ hY hj => callsIn_wide.2 (DNext1_any aw ac kw kc h bm bo wm cm xb rc l x hv hwm hcm hx w0.heap.size W hz J Jx hJ hJZ hY hj)
end Go.Proofs.YtelmponkmmfffaaGreat
namespace Go.Proofs.YtelmponkmmfffaaGreat
open Go Go.RowKit Go.Shelf

set_option maxRecDepth 100000 in
set_option maxHeartbeats 1000000 in
theorem min_lits (a b c : Int) (ha : 0 ≤ a ∧ a < 64000) (hb : 0 ≤ b ∧ b < 64000) (hc : 0 ≤ c ∧ c < 64000) : Tryz.prog.keyLits 2 113 (Value.agg #[.int .i64 a, .int .i64 b, .int .i64 c]).cells.toList = some [.int .i64 a, .int .i64 b, .int .i64 c] := by
  have h4 : Tryz.prog.underlying 3 = some (.int .i64) := by kernel_rfl
  have h5 : Tryz.prog.cellsOf 3 = 1 := by kernel_rfl
  have h8 : Tryz.prog.cellsOf 113 = 3 := by kernel_rfl
  have h9 : Tryz.prog.underlying 113 = some (.array 3 3) := by kernel_rfl
  have e1 : ∀ (m : Nat) (x : Int), 0 ≤ x ∧ x < 64000 → Tryz.prog.keyLits (m + 1) 3 [.int .i64 x] = some [.int .i64 x] := fun m x hx => by
    unfold Program.keyLits
    simp only [h4, okI_small x hx.1 hx.2, and_self, if_true]
  show Tryz.prog.keyLits (0 + 1 + 1) 113 [.int .i64 a, .int .i64 b, .int .i64 c] = _
  unfold Program.keyLits
  rw [h9]
  simp only [h8, h5, List.length_cons, List.length_nil, Nat.zero_add, Nat.reduceAdd, if_true]
  rw [show List.range 3 = [0, 1, 2] from rfl]
  simp only [List.mapM_cons, List.mapM_nil, Nat.zero_mul, Nat.one_mul, Nat.reduceMul, List.drop_zero, List.drop_succ_cons, List.take_succ_cons, List.take_zero, e1 0 a ha, e1 0 b hb, e1 0 c hc]
  rfl
theorem min_eq (a b c a' b' c' : Int) (ha : 0 ≤ a ∧ a < 64000) (hb : 0 ≤ b ∧ b < 64000) (hc : 0 ≤ c ∧ c < 64000) (ha' : 0 ≤ a' ∧ a' < 64000) (hb' : 0 ≤ b' ∧ b' < 64000) (hc' : 0 ≤ c' ∧ c' < 64000) (w : World) :
    (Op.equalIn 10000 113 (.agg #[.int .i64 a, .int .i64 b, .int .i64 c]) (.agg #[.int .i64 a', .int .i64 b', .int .i64 c'])).run Tryz.prog w = .ok (decide (a = a' ∧ b = b' ∧ c = c')) w := by
  obtain ⟨r, hr, hi⟩ := run_equalIn_deep (P := Tryz.prog) 9998 2 113 (by kernel_rfl) w 2 2 (.agg #[.int .i64 a, .int .i64 b, .int .i64 c]) (.agg #[.int .i64 a', .int .i64 b', .int .i64 c']) _ _ (by kernel_rfl) (by kernel_rfl) (min_lits a b c ha hb hc) (min_lits a' b' c' ha' hb' hc')
  have e : r = decide (a = a' ∧ b = b' ∧ c = c') := by
    rw [Bool.eq_iff_iff, hi]
    simp only [List.cons.injEq, Lit.int.injEq, true_and, and_true, decide_eq_true_eq]
  rw [e] at hr
  exact hr
theorem min_index (a b c : Int) (d : Nat → Int) (hd : d 0 = a ∧ d 1 = b ∧ d 2 = c) (u : Nat) (hu : u < 3) (w : World) : (Instr.index 113 (.agg #[.int .i64 a, .int .i64 b, .int .i64 c]) (.int .i64 (u : Int))).run Tryz.prog w = .ok (.int .i64 (d u)) w := by
  obtain ⟨rfl, rfl, rfl⟩ := hd
  obtain rfl | rfl | rfl : u = 0 ∨ u = 1 ∨ u = 2 := by omega
  all_goals kernel_rfl
/-- When a plan is over, of the first writers. -/
def fvTo (h : DeH) (x : DeSt) (k : Nat) : Int := (List.range k).foldl (fun b w => if minuteAt (beginD h) w < minuteAt x w then max b (minuteAt x w) else b) 0
theorem fvTo_succ (h : DeH) (x : DeSt) (k : Nat) : fvTo h x (k + 1) = if minuteAt (beginD h) k < minuteAt x k then max (fvTo h x k) (minuteAt x k) else fvTo h x k := by
  unfold fvTo; rw [List.range_succ, List.foldl_append]; rfl
theorem fvTo_bd {h : DeH} {x : DeSt} (hx : StOk h x) : ∀ k, 0 ≤ fvTo h x k ∧ fvTo h x k ≤ 240
  | 0 => by unfold fvTo; simp
  | k + 1 => by
    have h1 := fvTo_bd hx k
    have h2 := hx.m k
    rw [fvTo_succ]
    split <;> omega
end Go.Proofs.YtelmponkmmfffaaGreat
