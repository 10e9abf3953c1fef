/- What is proved here: a region that draws its order, or a piece of code, with a small post of its own: one frame, a word on the world. Over any program. -/
/- What is proved here: a law for a range over a function whose iterator keeps its state in cells of its own, the body leaving at its end alone. Over any program. -/
/- What is proved here: a region that draws its order, within a round of a range over a function: as elsewhere, under a small post. Over any program. -/
/- What is proved here: the contract of fewest. Conditions: a function that answers as a plain one does, and turns one old block at most. -/
/- What is proved here: contracts of failing of layer 9, and of the searches of slices by a name. Conditions: the slice lies in memory; a function that answers as a plain one does. -/
import Derived.Test.YtelmponkmmfffaaGreatBlkG
import Derived.Deep.RegionHeld3
import Derived.Deep.RegionWith
import Derived.RangeFuncCalls
import Derived.RangeFuncNested
import Derived.RangeFuncBound
import Derived.RangeFuncLeaves
import Derived.OrdersIn
import Derived.Test.YtelmponkmmfffaaGreatCmpG
set_option linter.unusedVariables false
set_option linter.unusedSimpArgs false
namespace Go.Proofs.YtelmponkmmfffaaGreat
open Go Go.RowKit

/-- Left normally, with the frame A, in a world of which S holds. -/
def midPost (A : Act) (S : World → Prop) : Exit → Act → World → Prop
  | .normal, a, w => a = A ∧ S w
  | _, _, _ => False
theorem wp_mid {P : Program} {C : Code} {Q : Exit → Act → World → Prop} {a : Act} {w : World} (A : Act) (S : World → Prop) (h : C.wp P (midPost A S) a w) (h2 : ∀ W, S W → Q .normal A W) : C.wp P Q a w :=
  Code.wp_mono (fun e a' w' h' => by
    cases e with
    | normal => obtain ⟨rfl, h3⟩ := h'; exact h2 _ h3
    | ret => exact h'.elim
    | exit id => exact h'.elim
    | goto t => exact h'.elim
    | panic c => exact h'.elim
    | outgrown => exact h'.elim) h
theorem wpIn_mid {F : Fence} {n : Nat} {P : Program} {C : Code} {Q : Exit → Act → World → Prop} {a : Act} {w : World} (A : Act) (S : World → Prop) (h : C.wpIn F n P (midPost A S) a w) (h2 : ∀ W, S W → Q .normal A W) : C.wpIn F n P Q a w :=
  wpIn_mono h (fun e a' w' h' => by
    cases e with
    | normal => obtain ⟨rfl, h3⟩ := h'; exact h2 _ h3
    | ret => exact h'.elim
    | exit id => exact h'.elim
    | goto t => exact h'.elim
    | panic c => exact h'.elim
    | outgrown => exact h'.elim)
theorem below_drew' {B : Nat} {w W : World} (h : Below B w W) : Below B w W.drew := ⟨h.os, h.tape, h.output, h.size, h.block⟩
theorem box_on {w W W' : World} {o : Obj} (h : Below (w.heap.size + 1) (w.alloc o) W) (h2 : Below W.heap.size W W') : Below (w.heap.size + 1) (w.alloc o) W' :=
  h.trans (h2.mono (by have := h.size; simpa using this))
end Go.Proofs.YtelmponkmmfffaaGreat
namespace Go.Proofs.YtelmponkmmfffaaGreat
open Go Go.RowKit

/-- What lay at or above B lies as it lay; what lies below may have turned. -/
structure Above (B : Nat) (W W' : World) : Prop where
  os : W'.os = W.os
  tape : W'.tape = W.tape
  output : W'.output = W.output
  size : W.heap.size ≤ W'.heap.size
  block : ∀ b, B ≤ b → b < W.heap.size → W'.heap[b]? = W.heap[b]?
theorem Above.refl (B : Nat) (W : World) : Above B W W := ⟨rfl, rfl, rfl, Nat.le_refl _, fun _ _ _ => rfl⟩
theorem Above.trans {B : Nat} {A C D : World} (h : Above B A C) (k : Above B C D) : Above B A D :=
  ⟨k.os.trans h.os, k.tape.trans h.tape, k.output.trans h.output, Nat.le_trans h.size k.size, fun b h1 h2 => (k.block b h1 (Nat.lt_of_lt_of_le h2 h.size)).trans (h.block b h1 h2)⟩
theorem Above.of_below {B : Nat} {W W' : World} (h : Below W.heap.size W W') : Above B W W' := ⟨h.os, h.tape, h.output, h.size, fun b _ h2 => h.block b h2⟩
theorem Above.of_grown {B : Nat} {W W' : World} {row : Option Nat} (h : W.grownBy W' row) (hr : ∀ r, row = some r → r < B) : Above B W W' :=
  ⟨h.os, h.tape, h.output, h.size, fun b h1 h2 => h.block b h2 (fun e => by have := hr b e.symm; omega)⟩
theorem Above.mono {B B' : Nat} {W W' : World} (h : Above B W W') (hb : B ≤ B') : Above B' W W' := ⟨h.os, h.tape, h.output, h.size, fun b h1 h2 => h.block b (by omega) h2⟩

/-- How the body of a round is left. -/
def roundT {α : Type} (B : Nat) (I : List α → World → Prop) (xs : List α) (W : World) : Exit → Act → World → Prop
  | .normal, _, W' => Above B W W' ∧ I xs W'
  | _, _, _ => False

variable {P : Program}

/-- **An iterator that gives xs, its state in cells of its own.** B: what lies at or above it is the iterator's, or the loop's. -/
def SeqT {α : Type} (P : Program) (gf : Nat) (lb : Array Value) (encs : α → Array Value) (B : Nat) (Z : World → Prop) (xs : List α) (w : World) : Prop :=
  ∀ (l : Nat) (J : List α → World → Prop) (W : World), Below w.heap.size w W → w.heap.size ≤ W.heap.size → (∀ s A A', J s A → Below W.heap.size A A' → J s A') → (∀ s A, J s A → Z A) →
    (∀ pre x W1, J pre W1 → pre ++ [x] <+: xs → YieldAt Fence.wide 0 P l (encs x) W1 fun e W' => e = .returned (.bool true) ∧ J (pre ++ [x]) W' ∧ Above B W1 W') →
    J [] W → CallsIn Fence.wide 0 P gf (#[.func (.yield l) #[] #[]] ++ lb) W fun e W' => (∃ v, e = .returned v) ∧ J xs W'

theorem wpIn_rangeFunc_T {α : Type} {g : Operand} {ps : Array Tmp} {assign body : Code} {Q : Exit → Act → World → Prop} {a : Act} {w : World}
    {gf : Nat} {lb : Array Value} (hg : a.eval g = .func (.func gf) #[] lb) (eg : ∀ args w, (callFunc gf args).run P w = .ok (.enter gf args) w)
    {encs : α → Array Value} {Z : World → Prop} {B : Nat} {xs : List α} {w0 : World} (hseq : SeqT P gf lb encs B Z xs w0) (hb0 : Below w0.heap.size w0 w) (hB : B ≤ w.heap.size) (hps : ∀ x, (encs x).size = ps.size)
    (I : List α → World → Prop) (hI : ∀ s A A', I s A → Below B A A' → I s A') (hIZ : ∀ s A, I s A → Z A) (h0 : I [] w)
    (hround : ∀ (l : Nat) (pre : List α) (x : α) (W : World), w.heap.size < l → l < W.heap.size → I pre W → pre ++ [x] <+: xs →
      assign.wpIn (Fence.wide.inRound l) 0 P (Exit.then (fun a' Wa => Above B W Wa ∧ I pre Wa ∧ ∀ Wb, Wb.heap.size = Wa.heap.size → (∀ b, b ≠ l → Wb.heap[b]? = Wa.heap[b]?) → I pre Wb →
        body.wpIn (Fence.wide.inRound l) 0 P (roundT B I (pre ++ [x]) Wb) a' Wb) (fun _ _ _ => False)) { tmps := (ps.zip (encs x)).foldl (fun t (p, v) => t.setIfInBounds p v) a.tmps, defers := [] } W)
    (hdone : ∀ (D : Nat) (W : World), w.heap.size ≤ D → I xs W → W.heap[D]? = some (.deferred (some [])) → Q .normal { a with defers := { target := .collected D, args := #[] } :: a.defers } W) :
    (Code.rangeFunc g ps assign body).wpIn Fence.wide 0 P Q a w := by
  refine wpIn_rangeFunc ?_
  intro fn hfn
  rw [show Fence.wide.round = none from rfl]
  obtain ⟨rec, hrec⟩ : ∃ rec : LoopState → Option Code → Loop, rec = fun st pe => { state := st, pending := pe, fn, tmps := a.tmps, params := ps, assign, body, defers := w.heap.size } := ⟨_, rfl⟩
  obtain ⟨W1, hW1⟩ : ∃ W1, (w.alloc (.deferred (some []))).alloc (.loop (rec .ready none)) = W1 := ⟨_, rfl⟩
  have hL1 : W1.heap[w.heap.size + 1]? = some (.loop (rec .ready none)) := by
    rw [← hW1]; have := World.alloc_heap_new (w.alloc (.deferred (some []))) (.loop (rec .ready none)); rwa [World.size_alloc] at this
  have hK1 : W1.heap[w.heap.size]? = some (.deferred (some [])) := by
    rw [← hW1]; exact (Below.heap_alloc _ _ _ (by simp)).trans (World.alloc_heap_new w _)
  have hbw1 : Below w.heap.size w W1 := by
    rw [← hW1]; exact (((Below.refl _ w).alloc (Nat.le_refl _) _).alloc (by simp) _)
  have hsz1 : W1.heap.size = w.heap.size + 2 := by rw [← hW1]; simp
  have hI1 : I [] W1 := hI _ _ _ h0 (hbw1.mono hB)
  have hb1 : Below w0.heap.size w0 W1 := hb0.trans (hbw1.mono hb0.size)
  refine ⟨w.heap.size + 1, [{ target := .collected w.heap.size, args := #[] }], W1, { target := .fn (.func gf) lb, args := #[.func (.yield (w.heap.size + 1)) #[] #[]] }, W1, gf,
    #[.func (.yield (w.heap.size + 1)) #[] #[]] ++ lb, W1, ?_, ?_, ?_, ?_, fun h => (by cases h), ?_⟩
  · rw [← hW1, hrec]; exact run_enterLoop_outer _ _ _ _ _
  · simp only [resolve, hg]
    simp [go_sem]
  · intro f' hf'; trivial
  · simp [invoke, go_sem, eg]
  · refine (hseq (w.heap.size + 1)
      (fun pre W => I pre W ∧ W.heap[w.heap.size + 1]? = some (.loop (rec .ready none)) ∧ W.heap[w.heap.size]? = some (.deferred (some [])))
      W1 hb1 hb1.size
      (fun s A A' hs hb => ⟨hI s A A' hs.1 (hb.mono (by omega)), (hb.block _ (by omega)).trans hs.2.1, (hb.block _ (by omega)).trans hs.2.2⟩)
      (fun s A hs => hIZ s A hs.1)
      ?_ ⟨hI1, hL1, hK1⟩).mono ?_
    · rintro pre x W ⟨hi, hl, hk⟩ hpre
      have hlt : w.heap.size + 1 < W.heap.size := (Array.getElem?_eq_some_iff.1 hl).1
      have hy := run_yield (P := P) (args := encs x) hl (by rw [hrec]; exact hps x)
      rw [hrec] at hy
      refine ⟨fn, _, assign, body, hy, roundIn_of_wpIn hfn (wpIn_mono (hround _ pre x W (by omega) hlt hi hpre) ?_)⟩
      clear hy
      rintro e a' Wa he
      cases e with
      | normal =>
        obtain ⟨hab, hia, hbody⟩ := he
        have hla : Wa.heap[w.heap.size + 1]? = some (.loop (rec .ready none)) := (hab.block _ (by omega) hlt).trans hl
        have hka : Wa.heap[w.heap.size]? = some (.deferred (some [])) := (hab.block _ (by omega) (by omega)).trans hk
        have hlta : w.heap.size + 1 < Wa.heap.size := (Array.getElem?_eq_some_iff.1 hla).1
        refine ⟨_, run_beginRound hla (by rw [hrec]), ?_⟩
        have hl2 : (Wa.putObj (w.heap.size + 1) (.loop { rec .ready none with state := .busy })).heap[w.heap.size + 1]? = some (.loop { rec .ready none with state := .busy }) := World.putObj_heap_same hlta
        have hk2 : (Wa.putObj (w.heap.size + 1) (.loop { rec .ready none with state := .busy })).heap[w.heap.size]? = some (.deferred (some [])) := (World.putObj_heap_other (by omega)).trans hka
        have hbp : Below B Wa (Wa.putObj (w.heap.size + 1) (.loop { rec .ready none with state := .busy })) := (Below.refl B Wa).grown (grownBy_putObj' Wa _ _) (by omega) (fun k e => by cases e; omega)
        have hsp : ∀ o, (Wa.putObj (w.heap.size + 1) o).heap.size = Wa.heap.size := fun o => by simp [World.putObj]
        refine wpIn_mono (hbody _ (hsp _) (fun b hb => World.putObj_heap_other hb) (hI _ _ _ hia hbp)) ?_
        rintro e a3 W3 hp
        cases e with
        | normal =>
          obtain ⟨hab3, hi3⟩ := hp
          have hz3 : Wa.heap.size ≤ W3.heap.size := by have := hab3.size; rw [hsp] at this; exact this
          have hza := hab.size
          have hl3 : W3.heap[w.heap.size + 1]? = some (.loop { rec .ready none with state := .busy }) := (hab3.block _ (by omega) (by rw [hsp]; omega)).trans hl2
          have hk3 : W3.heap[w.heap.size]? = some (.deferred (some [])) := (hab3.block _ (by omega) (by rw [hsp]; omega)).trans hk2
          have hlt3 : w.heap.size + 1 < W3.heap.size := (Array.getElem?_eq_some_iff.1 hl3).1
          have hr := run_endRound (P := P) none hl3
          rw [hrec] at hr
          have hbp3 : Below B W3 (W3.putObj (w.heap.size + 1) (.loop (rec .ready none))) := (Below.refl B W3).grown (grownBy_putObj' W3 _ _) (by omega) (fun k e => by cases e; omega)
          have hl4 : (W3.putObj (w.heap.size + 1) (.loop (rec .ready none))).heap[w.heap.size + 1]? = some (.loop (rec .ready none)) := World.putObj_heap_same hlt3
          have hk4 : (W3.putObj (w.heap.size + 1) (.loop (rec .ready none))).heap[w.heap.size]? = some (.deferred (some [])) := (World.putObj_heap_other (by omega)).trans hk3
          have hi4 := hI _ _ _ hi3 hbp3
          have hfin : Above B W (W3.putObj (w.heap.size + 1) (.loop (rec .ready none))) := by
            have g := grownBy_putObj' W3 (w.heap.size + 1) (.loop (rec .ready none))
            have g2 := grownBy_putObj' Wa (w.heap.size + 1) (.loop { rec .ready none with state := .busy })
            refine ⟨g.os.trans (hab3.os.trans (g2.os.trans hab.os)), g.tape.trans (hab3.tape.trans (g2.tape.trans hab.tape)), g.output.trans (hab3.output.trans (g2.output.trans hab.output)), ?_, fun b hb1 hb2 => ?_⟩
            · have := g.size
              omega
            · by_cases hbl : b = w.heap.size + 1
              · subst hbl
                rw [hl4, hl]
              · rw [World.putObj_heap_other hbl, hab3.block b hb1 (by rw [hsp]; omega), World.putObj_heap_other hbl, hab.block b hb1 hb2]
          rw [hrec] at hi4 hl4 hk4 hfin
          rw [hrec]
          exact ⟨_, _, hr, rfl, ⟨hi4, hl4, hk4⟩, hfin⟩
        | ret => exact hp.elim
        | exit id => exact hp.elim
        | goto t => exact hp.elim
        | panic ch => exact hp.elim
        | outgrown => exact hp.elim
      | ret => exact he.elim
      | exit id => exact he.elim
      | goto t => exact he.elim
      | panic ch => exact he.elim
      | outgrown => exact he.elim
    · rintro e W2 ⟨⟨v, rfl⟩, hi, hl, hk⟩
      have hlt : w.heap.size + 1 < W2.heap.size := (Array.getElem?_eq_some_iff.1 hl).1
      refine ⟨none, _, by have := run_endLoop (P := P) hl (by rw [hrec]; simp); rw [hrec] at this; exact this, ?_⟩
      refine hdone _ _ (Nat.le_refl _) (hI _ _ _ hi ((Below.refl B W2).grown (grownBy_putObj' W2 _ _) (by omega) (fun k e => by cases e; omega))) ((World.putObj_heap_other (by omega)).trans hk)
end Go.Proofs.YtelmponkmmfffaaGreat
namespace Go.Proofs.YtelmponkmmfffaaGreat
open Go Go.RowKit

variable {P : Program} {l : Nat} {Q : Exit → Act → World → Prop}

theorem rowsIn_wide {row : String} {args : Array Value} {w : World} {R : Value → World → Prop} (h : Rows P row args w R) : RowsIn Fence.wide 0 P row args w R := by
  intro c cs _
  obtain ⟨v, w', r, s⟩ := h c cs
  exact ⟨v, w', r, stepsIn_wide.2 s⟩
theorem Oper.wpIn_of_wp {o : Oper} {a : Act} {w : World} {K : Act → World → Prop} (hd : ∀ c, o.op ≠ .defer c) (h : o.wp P a w K Q) : o.wpIn (Fence.wide.inRound l) 0 P a w K Q := by
  unfold Oper.wpIn
  refine ⟨fun _ _ => trivial, ?_⟩
  rw [Oper.semAt_eq _ _ _ hd]
  unfold Oper.wp at h
  generalize (execOp a.eval o).run P w = r at h
  cases r with
  | ok x w' =>
    cases x with
    | value v => exact h
    | skip => exact h
    | defer d => exact h
    | enter f args => exact ⟨fun h => (by cases h), CallsIn.inRound l (callsIn_wide.2 h)⟩
    | row row args => exact ⟨fun h => (by cases h), rowsIn_wide h⟩
    | round l f tmps assign body => exact h.elim
    | _ => exact h.elim
  | halt x w' => cases x <;> exact h

theorem wpOpIn_of_wpOp {ops : Array Oper} (hL : ¬ LetsOut Q) (hd : ∀ o ∈ ops.toList, ∀ c, o.op ≠ .defer c) {i : Nat} {a : Act} {w : World} {K : Act → World → Prop} (h : wpOp P ops Q i K a w) : wpOpIn (Fence.wide.inRound l) 0 P ops Q i K a w := by
  unfold wpOp at h
  unfold wpOpIn
  cases ho : ops[i]? with
  | none => rw [ho] at h; exact h
  | some o =>
    rw [ho] at h
    simp only at h ⊢
    by_cases hw : Region.wanted o (yielded ops a.tmps) = true
    · rw [if_pos hw] at h ⊢
      have hm : o ∈ ops.toList := by
        have := Array.mem_of_getElem? ho
        simpa using this
      rcases h with h | ⟨_, h⟩
      · exact Oper.wpIn_of_wp (hd o hm) h
      · exact absurd h hL
    · rw [if_neg hw] at h ⊢
      exact ⟨fun _ _ => trivial, h⟩
theorem wpAnyIn_of_wpAny {ops : Array Oper} {md : Region.Mode} (hL : ¬ LetsOut Q) (hd : ∀ o ∈ ops.toList, ∀ c, o.op ≠ .defer c) : ∀ (fuel : Nat) (listed : Array Bool) (a : Act) (w : World), wpAny P md ops Q fuel listed a w → wpAnyIn (Fence.wide.inRound l) 0 P md ops Q fuel listed a w
  | 0, _, _, _, h => h
  | fuel + 1, _, _, _, h => ⟨h.1, fun i hi => wpOpIn_of_wpOp hL hd (wpOp_mono (fun a' w' h' => wpAnyIn_of_wpAny hL hd fuel _ a' w' h') (h.2 i hi))⟩

def noDefer (ops : Array Oper) : Bool := ops.toList.all fun o => match o.op with | .defer _ => false | _ => true
theorem noDefer_spec {ops : Array Oper} (h : noDefer ops = true) : ∀ o ∈ ops.toList, ∀ c, o.op ≠ .defer c := by
  intro o ho c hc
  unfold noDefer at h
  rw [List.all_eq_true] at h
  have := h o ho
  rw [hc] at this
  cases this
/-- A region that draws, in a round: S' is what holds of the world all along. -/
theorem wpIn_region_round {id : Nat} {ops : Array Oper} {a : Act} {w : World} (S' : World → Prop) (hL : ¬ LetsOut Q) (hm : P.follows .mixedOrders = true) (hd : ∀ o ∈ ops.toList, ∀ c, o.op ≠ .defer c) (hS : S' w.drew)
    (h : S' w.drew → wpAnyH P .any ops Q S' ops.size (Array.replicate ops.size false) a w.drew) : (Code.region id ops true).wpIn (Fence.wide.inRound l) 0 P Q a w :=
  wpIn_region_any hm (wpAnyIn_of_wpAny hL hd _ _ _ _ (wpAny_of_held _ _ _ _ (h hS)))
theorem grown_of {W V : World} (row : Option Nat) (h : Below W.heap.size W V) : W.grownBy V row := ⟨h.os, h.tape, h.output, h.size, fun i hi _ => h.block i hi⟩
end Go.Proofs.YtelmponkmmfffaaGreat
namespace Go.Proofs.YtelmponkmmfffaaGreat
open Go Go.RowKit

theorem two_pow_wrap : ∀ n : Nat, n ≤ 6 → wrap64 (2 ^ n) = ((2 ^ n : Nat) : Int) := by decide +kernel
theorem two_pow_le : ∀ n : Nat, n ≤ 6 → 2 ^ n ≤ 64 := by decide +kernel

set_option maxRecDepth 100000 in
set_option maxHeartbeats 800000 in
theorem MFewestG_any (n F : Nat) (hn : n ≤ 6) (caps : Array Value) (so : Nat → Bool) (w : World) (row : Option Nat) (hrow : ∀ r, row = some r → r < w.heap.size) (I : World → Prop) (hI : ∀ A A', I A → Below A.heap.size A A' → I A') (h0 : I w)
    (hCF : ∀ (xs : Array Value) (W : World), (callFunc F xs).run Tryz.prog W = .ok (.enter F xs) W) (hF : ∀ (s : Nat) (W : World), s < 2 ^ n → w.heap.size ≤ W.heap.size → I W → Calls Tryz.prog F (#[.int .i64 (s : Int)] ++ caps) W fun e W' => e = .returned (.bool (so s)) ∧ W.grownBy W' row ∧ I W') :
    Calls Tryz.prog 85 #[.int .i64 (n : Int), .func (.func F) #[] caps] w fun e w' => ∃ v best found, e = .returned (.tuple #[v, .bool found]) ∧ IntsN w.heap.size w' v best ∧ Hid (Found n so (2 ^ n) best found) ∧ w.grownBy w' row ∧ I w' := by
  have hp := two_pow_wrap n hn
  have hp64 := two_pow_le n hn
  have NU := Lib.hid (fun (s : Nat) (hs : s < 64) (W : World) => MNumbersN_any s n hs hn W)
  generalize hNN : 2 ^ n = N at hp hp64 hF ⊢
  replace hF := Lib.hid hF
  replace hI := Lib.hid hI
  replace hrow := Lib.hid hrow
  clear hNN
  go_enter Tryz.func85, Tryz.ntmps85
  go_wp2
  rw [hp]
  clear hp
  go_loopw [4, 5, 10] (fun v f i wr => ∃ (k : Nat) (best : List Int) (found : Bool), k ≤ N ∧ i = .int .i64 k ∧ f = .bool found ∧ IntsN w.heap.size wr v best ∧ Hid (Found n so k best found) ∧ w.grownBy wr row ∧ I wr) (fun _ _ i _ => N - (intOf i).toNat)
  case atStart => exact ⟨0, [], false, Nat.zero_le _, rfl, rfl, ⟨none, 0, rfl, ⟨by simp, by omega, fun _ => rfl⟩, IntsC.nil _ _, fun _ h => by cases h⟩, Lib.hid (found_zero n so), World.grownBy.refl _ _, h0⟩
  case round =>
    obtain ⟨k, best, found, hk, rfl, rfl, ⟨ab, cb, rfl, hsb, hib, hlb0⟩, HFO, hG, hJ⟩ := hrel
    have hbl := hsb.len
    by_cases hlt : k < N
    · have HK1 := Lib.hid (fun (e : found = true) (h : fewer best (bitsList k n) = true) => (found_skip (e ▸ HFO.out) (.inr h) : Found n so (k + 1) best true))
      have HK2 := Lib.hid (fun (h : so k = false) => found_no HFO.out h)
      have HK3 := Lib.hid (fun (h : so k = true) (hf : found = true → fewer best (bitsList k n) = false) => found_yes HFO.out h hf)
      replace NU := fun W => NU.out k (by omega) W
      have C := fun W h h2 => hF.out k W hlt h h2
      generalize bitsList k n = l at HK1 HK3 NU
      generalize so k = sk at HK2 HK3 C
      replace NU := Lib.hid NU
      replace C := Lib.hid C
      have hkN : (k : Int) < 64 := by omega
      cases found
      · replace HK3 := Lib.hid (fun h => HK3.out h (fun e => by cases e))
        cases sk
        · go_wp2_with (first | (go_at_call 127; go_must (refine (NU.out _).mono ?_; rintro e w2 ⟨v2, rfl, ⟨a2, c2, rfl, ho2, hi2, hn2⟩, hb2⟩; dsimp only)) | ((with_reducible refine (C.out _ (Nat.le_trans hG.size hb2.size) (hI.out _ _ hJ hb2)).mono ?_); rintro e w3 ⟨rfl, hg3, hJ3⟩; dsimp only))
          (go_roundw; case rel => exact ⟨k + 1, best, _, by omega, by go_num, rfl, IntsN.grown (IntsN.mono ⟨ab, cb, rfl, hsb, hib, hlb0⟩ hb2) hg3 hrow.out, Lib.hid (HK2.out rfl), (hG.trans (grown_of row hb2)).trans hg3, hJ3⟩)
          (case measure => simp [intOf]; omega)
        · replace HK3 := Lib.hid (HK3.out rfl)
          go_wp2_with (first | (go_at_call 127; go_must (refine (NU.out _).mono ?_; rintro e w2 ⟨v2, rfl, ⟨a2, c2, rfl, ho2, hi2, hn2⟩, hb2⟩; dsimp only)) | ((with_reducible refine (C.out _ (Nat.le_trans hG.size hb2.size) (hI.out _ _ hJ hb2)).mono ?_); rintro e w3 ⟨rfl, hg3, hJ3⟩; dsimp only))
          (go_roundw; case rel => exact ⟨k + 1, l, true, by omega, by go_num, rfl, IntsN.grown ⟨a2, c2, rfl, ho2, hi2, fun ad e => Nat.le_trans hG.size (hn2 ad e)⟩ hg3 hrow.out, Lib.hid HK3.out, (hG.trans (grown_of row hb2)).trans hg3, hJ3⟩)
          (case measure => simp [intOf]; omega)
      · by_cases h1 : best.length < l.length
        · have hK := Lib.hid (HK1.out rfl (by unfold fewer; rw [if_neg (by omega)]; simpa using h1))
          go_wp2_with (go_at_call 127; go_must (refine (NU.out _).mono ?_; rintro e w2 ⟨v2, rfl, ⟨a2, c2, rfl, ho2, hi2, hn2⟩, hb2⟩; dsimp only))
          go_roundw
          case rel => exact ⟨k + 1, best, true, by omega, by go_num, rfl, IntsN.mono ⟨ab, cb, rfl, hsb, hib, hlb0⟩ hb2, hK, hG.trans (grown_of row hb2), hI.out _ _ hJ hb2⟩
          (case measure => simp [intOf]; omega)
        · by_cases h2 : l.length = best.length
          · have g2 := eqn_t h2
            have hle := Lib.hid h2
            replace HK1 := Lib.hid (fun h => HK1.out rfl h)
            replace HK3 := Lib.hid (fun h e => HK3.out h (fun _ => e))
            have hfw : fewer best l = less best l := by unfold fewer; rw [if_pos h2.symm]
            rw [hfw] at HK1 HK3
            clear hfw h2
            obtain ⟨lb, hlb1⟩ : ∃ lb, less best l = lb := ⟨_, rfl⟩
            rw [hlb1] at HK1 HK3
            have hlb := Lib.hid hlb1
            clear hlb1
            cases lb
            · replace HK3 := Lib.hid (fun h => HK3.out h rfl)
              cases sk
              · go_wp2_with (first | (go_at_call 127; go_must (refine (NU.out _).mono ?_; rintro e w2 ⟨v2, rfl, ⟨a2, c2, rfl, ho2, hi2, hn2⟩, hb2⟩; dsimp only)) | (go_at_call 128; go_must (refine (Cmp2_any a2 ab l best c2 cb w2 hle.out hbl hi2 (hib.mono hb2)).mono ?_; rintro e w4 ⟨q, rfl, hq, hw4⟩; obtain rfl := hw4.symm; have hq := hq.out.trans hlb.out; simp only [decide_eq_true_eq, decide_eq_false_iff_not] at hq; dsimp only)) | ((with_reducible refine (C.out _ (Nat.le_trans hG.size hb2.size) (hI.out _ _ hJ hb2)).mono ?_); rintro e w3 ⟨rfl, hg3, hJ3⟩; dsimp only))
                (go_roundw; case rel => exact ⟨k + 1, best, _, by omega, by go_num, rfl, IntsN.grown (IntsN.mono ⟨ab, cb, rfl, hsb, hib, hlb0⟩ hb2) hg3 hrow.out, Lib.hid (HK2.out rfl), (hG.trans (grown_of row hb2)).trans hg3, hJ3⟩)
                (case measure => simp [intOf]; omega)
              · replace HK3 := Lib.hid (HK3.out rfl)
                go_wp2_with (first | (go_at_call 127; go_must (refine (NU.out _).mono ?_; rintro e w2 ⟨v2, rfl, ⟨a2, c2, rfl, ho2, hi2, hn2⟩, hb2⟩; dsimp only)) | (go_at_call 128; go_must (refine (Cmp2_any a2 ab l best c2 cb w2 hle.out hbl hi2 (hib.mono hb2)).mono ?_; rintro e w4 ⟨q, rfl, hq, hw4⟩; obtain rfl := hw4.symm; have hq := hq.out.trans hlb.out; simp only [decide_eq_true_eq, decide_eq_false_iff_not] at hq; dsimp only)) | ((with_reducible refine (C.out _ (Nat.le_trans hG.size hb2.size) (hI.out _ _ hJ hb2)).mono ?_); rintro e w3 ⟨rfl, hg3, hJ3⟩; dsimp only))
                (go_roundw; case rel => exact ⟨k + 1, l, true, by omega, by go_num, rfl, IntsN.grown ⟨a2, c2, rfl, ho2, hi2, fun ad e => Nat.le_trans hG.size (hn2 ad e)⟩ hg3 hrow.out, Lib.hid HK3.out, (hG.trans (grown_of row hb2)).trans hg3, hJ3⟩)
                (case measure => simp [intOf]; omega)
            · have hK := Lib.hid (HK1.out rfl)
              go_wp2_with (first | (go_at_call 127; go_must (refine (NU.out _).mono ?_; rintro e w2 ⟨v2, rfl, ⟨a2, c2, rfl, ho2, hi2, hn2⟩, hb2⟩; dsimp only)) | (go_at_call 128; go_must (refine (Cmp2_any a2 ab l best c2 cb w2 hle.out hbl hi2 (hib.mono hb2)).mono ?_; rintro e w4 ⟨q, rfl, hq, hw4⟩; obtain rfl := hw4.symm; have hq := hq.out.trans hlb.out; simp only [decide_eq_true_eq, decide_eq_false_iff_not] at hq; dsimp only)))
              go_roundw
              case rel => exact ⟨k + 1, best, true, by omega, by go_num, rfl, IntsN.mono ⟨ab, cb, rfl, hsb, hib, hlb0⟩ hb2, hK, hG.trans (grown_of row hb2), hI.out _ _ hJ hb2⟩
              (case measure => simp [intOf]; omega)
          · have g2 := eqn_f h2
            replace HK3 := Lib.hid (fun h => HK3.out h (fun _ => by unfold fewer; rw [if_neg (by omega)]; simpa using h1))
            cases sk
            · go_wp2_with (first | (go_at_call 127; go_must (refine (NU.out _).mono ?_; rintro e w2 ⟨v2, rfl, ⟨a2, c2, rfl, ho2, hi2, hn2⟩, hb2⟩; dsimp only)) | ((with_reducible refine (C.out _ (Nat.le_trans hG.size hb2.size) (hI.out _ _ hJ hb2)).mono ?_); rintro e w3 ⟨rfl, hg3, hJ3⟩; dsimp only))
              (go_roundw; case rel => exact ⟨k + 1, best, _, by omega, by go_num, rfl, IntsN.grown (IntsN.mono ⟨ab, cb, rfl, hsb, hib, hlb0⟩ hb2) hg3 hrow.out, Lib.hid (HK2.out rfl), (hG.trans (grown_of row hb2)).trans hg3, hJ3⟩)
              (case measure => simp [intOf]; omega)
            · replace HK3 := Lib.hid (HK3.out rfl)
              go_wp2_with (first | (go_at_call 127; go_must (refine (NU.out _).mono ?_; rintro e w2 ⟨v2, rfl, ⟨a2, c2, rfl, ho2, hi2, hn2⟩, hb2⟩; dsimp only)) | ((with_reducible refine (C.out _ (Nat.le_trans hG.size hb2.size) (hI.out _ _ hJ hb2)).mono ?_); rintro e w3 ⟨rfl, hg3, hJ3⟩; dsimp only))
              (go_roundw; case rel => exact ⟨k + 1, l, true, by omega, by go_num, rfl, IntsN.grown ⟨a2, c2, rfl, ho2, hi2, fun ad e => Nat.le_trans hG.size (hn2 ad e)⟩ hg3 hrow.out, Lib.hid HK3.out, (hG.trans (grown_of row hb2)).trans hg3, hJ3⟩)
              (case measure => simp [intOf]; omega)
    · obtain rfl : k = N := by omega
      go_wp2
      go_ret2
      exact ⟨_, best, found, rfl, ⟨ab, cb, rfl, hsb, hib, hlb0⟩, HFO, hG, hJ⟩
theorem MFewest_any (n F : Nat) (hn : n ≤ 6) (caps : Array Value) (so : Nat → Bool) (w : World) (hCF : ∀ (xs : Array Value) (W : World), (callFunc F xs).run Tryz.prog W = .ok (.enter F xs) W) (hF : ∀ (s : Nat) (W : World), s < 2 ^ n → Below w.heap.size w W → Calls Tryz.prog F (#[.int .i64 (s : Int)] ++ caps) W fun e W' => e = .returned (.bool (so s)) ∧ Below W.heap.size W W') :
    Calls Tryz.prog 85 #[.int .i64 (n : Int), .func (.func F) #[] caps] w fun e w' => ∃ v best found, e = .returned (.tuple #[v, .bool found]) ∧ IntsV w' v best ∧ Hid (Found n so (2 ^ n) best found) ∧ Below w.heap.size w w' :=
  (MFewestG_any n F hn caps so w none (fun _ h => by cases h) (fun W => Below w.heap.size w W) (fun A A' h h2 => h.trans (h2.mono h.size)) (Below.refl _ _) hCF
    (fun s W hs _ hW => (hF s W hs hW).mono fun e W' h => ⟨h.1, grown_of none h.2, hW.trans (h.2.mono hW.size)⟩)).mono fun e w' ⟨v, best, found, h1, h2, h3, _, h5⟩ => ⟨v, best, found, h1, h2.val, h3, h5⟩
end Go.Proofs.YtelmponkmmfffaaGreat
namespace Go.Proofs.YtelmponkmmfffaaGreat
open Go Go.RowKit

set_option maxHeartbeats 1000000 in
theorem DFailW_any (a : Option Addr) (l : List DeW) (c F most : Nat) (caps : Array Value) (f : Nat → Int) (w : World) (hl : l.length ≤ 9223372036854775807) (hm : most ≤ 5) (hi : WritersC w a l)
    (hCF : ∀ (xs : Array Value) (W : World), (callFunc F xs).run Tryz.prog W = .ok (.enter F xs) W)
    (hK : ∀ (k : Nat) (h : k < l.length) (W : World), Below w.heap.size w W → Calls Tryz.prog F (#[.int .i64 (k : Int), .agg #[.string l[k].name, .int .i64 l[k].kinds, .int .i64 l[k].lo, .int .i64 l[k].hi]] ++ caps) W fun e W' => e = .returned (.int .i64 (f k)) ∧ Below W.heap.size W W') :
    Calls Tryz.prog 100 #[.slice a l.length c, .int .i64 (most : Int), .func (.func F) #[] caps] w fun e w' => e = .returned (.tuple #[.int .i64 (failOf l.length most f).1, .int .i64 (failOf l.length most f).2]) ∧ Below w.heap.size w w' := by
  obtain ⟨r, hr⟩ : ∃ r, r = failOf l.length most f := ⟨_, rfl⟩
  rw [← hr]
  have Hr := Lib.hid hr
  clear hr
  replace hK := Lib.hid hK
  go_enter Tryz.func100, Tryz.ntmps100
  by_cases hlm : most < l.length
  · replace Hr := Lib.hid (Hr.out.trans (failOf_long hlm))
    go_wp2
    go_ret2
    have := Hr.out
    subst this
    exact ⟨rfl, Below.refl _ _⟩
  go_wp2
  go_loopw [17] (fun i wr => ∃ k : Nat, k ≤ l.length ∧ i = .int .i64 k ∧ Hid (∀ j, j < k → f j = 0) ∧ Below w.heap.size w wr) (fun i _ => l.length - (intOf i).toNat)
  case atStart => exact ⟨0, Nat.zero_le _, rfl, Lib.hid (fun j h => absurd h (Nat.not_lt_zero j)), Below.refl _ _⟩
  case round =>
    obtain ⟨k, hk, rfl, HZ, hbw⟩ := hrel
    by_cases hlt : k < l.length
    · have K := Lib.hid (fun (W : World) (h : Below w.heap.size w W) => hK.out k hlt W h)
      obtain ⟨b, off, rfl, hb, h1, h2, h3, h4⟩ := (hi.mono hbw) k hlt
      have HE := Lib.hid (fun (h : f k ≠ 0) => Hr.out.trans (failOf_err (by omega) hlt HZ.out h))
      have HN := Lib.hid (fun (h : f k = 0) => show ∀ j, j < k + 1 → f j = 0 from fun j hj => if hjk : j < k then HZ.out j hjk else (by have e : j = k := (by omega); subst e; exact h))
      generalize f k = y at K HE HN
      generalize l[k] = x at K h1 h2 h3 h4
      obtain ⟨name, kinds, lo, hi⟩ := x
      simp only at K h1 h2 h3 h4
      by_cases hx : y = 0
      · have hx2 := nei_f hx
        replace HN := Lib.hid (HN.out hx)
        subst hx
        clear HE
        go_wp2_with ((with_reducible refine (K.out _ (hbw.alloc hbw.size _)).mono ?_); rintro e w2 ⟨rfl, hb2⟩; have hbn := (hbw.alloc hbw.size (.cells #[.string name, .int .i64 kinds, .int .i64 lo, .int .i64 hi] 56)).trans (hb2.mono (by have := hbw.size; simp; omega)); dsimp only)
        go_roundw
        case rel => exact ⟨k + 1, by omega, by go_num, HN, hbn⟩
        case measure => simp [intOf]; omega
      · have hx2 := nei_t hx
        replace HE := Lib.hid (HE.out hx)
        clear HN hx
        go_wp2_with ((with_reducible refine (K.out _ (hbw.alloc hbw.size _)).mono ?_); rintro e w2 ⟨rfl, hb2⟩; have hbn := (hbw.alloc hbw.size (.cells #[.string name, .int .i64 kinds, .int .i64 lo, .int .i64 hi] 56)).trans (hb2.mono (by have := hbw.size; simp; omega)); dsimp only)
        go_ret2
        have := HE.out
        subst this
        exact ⟨rfl, hbn⟩
    · obtain rfl : k = l.length := by omega
      go_wp2
      go_ret2
      have := Hr.out.trans (failOf_ok (by omega) HZ.out)
      subst this
      exact ⟨rfl, hbw⟩

theorem DSameW_any (x : DeW) (s : ByteArray) (B : Nat) (w : World) (c0 : w.cell? ⟨B, 0, none⟩ = some (.string s)) :
    Calls Tryz.prog 104 #[.agg #[.string x.name, .int .i64 x.kinds, .int .i64 x.lo, .int .i64 x.hi], .pointer (some ⟨B, 0, none⟩)] w fun e w' => e = .returned (.bool (decide (x.name = s))) ∧ Below w.heap.size w w' := by
  have hB := lt_of_cell c0
  obtain ⟨name, kinds, lo, hi⟩ := x
  simp only
  have h2 := str_eq name s
  go_enter Tryz.func104, Tryz.ntmps104
  go_wp2
  go_ret
  exact ⟨ret_bool (by first | exact h2 | simp [h2]), by go_grown⟩
theorem anyNameW (l : List DeW) (s : ByteArray) : (l.any fun x => decide (x.name = s)) = hasS (l.map (·.name)) s := by unfold hasS; rw [List.any_map]; rfl
set_option maxHeartbeats 1000000 in
theorem DIndexW_any (a : Option Addr) (l : List DeW) (c : Nat) (s : ByteArray) (B : Nat) (w : World) (hl : l.length ≤ 9223372036854775807) (hi : WritersC w a l) (c0 : w.cell? ⟨B, 0, none⟩ = some (.string s)) :
    Calls Tryz.prog 135 #[.slice a l.length c, .func (.func 104) #[] #[.pointer (some ⟨B, 0, none⟩)]] w fun e w' => ∃ k : Int, e = .returned (.int .i64 k) ∧ Hid (decide (0 ≤ k) = l.any fun x => decide (x.name = s)) ∧ Below w.heap.size w w' := by
  go_enter Tryz.func135, Tryz.ntmps135
  go_wp2
  go_loopw [8] (fun i wr => ∃ k : Nat, k ≤ l.length ∧ i = .int .i64 k ∧ Hid (∀ j (_ : j < k) (h : j < l.length), decide (l[j].name = s) = false) ∧ Below w.heap.size w wr) (fun i _ => l.length - (intOf i).toNat)
  case atStart => exact ⟨0, Nat.zero_le _, rfl, Lib.hid (fun j h => absurd h (Nat.not_lt_zero j)), Below.refl _ _⟩
  case round =>
    obtain ⟨k, hk, rfl, HR, hbw⟩ := hrel
    by_cases hlt : k < l.length
    · obtain ⟨b, off, rfl, hb, h1, h2, h3, h4⟩ := (hi.mono hbw) k hlt
      have S := DSameW_any l[k] s B wr (cell_below hbw c0)
      have HT := Lib.hid (fun (h : decide (l[k].name = s) = true) => (any_lt (f := fun x => decide (x.name = s)) hlt h : l.any (fun x => decide (x.name = s)) = true))
      have HN := Lib.hid (fun (h : decide (l[k].name = s) = false) => show ∀ j (_ : j < k + 1) (h : j < l.length), decide (l[j].name = s) = false from fun j hj hjl => if hjk : j < k then HR.out j hjk hjl else (by have e : j = k := (by omega); subst e; exact h))
      generalize l[k] = x at S h1 h2 h3 h4 HT HN
      generalize decide (x.name = s) = br at S HT HN
      obtain ⟨name, kinds, lo, hi⟩ := x
      simp only at S h1 h2 h3 h4
      have S := Lib.hid S
      cases br
      · go_wp2_with (go_at_call 104; go_must ((with_reducible refine S.out.mono ?_); rintro e w2 ⟨rfl, hb2⟩; have hbn := hbw.trans (hb2.mono hbw.size); dsimp only))
        go_roundw
        case rel => exact ⟨k + 1, by omega, by go_num, Lib.hid (HN.out (by trivial)), hbn⟩
        case measure => simp [intOf]; omega
      · go_wp2_with (go_at_call 104; go_must ((with_reducible refine S.out.mono ?_); rintro e w2 ⟨rfl, hb2⟩; have hbn := hbw.trans (hb2.mono hbw.size); dsimp only))
        go_ret
        exact ⟨_, rfl, Lib.hid (by rw [HT.out (by trivial)]; simp), hbn⟩
    · obtain rfl : k = l.length := by omega
      go_wp2
      go_ret
      exact ⟨_, rfl, Lib.hid (by rw [any_not (fun j h => HR.out j h h)]; simp), hbw⟩
set_option maxHeartbeats 1000000 in
theorem DContainsW_any (a : Option Addr) (l : List DeW) (c : Nat) (s : ByteArray) (B : Nat) (w : World) (hl : l.length ≤ 9223372036854775807) (hi : WritersC w a l) (c0 : w.cell? ⟨B, 0, none⟩ = some (.string s)) :
    Calls Tryz.prog 103 #[.slice a l.length c, .func (.func 104) #[] #[.pointer (some ⟨B, 0, none⟩)]] w fun e w' => e = .returned (.bool (hasS (l.map (·.name)) s)) ∧ Below w.heap.size w w' := by
  have I := Lib.hid (DIndexW_any a l c s B w hl hi c0)
  rw [anyNameW] at I
  go_enter Tryz.func103, Tryz.ntmps103
  cases ha : hasS (l.map (·.name)) s
  · go_wp2_with (go_at_call 135; go_must ((with_reducible refine I.out.mono ?_); rintro e w2 ⟨k, rfl, hk, hb2⟩; have hk2 : ¬ 0 ≤ k := of_decide_eq_false (hk.out.trans ha); dsimp only))
    go_ret
    exact ⟨rfl, hb2⟩
  · go_wp2_with (go_at_call 135; go_must ((with_reducible refine I.out.mono ?_); rintro e w2 ⟨k, rfl, hk, hb2⟩; have hk2 : 0 ≤ k := of_decide_eq_true (hk.out.trans ha); dsimp only))
    go_ret
    exact ⟨rfl, hb2⟩

set_option maxHeartbeats 1000000 in
theorem DFailC_any (a : Option Addr) (l : List DeC) (c F most : Nat) (caps : Array Value) (f : Nat → Int) (w : World) (hl : l.length ≤ 9223372036854775807) (hm : most ≤ 5) (hi : CustsC w a l)
    (hCF : ∀ (xs : Array Value) (W : World), (callFunc F xs).run Tryz.prog W = .ok (.enter F xs) W)
    (hK : ∀ (k : Nat) (h : k < l.length) (W : World), Below w.heap.size w W → Calls Tryz.prog F (#[.int .i64 (k : Int), .agg #[.string l[k].name, .int .i64 l[k].kind, .int .i64 l[k].lo, .int .i64 l[k].hi, .int .i64 l[k].ship]] ++ caps) W fun e W' => e = .returned (.int .i64 (f k)) ∧ Below W.heap.size W W') :
    Calls Tryz.prog 105 #[.slice a l.length c, .int .i64 (most : Int), .func (.func F) #[] caps] w fun e w' => e = .returned (.tuple #[.int .i64 (failOf l.length most f).1, .int .i64 (failOf l.length most f).2]) ∧ Below w.heap.size w w' := by
  obtain ⟨r, hr⟩ : ∃ r, r = failOf l.length most f := ⟨_, rfl⟩
  rw [← hr]
  have Hr := Lib.hid hr
  clear hr
  replace hK := Lib.hid hK
  go_enter Tryz.func105, Tryz.ntmps105
  by_cases hlm : most < l.length
  · replace Hr := Lib.hid (Hr.out.trans (failOf_long hlm))
    go_wp2
    go_ret2
    have := Hr.out
    subst this
    exact ⟨rfl, Below.refl _ _⟩
  go_wp2
  go_loopw [17] (fun i wr => ∃ k : Nat, k ≤ l.length ∧ i = .int .i64 k ∧ Hid (∀ j, j < k → f j = 0) ∧ Below w.heap.size w wr) (fun i _ => l.length - (intOf i).toNat)
  case atStart => exact ⟨0, Nat.zero_le _, rfl, Lib.hid (fun j h => absurd h (Nat.not_lt_zero j)), Below.refl _ _⟩
  case round =>
    obtain ⟨k, hk, rfl, HZ, hbw⟩ := hrel
    by_cases hlt : k < l.length
    · have K := Lib.hid (fun (W : World) (h : Below w.heap.size w W) => hK.out k hlt W h)
      obtain ⟨b, off, rfl, hb, h1, h2, h3, h4, h5⟩ := (hi.mono hbw) k hlt
      have HE := Lib.hid (fun (h : f k ≠ 0) => Hr.out.trans (failOf_err (by omega) hlt HZ.out h))
      have HN := Lib.hid (fun (h : f k = 0) => show ∀ j, j < k + 1 → f j = 0 from fun j hj => if hjk : j < k then HZ.out j hjk else (by have e : j = k := (by omega); subst e; exact h))
      generalize f k = y at K HE HN
      generalize l[k] = x at K h1 h2 h3 h4 h5
      obtain ⟨name, kind, lo, hi, ship⟩ := x
      simp only at K h1 h2 h3 h4 h5
      by_cases hx : y = 0
      · have hx2 := nei_f hx
        replace HN := Lib.hid (HN.out hx)
        subst hx
        clear HE
        go_wp2_with ((with_reducible refine (K.out _ (hbw.alloc hbw.size _)).mono ?_); rintro e w2 ⟨rfl, hb2⟩; have hbn := (hbw.alloc hbw.size (.cells #[.string name, .int .i64 kind, .int .i64 lo, .int .i64 hi, .int .i64 ship] 39)).trans (hb2.mono (by have := hbw.size; simp; omega)); dsimp only)
        go_roundw
        case rel => exact ⟨k + 1, by omega, by go_num, HN, hbn⟩
        case measure => simp [intOf]; omega
      · have hx2 := nei_t hx
        replace HE := Lib.hid (HE.out hx)
        clear HN hx
        go_wp2_with ((with_reducible refine (K.out _ (hbw.alloc hbw.size _)).mono ?_); rintro e w2 ⟨rfl, hb2⟩; have hbn := (hbw.alloc hbw.size (.cells #[.string name, .int .i64 kind, .int .i64 lo, .int .i64 hi, .int .i64 ship] 39)).trans (hb2.mono (by have := hbw.size; simp; omega)); dsimp only)
        go_ret2
        have := HE.out
        subst this
        exact ⟨rfl, hbn⟩
    · obtain rfl : k = l.length := by omega
      go_wp2
      go_ret2
      have := Hr.out.trans (failOf_ok (by omega) HZ.out)
      subst this
      exact ⟨rfl, hbw⟩

theorem DSameC_any (x : DeC) (s : ByteArray) (B : Nat) (w : World) (c0 : w.cell? ⟨B, 0, none⟩ = some (.string s)) :
    Calls Tryz.prog 108 #[.agg #[.string x.name, .int .i64 x.kind, .int .i64 x.lo, .int .i64 x.hi, .int .i64 x.ship], .pointer (some ⟨B, 0, none⟩)] w fun e w' => e = .returned (.bool (decide (x.name = s))) ∧ Below w.heap.size w w' := by
  have hB := lt_of_cell c0
  obtain ⟨name, kind, lo, hi, ship⟩ := x
  simp only
  have h2 := str_eq name s
  go_enter Tryz.func108, Tryz.ntmps108
  go_wp2
  go_ret
  exact ⟨ret_bool (by first | exact h2 | simp [h2]), by go_grown⟩
theorem anyNameC (l : List DeC) (s : ByteArray) : (l.any fun x => decide (x.name = s)) = hasS (l.map (·.name)) s := by unfold hasS; rw [List.any_map]; rfl
set_option maxHeartbeats 1000000 in
theorem DIndexC_any (a : Option Addr) (l : List DeC) (c : Nat) (s : ByteArray) (B : Nat) (w : World) (hl : l.length ≤ 9223372036854775807) (hi : CustsC w a l) (c0 : w.cell? ⟨B, 0, none⟩ = some (.string s)) :
    Calls Tryz.prog 136 #[.slice a l.length c, .func (.func 108) #[] #[.pointer (some ⟨B, 0, none⟩)]] w fun e w' => ∃ k : Int, e = .returned (.int .i64 k) ∧ Hid (decide (0 ≤ k) = l.any fun x => decide (x.name = s)) ∧ Below w.heap.size w w' := by
  go_enter Tryz.func136, Tryz.ntmps136
  go_wp2
  go_loopw [8] (fun i wr => ∃ k : Nat, k ≤ l.length ∧ i = .int .i64 k ∧ Hid (∀ j (_ : j < k) (h : j < l.length), decide (l[j].name = s) = false) ∧ Below w.heap.size w wr) (fun i _ => l.length - (intOf i).toNat)
  case atStart => exact ⟨0, Nat.zero_le _, rfl, Lib.hid (fun j h => absurd h (Nat.not_lt_zero j)), Below.refl _ _⟩
  case round =>
    obtain ⟨k, hk, rfl, HR, hbw⟩ := hrel
    by_cases hlt : k < l.length
    · obtain ⟨b, off, rfl, hb, h1, h2, h3, h4, h5⟩ := (hi.mono hbw) k hlt
      have S := DSameC_any l[k] s B wr (cell_below hbw c0)
      have HT := Lib.hid (fun (h : decide (l[k].name = s) = true) => (any_lt (f := fun x => decide (x.name = s)) hlt h : l.any (fun x => decide (x.name = s)) = true))
      have HN := Lib.hid (fun (h : decide (l[k].name = s) = false) => show ∀ j (_ : j < k + 1) (h : j < l.length), decide (l[j].name = s) = false from fun j hj hjl => if hjk : j < k then HR.out j hjk hjl else (by have e : j = k := (by omega); subst e; exact h))
      generalize l[k] = x at S h1 h2 h3 h4 h5 HT HN
      generalize decide (x.name = s) = br at S HT HN
      obtain ⟨name, kind, lo, hi, ship⟩ := x
      simp only at S h1 h2 h3 h4 h5
      have S := Lib.hid S
      cases br
      · go_wp2_with (go_at_call 108; go_must ((with_reducible refine S.out.mono ?_); rintro e w2 ⟨rfl, hb2⟩; have hbn := hbw.trans (hb2.mono hbw.size); dsimp only))
        go_roundw
        case rel => exact ⟨k + 1, by omega, by go_num, Lib.hid (HN.out (by trivial)), hbn⟩
        case measure => simp [intOf]; omega
      · go_wp2_with (go_at_call 108; go_must ((with_reducible refine S.out.mono ?_); rintro e w2 ⟨rfl, hb2⟩; have hbn := hbw.trans (hb2.mono hbw.size); dsimp only))
        go_ret
        exact ⟨_, rfl, Lib.hid (by rw [HT.out (by trivial)]; simp), hbn⟩
    · obtain rfl : k = l.length := by omega
      go_wp2
      go_ret
      exact ⟨_, rfl, Lib.hid (by rw [any_not (fun j h => HR.out j h h)]; simp), hbw⟩
set_option maxHeartbeats 1000000 in
theorem DContainsC_any (a : Option Addr) (l : List DeC) (c : Nat) (s : ByteArray) (B : Nat) (w : World) (hl : l.length ≤ 9223372036854775807) (hi : CustsC w a l) (c0 : w.cell? ⟨B, 0, none⟩ = some (.string s)) :
    Calls Tryz.prog 107 #[.slice a l.length c, .func (.func 108) #[] #[.pointer (some ⟨B, 0, none⟩)]] w fun e w' => e = .returned (.bool (hasS (l.map (·.name)) s)) ∧ Below w.heap.size w w' := by
  have I := Lib.hid (DIndexC_any a l c s B w hl hi c0)
  rw [anyNameC] at I
  go_enter Tryz.func107, Tryz.ntmps107
  cases ha : hasS (l.map (·.name)) s
  · go_wp2_with (go_at_call 136; go_must ((with_reducible refine I.out.mono ?_); rintro e w2 ⟨k, rfl, hk, hb2⟩; have hk2 : ¬ 0 ≤ k := of_decide_eq_false (hk.out.trans ha); dsimp only))
    go_ret
    exact ⟨rfl, hb2⟩
  · go_wp2_with (go_at_call 136; go_must ((with_reducible refine I.out.mono ?_); rintro e w2 ⟨k, rfl, hk, hb2⟩; have hk2 : 0 ≤ k := of_decide_eq_true (hk.out.trans ha); dsimp only))
    go_ret
    exact ⟨rfl, hb2⟩

end Go.Proofs.YtelmponkmmfffaaGreat
