/- What is proved here: contracts of the search for a writer's other letter of a day. Conditions: the cells lie in memory. -/
/- What is proved here: how the search for a plan lies in memory and stays. No condition. -/
/- What is proved here: the contract of the search for a plan, at its end. Conditions: the search lies in memory. -/
import Derived.Test.YtcgplocmncionaaGreatSeMayG
import Derived.Laws.CopyOwn
import Derived.Deep.OwnRows
set_option linter.unusedVariables false
set_option linter.unusedSimpArgs false
namespace Go.Proofs.YtcgplocmncionaaGreat
open Go Go.RowKit Go.Shelf

set_option maxRecDepth 100000 in
set_option maxHeartbeats 1000000 in
theorem SPlan11_any (i n k4 pb c4 c12 b6 c11 : Nat) (a4 : Option Addr) (l : List SeLetter) (pi u day : Int) (w : World) (hln : l.length = n) (hi : i < n) (hok : SlOk a4 n k4) (hle : LettersC w a4 l) (hn : n ≤ 4)
    (e4 : w.cell? ⟨c4, 0, none⟩ = some (.slice (some ⟨pb, 0, none⟩) n n)) (ep : w.cell? ⟨pb, i, none⟩ = some (.int .i64 pi)) (e12 : w.cell? ⟨c12, 0, none⟩ = some (.int .i64 u)) (e6 : w.cell? ⟨b6, 3, none⟩ = some (.slice a4 n k4)) (e11 : w.cell? ⟨c11, 0, none⟩ = some (.int .i64 day)) :
    Calls Tryz.prog 71 #[.int .i64 (i : Int), .pointer (some ⟨c4, 0, none⟩), .pointer (some ⟨c12, 0, none⟩), .pointer (some ⟨b6, 0, none⟩), .pointer (some ⟨c11, 0, none⟩)] w fun e w' => e = .returned (.bool (decide (pi = u) && decide ((l[i]'(by omega)).day = day))) ∧ Below w.heap.size w w' := by
  have hkc := hok.1
  have z4 := lt_of_cell e4
  have z12 := lt_of_cell e12
  have z6 := lt_of_cell e6
  have z11 := lt_of_cell e11
  have zp := lt_of_cell ep
  obtain ⟨b, off, rfl, hbb, h1, h2, h3⟩ := hle i (by omega)
  generalize (l[i]'(by omega)).day = dy at h1 ⊢
  have hi0 : (0 : Int) ≤ i := by omega
  have hin : (i : Int) < n := by omega
  have hik : (i : Int) < k4 := by omega
  clear hln hok hle h2 h3
  by_cases he : pi = u
  · have g1 := eqi_t he
    by_cases hd : dy = day
    all_goals
      first | have g2 := eqi_t hd | have g2 := eqi_f hd
      go_enter Tryz.func71, Tryz.ntmps71
      go_upto_region 1 with (fail)
      go_quiet (fail)
      go_wp2
      go_ret
      exact ⟨ret_bool (by simp [he, hd]), below_draws _ _ _⟩
  · have g1 := eqi_f he
    go_enter Tryz.func71, Tryz.ntmps71
    go_upto_region 1 with (fail)
    go_quiet (fail)
    go_wp2
    go_ret
    exact ⟨ret_bool (by simp [he]), below_draws _ _ _⟩

theorem rangeI_get (m k : Nat) (h : k < ((List.range m).map fun (i : Nat) => (i : Int)).length) : ((List.range m).map fun (i : Nat) => (i : Int))[k] = (k : Int) := by simp
set_option maxHeartbeats 1000000 in
theorem SIndexP_any (ad : Option Addr) (m c : Nat) (caps : Array Value) (so : Nat → Bool) (w : World) (hm : m ≤ 64) (hi' : IntsC w ad ((List.range m).map fun (i : Nat) => (i : Int)))
    (HS : ∀ (i : Nat) (W : World), i < m → Below w.heap.size w W → Calls Tryz.prog 71 (#[.int .i64 (i : Int)] ++ caps) W fun e w' => e = .returned (.bool (so i)) ∧ Below W.heap.size W w') :
    Calls Tryz.prog 80 #[.slice ad m c, .func (.func 71) #[] caps] w fun e w' => ∃ k : Int, e = .returned (.int .i64 k) ∧ Hid (decide (0 ≤ k) = (List.range m).any so) ∧ Below w.heap.size w w' := by
  have HS := Lib.hid HS
  have hCF := enters_of (P := Tryz.prog) (f := 71) Tryz.func71 (by kernel_rfl) rfl
  have hCF2 : ∀ (xs : Array Value) (W : World), (callFunc 71 xs).run Tryz.prog W = .ok (.enter 71 xs) W := hCF
  clear hCF
  go_enter Tryz.func80, Tryz.ntmps80
  go_wp2
  go_loopw [8] (fun i wr => ∃ k : Nat, k ≤ m ∧ i = .int .i64 k ∧ Hid (∀ j, j < k → so j = false) ∧ Below w.heap.size w wr) (fun i _ => m - (intOf i).toNat)
  case atStart => exact ⟨0, Nat.zero_le _, rfl, Lib.hid (fun j h => absurd h (Nat.not_lt_zero j)), Below.refl _ _⟩
  case round =>
    obtain ⟨k, hk, rfl, HR, hbw⟩ := hrel
    by_cases hlt : k < m
    · obtain ⟨bb, off, rfl, hb, hx1⟩ := hi'.mono hbw k (by simpa using hlt)
      rw [rangeI_get] at hx1
      have B := HS.out k wr hlt hbw
      have HT := Lib.hid (fun (h : so k = true) => show (List.range m).any so = true from by rw [List.any_eq_true]; exact ⟨k, List.mem_range.2 hlt, h⟩)
      have HN := Lib.hid (fun (h : so k = false) => show ∀ j, j < k + 1 → so j = false from fun j hj => if hjk : j < k then HR.out j hjk else (by have e : j = k := (by omega); subst e; exact h))
      generalize so k = br at B HT HN
      have B := Lib.hid B
      have hk64 : (k : Int) < 64 := by omega
      cases br
      · go_wp2_with ((with_reducible refine B.out.mono ?_); rintro e w2 ⟨rfl, hb2⟩; dsimp only)
        go_roundw
        case rel => exact ⟨k + 1, by omega, by go_num, Lib.hid (HN.out rfl), hbw.trans (hb2.mono hbw.size)⟩
        case measure => simp [intOf]; omega
      · go_wp2_with ((with_reducible refine B.out.mono ?_); rintro e w2 ⟨rfl, hb2⟩; dsimp only)
        go_ret
        exact ⟨_, rfl, Lib.hid (by rw [HT.out (by trivial)]; simp), hbw.trans (hb2.mono hbw.size)⟩
    · obtain rfl : k = m := by omega
      go_wp2
      go_ret
      exact ⟨_, rfl, Lib.hid (by rw [show (List.range k).any so = false from by rw [List.any_eq_false]; intro j hj; simp [HR.out j (List.mem_range.1 hj)]]; simp), hbw⟩
set_option maxHeartbeats 1000000 in
theorem SContainsP_any (ad : Option Addr) (m c : Nat) (caps : Array Value) (so : Nat → Bool) (w : World) (hm : m ≤ 64) (hi' : IntsC w ad ((List.range m).map fun (i : Nat) => (i : Int)))
    (HS : ∀ (i : Nat) (W : World), i < m → Below w.heap.size w W → Calls Tryz.prog 71 (#[.int .i64 (i : Int)] ++ caps) W fun e w' => e = .returned (.bool (so i)) ∧ Below W.heap.size W w') :
    Calls Tryz.prog 50 #[.slice ad m c, .func (.func 71) #[] caps] w fun e w' => e = .returned (.bool ((List.range m).any so)) ∧ Below w.heap.size w w' := by
  have I := Lib.hid (SIndexP_any ad m c caps so w hm hi' HS)
  obtain ⟨r, hr⟩ : ∃ r, r = (List.range m).any so := ⟨_, rfl⟩
  rw [← hr] at I ⊢
  clear hr HS
  go_enter Tryz.func50, Tryz.ntmps50
  cases r
  · go_wp2_with (go_at_call 80; go_must (refine I.out.mono ?_; rintro e w2 ⟨k, rfl, hk, hb2⟩; have hk2 : ¬ 0 ≤ k := of_decide_eq_false hk.out; dsimp only))
    go_ret
    exact ⟨rfl, hb2⟩
  · go_wp2_with (go_at_call 80; go_must (refine I.out.mono ?_; rintro e w2 ⟨k, rfl, hk, hb2⟩; have hk2 : 0 ≤ k := of_decide_eq_true hk.out; dsimp only))
    go_ret
    exact ⟨rfl, hb2⟩
end Go.Proofs.YtcgplocmncionaaGreat
namespace Go.Proofs.YtcgplocmncionaaGreat
open Go Go.RowKit Go.Shelf

/-- The blocks of the search. -/
structure PlB where
  bm : Nat
  bo : Nat
  bx : Nat
  bwr : Nat
  bwt : Nat
  bmy : Nat
  pb : Nat
  bp : Nat
  bf : Nat
  bn : Nat
def PlB.caps (B : PlB) : Array Value := #[.pointer (some ⟨B.bf, 0, none⟩), .pointer (some ⟨B.bwt, 0, none⟩), .pointer (some ⟨B.bp, 0, none⟩), .pointer (some ⟨B.bwr, 0, none⟩), .pointer (some ⟨B.bx, 0, none⟩), .pointer (some ⟨B.bmy, 0, none⟩), .pointer (some ⟨B.bn, 0, none⟩)]
def PlB.ok (B : PlB) (b0 : Nat) : Prop := b0 ≤ B.bx ∧ B.bx < B.bwr ∧ B.bwr < B.bwt ∧ B.bwr ≠ B.bm ∧ B.bwt ≠ B.bm ∧ B.bwt < B.bo ∧ B.bm < B.bmy ∧ B.bo < B.bmy ∧ B.bmy < B.pb ∧ B.pb < B.bp ∧ B.bp < B.bf ∧ B.bf < B.bn
/-- What the best plan so far is, as a value. -/
def BestV (W : World) (bn n : Nat) (v : Value) : Option (List Int) → Prop
  | none => v = .slice none 0 0
  | some q => ∃ g, v = .slice (some ⟨g, 0, none⟩) n n ∧ BlkI W g 3 q ∧ q.length = n ∧ bn < g
def waitCell : Option (List Int) → Nat
  | none => 0
  | some q => waitingOf q
structure PlanC (w0 W : World) (B : PlB) (a1 a2 a3 a4 a5 : Option Addr) (k1 k2 k3 k4 k5 : Nat) (r : SeRoom) (L : List Int) (best : Option (List Int)) : Prop where
  keep : KeepN w0 W B.bm B.bo a1 a2 a3 a4 a5 k1 k2 k3 k4 k5 r
  ok : B.ok w0.heap.size
  x : W.heap[B.bx]? = some (.cells #[.slice a1 r.writers.length k1, .slice a2 r.kept.length k2, .slice a3 r.leaks.length k3, .slice a4 r.letters.length k4, .slice a5 r.heard.length k5] 28 (0, 0))
  wr : ∃ v, W.heap[B.bwr]? = some (.cells #[v] 23 (0, 0)) ∧ BestV W B.bn r.letters.length v best
  wt : W.heap[B.bwt]? = some (.cells #[.int .i64 (waitCell best : Int)] 3 (0, 0))
  my : W.heap[B.bmy]? = some (.cells #[.func (.func 47) #[.pointer (some ⟨B.bm, 0, none⟩)] #[]] 47 (0, 0))
  arr : BlkI W B.pb 3 L
  len : L.length = r.letters.length
  p : W.heap[B.bp]? = some (.cells #[.slice (some ⟨B.pb, 0, none⟩) r.letters.length r.letters.length] 23 (0, 0))
  f : W.heap[B.bf]? = some (.cells #[.bool best.isSome] 4 (0, 0))
  n : W.heap[B.bn]? = some (.cells #[.func (.func 69) #[] B.caps] 123 (0, 0))
theorem BestV.same {W W' : World} {bn n : Nat} {v : Value} {best : Option (List Int)} (h : BestV W bn n v best) (e : ∀ g, bn < g → g < W.heap.size → W'.heap[g]? = W.heap[g]?) : BestV W' bn n v best := by
  cases best with
  | none => exact h
  | some q =>
    obtain ⟨g, h1, h2, h3, h4⟩ := h
    exact ⟨g, h1, h2.same (e g h4 h2.lt), h3, h4⟩
variable {w0 W W' : World} {B : PlB} {a1 a2 a3 a4 a5 : Option Addr} {k1 k2 k3 k4 k5 : Nat} {r : SeRoom} {L : List Int} {best : Option (List Int)}
theorem PlanC.lt (h : PlanC w0 W B a1 a2 a3 a4 a5 k1 k2 k3 k4 k5 r L best) : B.bn < W.heap.size := lt_of_block h.n
theorem PlanC.below (hm : RoomC w0 a1 a2 a3 a4 a5 k1 k2 k3 k4 k5 r) (h : PlanC w0 W B a1 a2 a3 a4 a5 k1 k2 k3 k4 k5 r L best) (hb : Below W.heap.size W W') : PlanC w0 W' B a1 a2 a3 a4 a5 k1 k2 k3 k4 k5 r L best := by
  have hl := h.lt
  have ho := h.ok
  unfold PlB.ok at ho
  refine ⟨h.keep.belowB hm hb h.keep.2.size h.keep.1.bm_lt h.keep.1.bo_lt, h.ok, (hb.block _ (lt_of_block h.x)).trans h.x, ?_, (hb.block _ (lt_of_block h.wt)).trans h.wt, (hb.block _ (lt_of_block h.my)).trans h.my, h.arr.same (hb.block _ h.arr.lt), h.len, (hb.block _ (lt_of_block h.p)).trans h.p, (hb.block _ (lt_of_block h.f)).trans h.f, (hb.block _ hl).trans h.n⟩
  obtain ⟨v, h1, h2⟩ := h.wr
  exact ⟨v, (hb.block _ (lt_of_block h1)).trans h1, h2.same fun g _ hg => hb.block g hg⟩
theorem PlanC.step (h : PlanC w0 W B a1 a2 a3 a4 a5 k1 k2 k3 k4 k5 r L best) (hg : W.grownBy W' (some B.bo)) (hR : RoomW W' B.bm B.bo a1 a2 a3 a4 a5 k1 k2 k3 k4 k5 r 0) : PlanC w0 W' B a1 a2 a3 a4 a5 k1 k2 k3 k4 k5 r L best := by
  have ho := h.ok
  unfold PlB.ok at ho
  have e : ∀ b, b ≠ B.bo → b < W.heap.size → W'.heap[b]? = W.heap[b]? := fun b h1 h2 => hg.block b h2 (fun e => h1 (Option.some.inj e))
  refine ⟨h.keep.step hg hR (by omega), h.ok, (e _ (by omega) (lt_of_block h.x)).trans h.x, ?_, (e _ (by omega) (lt_of_block h.wt)).trans h.wt, (e _ (by omega) (lt_of_block h.my)).trans h.my, h.arr.same (e _ (by omega) h.arr.lt), h.len, (e _ (by omega) (lt_of_block h.p)).trans h.p, (e _ (by omega) (lt_of_block h.f)).trans h.f, (e _ (by omega) h.lt).trans h.n⟩
  obtain ⟨v, h1, h2⟩ := h.wr
  exact ⟨v, (e _ (by omega) (lt_of_block h1)).trans h1, h2.same fun g h3 hg => e g (by omega) hg⟩
/-- A number goes into the plan. -/
theorem PlanC.setp (hm : RoomC w0 a1 a2 a3 a4 a5 k1 k2 k3 k4 k5 r) (h : PlanC w0 W B a1 a2 a3 a4 a5 k1 k2 k3 k4 k5 r L best) (i : Nat) (x : Int) : PlanC w0 (W.setCell ⟨B.pb, i, none⟩ (.int .i64 x)) B a1 a2 a3 a4 a5 k1 k2 k3 k4 k5 r (L.set i x) best := by
  have ho := h.ok
  unfold PlB.ok at ho
  have e : ∀ b, b ≠ B.pb → (W.setCell ⟨B.pb, i, none⟩ (.int .i64 x)).heap[b]? = W.heap[b]? := fun b h1 => Below.heap_setCell _ _ _ _ h1
  have hbl : Below w0.heap.size w0 (W.setCell ⟨B.pb, i, none⟩ (.int .i64 x)) := h.keep.2.setCell (by simp; omega) _
  obtain ⟨T, hT, hM⟩ := h.keep.1.map
  refine ⟨⟨⟨hm.mono hbl, h.keep.1.blk.same (e _ (by omega)), T, hT.same (e _ (by omega)), hM⟩, hbl⟩, h.ok, (e _ (by omega)).trans h.x, ?_, (e _ (by omega)).trans h.wt, (e _ (by omega)).trans h.my, h.arr.set i x, by rw [List.length_set]; exact h.len, (e _ (by omega)).trans h.p, (e _ (by omega)).trans h.f, (e _ (by omega)).trans h.n⟩
  obtain ⟨v, h1, h2⟩ := h.wr
  exact ⟨v, (e _ (by omega)).trans h1, h2.same fun g h3 hg => e g (by omega)⟩
/-- A better plan is laid. -/
theorem PlanC.found (hm : RoomC w0 a1 a2 a3 a4 a5 k1 k2 k3 k4 k5 r) (h : PlanC w0 W B a1 a2 a3 a4 a5 k1 k2 k3 k4 k5 r L best) {g : Nat} {q : List Int} (hq : q.length = r.letters.length) (hg : W.heap.size ≤ g) (hos : W'.os = W.os) (ht : W'.tape = W.tape) (hou : W'.output = W.output) (hsz : W.heap.size ≤ W'.heap.size)
    (he : ∀ b, b < W.heap.size → b ≠ B.bwr → b ≠ B.bwt → b ≠ B.bf → W'.heap[b]? = W.heap[b]?) (h1 : W'.heap[B.bwr]? = some (.cells #[.slice (some ⟨g, 0, none⟩) r.letters.length r.letters.length] 23 (0, 0)))
    (h2 : W'.heap[B.bwt]? = some (.cells #[.int .i64 (waitingOf q : Int)] 3 (0, 0))) (h3 : W'.heap[B.bf]? = some (.cells #[.bool true] 4 (0, 0))) (h4 : BlkI W' g 3 q) : PlanC w0 W' B a1 a2 a3 a4 a5 k1 k2 k3 k4 k5 r L (some q) := by
  have ho := h.ok
  have hl := h.lt
  unfold PlB.ok at ho
  have hz := h.keep.2.size
  have hbl : Below w0.heap.size w0 W' := ⟨hos.trans h.keep.2.os, ht.trans h.keep.2.tape, hou.trans h.keep.2.output, Nat.le_trans hz hsz, fun b hb => (he b (by omega) (by omega) (by omega) (by omega)).trans (h.keep.2.block b hb)⟩
  obtain ⟨T, hT, hM⟩ := h.keep.1.map
  have e : ∀ b, b < W.heap.size → b ≠ B.bwr → b ≠ B.bwt → b ≠ B.bf → W'.heap[b]? = W.heap[b]? := he
  exact ⟨⟨⟨hm.mono hbl, h.keep.1.blk.same (e _ h.keep.1.bm_lt (by omega) (by omega) (by omega)), T, hT.same (e _ hT.lt (by omega) (by omega) (by omega)), hM⟩, hbl⟩, h.ok, (e _ (lt_of_block h.x) (by omega) (by omega) (by omega)).trans h.x, ⟨_, h1, g, rfl, h4, hq, by omega⟩, h2, (e _ (lt_of_block h.my) (by omega) (by omega) (by omega)).trans h.my, h.arr.same (e _ h.arr.lt (by omega) (by omega) (by omega)), h.len, (e _ (lt_of_block h.p) (by omega) (by omega) (by omega)).trans h.p, h3, (e _ hl (by omega) (by omega) (by omega)).trans h.n⟩
/-- Whether a writer may be the next one of a plan. -/
def takenB (r : SeRoom) (p : List Int) (u : Int) (day : Int) : Bool := (List.range p.length).any fun k => decide (p[k]?.getD 0 = u) && decide ((letterAt r k).day = day)
theorem fits_writer (r : SeRoom) (p : List Int) (u : Nat) (hp : p.length < r.letters.length) (hu : u < r.writers.length) (hd : r.letters[p.length].day ≤ 10) :
    fitsAt r (seTruths r []) (p ++ [(u : Int)]) p.length = (!takenB r p u r.letters[p.length].day && (decide (r.letters[p.length].writer = -1) || decide (r.letters[p.length].writer = (u : Int))) && mayB r r.letters[p.length] u) := by
  have e1 : letterAt r p.length = r.letters[p.length] := by unfold letterAt; rw [List.getElem?_eq_getElem hp]; rfl
  have e2 : (p ++ [(u : Int)])[p.length]?.getD 0 = (u : Int) := by rw [List.getElem?_append_right (Nat.le_refl _)]; simp
  unfold fitsAt
  simp only [e1, e2]
  rw [may_can r _ u hd]
  have e3 : seWho r (u : Int) = true := inB_iff.2 ⟨by omega, by omega⟩
  have e4 : ((List.range p.length).all fun k => !(decide ((p ++ [(u : Int)])[k]?.getD 0 = (u : Int)) && decide ((letterAt r k).day = r.letters[p.length].day))) = !takenB r p u r.letters[p.length].day := by
    unfold takenB
    rw [Bool.eq_iff_iff, List.all_eq_true]
    simp only [Bool.not_eq_true', List.any_eq_false]
    constructor
    · intro h k hk
      have := h k hk
      rw [List.getElem?_append_left (List.mem_range.1 hk)] at this
      simpa using this
    · intro h k hk
      have := h k hk
      rw [List.getElem?_append_left (List.mem_range.1 hk)]
      simpa using this
  rw [e3, e4]
  have e5 : decide ((u : Int) = -1) = false := by simp
  have e6 : decide ((u : Int) = r.letters[p.length].writer) = decide (r.letters[p.length].writer = (u : Int)) := decide_eq_decide.2 ⟨Eq.symm, Eq.symm⟩
  rw [e5, e6]
  cases takenB r p u r.letters[p.length].day <;> cases mayB r r.letters[p.length] u <;> cases decide (r.letters[p.length].writer = -1) <;> cases decide (r.letters[p.length].writer = (u : Int)) <;> rfl
theorem fits_nobody (r : SeRoom) (T : List (List Int)) (p : List Int) (hp : p.length < r.letters.length) : fitsAt r T (p ++ [-1]) p.length = decide (r.letters[p.length].writer = -1) := by
  have e1 : letterAt r p.length = r.letters[p.length] := by unfold letterAt; rw [List.getElem?_eq_getElem hp]; rfl
  have e2 : (p ++ [(-1 : Int)])[p.length]?.getD 0 = (-1 : Int) := by rw [List.getElem?_append_right (Nat.le_refl _)]; simp
  unfold fitsAt
  simp only [e1, e2]
  by_cases h : r.letters[p.length].writer = -1
  · simp [h]
  · simp [h]; omega
end Go.Proofs.YtcgplocmncionaaGreat
namespace Go.Proofs.YtcgplocmncionaaGreat
open Go Go.RowKit Go.Shelf

/-- What the search leaves of other memory. -/
def Fr (bn : Nat) (W W' : World) : Prop := W.heap.size ≤ W'.heap.size ∧ ∀ b, bn < b → b < W.heap.size → W'.heap[b]? = W.heap[b]?
theorem Fr.refl (bn : Nat) (W : World) : Fr bn W W := ⟨Nat.le_refl _, fun _ _ _ => rfl⟩
theorem Fr.trans {bn : Nat} {A C D : World} (h : Fr bn A C) (k : Fr bn C D) : Fr bn A D := ⟨Nat.le_trans h.1 k.1, fun b h1 h2 => (k.2 b h1 (Nat.lt_of_lt_of_le h2 h.1)).trans (h.2 b h1 h2)⟩
theorem Fr.of_below {bn : Nat} {A C : World} (h : Below A.heap.size A C) : Fr bn A C := ⟨h.size, fun b _ h2 => h.block b h2⟩
theorem Fr.of_grown {bn bo : Nat} {A C : World} (h : A.grownBy C (some bo)) (hb : bo ≤ bn) : Fr bn A C := ⟨h.size, fun b h1 h2 => h.block b h2 (fun e => by have := Option.some.inj e; omega)⟩
theorem Fr.set {bn b j : Nat} (A : World) (v : Value) (hb : b ≤ bn) : Fr bn A (A.setCell ⟨b, j, none⟩ v) := ⟨by simp, fun i h1 _ => Below.heap_setCell _ _ _ _ (fun e => by simp only at e; omega)⟩
def NextPost (w0 W : World) (B : PlB) (a1 a2 a3 a4 a5 : Option Addr) (k1 k2 k3 k4 k5 : Nat) (r : SeRoom) (p : List Int) (best : Option (List Int)) (e : Ending) (W' : World) : Prop :=
  (∃ v, e = .returned v) ∧ (∃ L', PlanC w0 W' B a1 a2 a3 a4 a5 k1 k2 k3 k4 k5 r L' best ∧ L'.take p.length = p) ∧ Fr B.bn W W'
theorem dfs_pruned {r : SeRoom} {T : List (List Int)} {p : List Int} {best : Option (List Int)} (h : noBetter best (waitingOf p) = true) : ∀ j, dfs r T j p best = best
  | 0 => by rw [dfs, if_pos h]
  | j + 1 => by rw [dfs, if_pos h]
theorem blkI_ints {W : World} {b : Nat} {t : TypeId} {L : List Int} (h : BlkI W b t L) : IntsC W (some ⟨b, 0, none⟩) L := fun i hi => ⟨b, 0, rfl, h.lt, by rw [Nat.zero_add]; exact h.cell i hi⟩

set_option maxRecDepth 100000 in
set_option maxHeartbeats 2000000 in
theorem SNext_no {w0 : World} {B : PlB} {a1 a2 a3 a4 a5 : Option Addr} {k1 k2 k3 k4 k5 : Nat} {r : SeRoom} (j : Nat) (p q L : List Int) (W : World) (h : PlanC w0 W B a1 a2 a3 a4 a5 k1 k2 k3 k4 k5 r L (some q)) (hL : L.take p.length = p) (hq : waitingOf q ≤ waitingOf p) :
    Calls Tryz.prog 69 #[.int .i64 (p.length : Int), .int .i64 (waitingOf p : Int), .pointer (some ⟨B.bf, 0, none⟩), .pointer (some ⟨B.bwt, 0, none⟩), .pointer (some ⟨B.bp, 0, none⟩), .pointer (some ⟨B.bwr, 0, none⟩), .pointer (some ⟨B.bx, 0, none⟩), .pointer (some ⟨B.bmy, 0, none⟩), .pointer (some ⟨B.bn, 0, none⟩)] W (NextPost w0 W B a1 a2 a3 a4 a5 k1 k2 k3 k4 k5 r p (dfs r (seTruths r []) j p (some q))) := by
  rw [dfs_pruned (by simpa [noBetter] using hq)]
  have f0 : W.cell? ⟨B.bf, 0, none⟩ = some (.bool true) := blk_cell 0 h.f rfl
  have t0 : W.cell? ⟨B.bwt, 0, none⟩ = some (.int .i64 (waitingOf q : Int)) := blk_cell 0 h.wt rfl
  have zf := lt_of_cell f0
  have zt := lt_of_cell t0
  have HF := Lib.hid (show NextPost w0 W B a1 a2 a3 a4 a5 k1 k2 k3 k4 k5 r p (some q) (.returned (.tuple #[])) W from ⟨⟨_, rfl⟩, ⟨L, h, hL⟩, Fr.refl _ _⟩)
  generalize waitingOf q = wq at *
  generalize waitingOf p = wp at *
  go_enter Tryz.func69, Tryz.ntmps69
  go_wp2
  go_end0
  exact HF.out
set_option maxRecDepth 100000 in
set_option maxHeartbeats 2000000 in
theorem SNext_end {w0 : World} {B : PlB} {a1 a2 a3 a4 a5 : Option Addr} {k1 k2 k3 k4 k5 : Nat} {r : SeRoom} (p L : List Int) (best : Option (List Int)) (W : World) (hm : RoomC w0 a1 a2 a3 a4 a5 k1 k2 k3 k4 k5 r) (hv : SeValid r) (hp : p.length = r.letters.length) (h : PlanC w0 W B a1 a2 a3 a4 a5 k1 k2 k3 k4 k5 r L best) (hL : L.take p.length = p) (hq : noBetter best (waitingOf p) = false) :
    Calls Tryz.prog 69 #[.int .i64 (p.length : Int), .int .i64 (waitingOf p : Int), .pointer (some ⟨B.bf, 0, none⟩), .pointer (some ⟨B.bwt, 0, none⟩), .pointer (some ⟨B.bp, 0, none⟩), .pointer (some ⟨B.bwr, 0, none⟩), .pointer (some ⟨B.bx, 0, none⟩), .pointer (some ⟨B.bmy, 0, none⟩), .pointer (some ⟨B.bn, 0, none⟩)] W (NextPost w0 W B a1 a2 a3 a4 a5 k1 k2 k3 k4 k5 r p (some p)) := by
  have hLp : L = p := by rw [← hL, hp, ← h.len, List.take_length]
  subst hLp
  have vt := hv.nt
  have f0 : W.cell? ⟨B.bf, 0, none⟩ = some (.bool best.isSome) := blk_cell 0 h.f rfl
  have t0 : W.cell? ⟨B.bwt, 0, none⟩ = some (.int .i64 (waitCell best : Int)) := blk_cell 0 h.wt rfl
  have p0 : W.cell? ⟨B.bp, 0, none⟩ = some (.slice (some ⟨B.pb, 0, none⟩) r.letters.length r.letters.length) := blk_cell 0 h.p rfl
  obtain ⟨v0, hv0, -⟩ := h.wr
  have w0' : W.cell? ⟨B.bwr, 0, none⟩ = some v0 := blk_cell 0 hv0 rfl
  have zf := lt_of_cell f0
  have zt := lt_of_cell t0
  have zp := lt_of_cell p0
  have zw := lt_of_cell w0'
  have gf := blk_free 0 h.f
  have gt := blk_free 0 h.wt
  have gw := blk_free 0 hv0
  have HP := Lib.hid hp
  have ho := h.ok
  unfold PlB.ok at ho
  have n1 : B.bwr ≠ B.bwt := by omega
  have n2 : B.bwt ≠ B.bwr := by omega
  have n3 : B.bwr ≠ B.bf := by omega
  have n4 : B.bf ≠ B.bwr := by omega
  have n5 : B.bf ≠ B.bwt := by omega
  have n6 : B.bwt ≠ B.bf := by omega
  have n7 : B.bp ≠ B.bwr := by omega
  have n8 : B.bp ≠ B.bwt := by omega
  have n9 : B.bp ≠ B.bf := by omega
  clear ho
  have hcase : best.isSome = false ∨ (best.isSome = true ∧ waitingOf L < waitCell best) := by
    cases best with
    | none => exact .inl rfl
    | some q => exact .inr ⟨rfl, by have h2 : ¬ waitingOf q ≤ waitingOf L := of_decide_eq_false hq; show waitingOf L < waitingOf q; omega⟩
  have H := Lib.hid h
  have HPL : Hid ((L.length : Int) = r.letters.length) := Lib.hid (by rw [hp])
  clear hL hq hp
  rw [HPL.out]
  obtain ⟨i, hi, hz, hsz, hby⟩ := info_parts E_int.info
  have hsz1 := Lib.hid (show (Tryz.prog.info? 3).map (·.size) = some 1 by rw [hi]; simp [hsz])
  rcases hcase with hs | ⟨hs, hlt⟩
  all_goals
    rw [hs] at f0
    clear hs
    generalize waitCell best = wc at *
    generalize hwq : waitingOf L = wp at *
    have HWQ := Lib.hid hwq
    clear hwq
    go_enter Tryz.func69, Tryz.ntmps69
    go_upto_region 2 with (fail)
    go_upto_region 3 with (refine wpList_make_row _ rfl (.tmp 25) (.tmp 25) _ rfl 3 i (.int .i64 0) E_int.und hi hz hsz rfl .i64 .i64 r.letters.length rfl rfl (by rw [hby]; omega) (by omega) ?_; go_frame)
    obtain ⟨X, hX⟩ : ∃ X : World, X = (((W.setCell ⟨B.bwr, 0, none⟩ (.slice (some ⟨W.heap.size, 0, none⟩) r.letters.length r.letters.length)).setCell ⟨B.bwt, 0, none⟩ (.int .i64 (wp : Int))).setCell ⟨B.bf, 0, none⟩ (.bool true)).alloc (.cells (madeCells #[Value.int .i64 0] r.letters.length) 3) := ⟨_, rfl⟩
    rw [← hX]
    have hXs : X.heap.size = W.heap.size + 1 := by rw [hX]; simp
    have hXw : X.heap[B.bwr]? = some (.cells #[.slice (some ⟨W.heap.size, 0, none⟩) r.letters.length r.letters.length] 23 (0, 0)) := by rw [hX]; exact (heap_alloc_old _ _ (by simpa using zw)).trans ((Below.heap_setCell _ _ _ _ n3).trans ((Below.heap_setCell _ _ _ _ n1).trans (blk_set 0 _ hv0)))
    have hXt : X.heap[B.bwt]? = some (.cells #[.int .i64 (wp : Int)] 3 (0, 0)) := by rw [hX]; exact (heap_alloc_old _ _ (by simpa using zt)).trans ((Below.heap_setCell _ _ _ _ n6).trans (blk_set 0 _ ((Below.heap_setCell _ _ _ _ n2).trans H.out.wt)))
    have hXf : X.heap[B.bf]? = some (.cells #[.bool true] 4 (0, 0)) := by rw [hX]; exact (heap_alloc_old _ _ (by simpa using zf)).trans (blk_set 0 _ ((Below.heap_setCell _ _ _ _ n5).trans ((Below.heap_setCell _ _ _ _ n4).trans H.out.f)))
    have hXo : ∀ b, b < W.heap.size → b ≠ B.bwr → b ≠ B.bwt → b ≠ B.bf → X.heap[b]? = W.heap[b]? := fun b h1 h2 h3 h4 => by rw [hX]; exact (heap_alloc_old _ _ (by simpa using h1)).trans ((Below.heap_setCell _ _ _ _ h4).trans ((Below.heap_setCell _ _ _ _ h3).trans (Below.heap_setCell _ _ _ _ h2)))
    have hXn : X.heap[W.heap.size]? = some (.cells (madeCells #[Value.int .i64 0] r.letters.length) 3 (0, 0)) := by rw [hX]; exact alloc_at _ _ (by simp)
    have hXe : X.os = W.os ∧ X.tape = W.tape ∧ X.output = W.output := by rw [hX]; exact ⟨rfl, rfl, rfl⟩
    have ho := H.out.ok
    unfold PlB.ok at ho
    have hXp : BlkI X B.pb 3 L := H.out.arr.same (hXo _ H.out.arr.lt (by omega) (by omega) (by omega))
    have q0 : X.cell? ⟨B.bp, 0, none⟩ = some (.slice (some ⟨B.pb, 0, none⟩) r.letters.length r.letters.length) := blk_cell 0 ((hXo _ zp n7 n8 n9).trans H.out.p) rfl
    have q1 : X.cell? ⟨B.bwr, 0, none⟩ = some (.slice (some ⟨W.heap.size, 0, none⟩) r.letters.length r.letters.length) := blk_cell 0 hXw rfl
    have qz0 := lt_of_cell q0
    have qz1 := lt_of_cell q1
    have hcn := Lib.hid (show (L.map (Value.int .i64)).length = Nat.min r.letters.length r.letters.length by rw [List.length_map, HP.out]; exact (Nat.min_self _).symm)
    have hcsrc := Lib.hid (fun (j : Nat) (v : Value) (hj : (L.map (Value.int .i64))[j]? = some v) => show X.cell? ((⟨B.pb, 0, none⟩ : Addr).add j) = some v from by
      rw [Addr.add_lit, Nat.zero_add]
      rw [List.getElem?_map] at hj
      obtain ⟨y, hy, rfl⟩ := Option.map_eq_some_iff.1 hj
      obtain ⟨hlt, rfl⟩ := List.getElem?_eq_some_iff.1 hy
      exact hXp.cell j hlt)
    have hcfit := Lib.hid (show 0 + (L.map (Value.int .i64)).length ≤ (madeCells #[Value.int .i64 0] r.letters.length).size by rw [List.length_map, HP.out, size_madeCells]; omega)
    have hcone := Lib.hid (show ∀ v ∈ L.map (Value.int .i64), v.oneCell' = true from fun v hv => by obtain ⟨y, _, rfl⟩ := List.mem_map.1 hv; rfl)
    have HFIN : Hid (NextPost w0 W B a1 a2 a3 a4 a5 k1 k2 k3 k4 k5 r L (some L) (.returned (.tuple #[])) (X.setRow W.heap.size (List.take 0 (madeCells #[Value.int .i64 0] r.letters.length).toList ++ (List.map (Value.int .i64) L ++ List.drop (0 + (List.map (Value.int .i64) L).length) (madeCells #[Value.int .i64 0] r.letters.length).toList)).toArray)) := Lib.hid (by
      have h4 := setRow_heap X W.heap.size _ (List.take 0 (madeCells #[Value.int .i64 0] r.letters.length).toList ++ (List.map (Value.int .i64) L ++ List.drop (0 + (List.map (Value.int .i64) L).length) (madeCells #[Value.int .i64 0] r.letters.length).toList)).toArray 3 _ hXn
      have e : (List.take 0 (madeCells #[Value.int .i64 0] r.letters.length).toList ++ (List.map (Value.int .i64) L ++ List.drop (0 + (List.map (Value.int .i64) L).length) (madeCells #[Value.int .i64 0] r.letters.length).toList)) = L.map (Value.int .i64) := by
        rw [List.take_zero, List.nil_append, List.drop_eq_nil_of_le (by rw [Array.length_toList, size_madeCells, List.length_map, HP.out]; omega), List.append_nil]
      rw [e] at h4 ⊢
      have hbr := below_setRow (Below.refl W.heap.size X) (Nat.le_refl _) (L.map (Value.int .i64)).toArray
      have hln := H.out.lt
      refine ⟨⟨_, rfl⟩, ⟨L, ?_, List.take_length⟩, ?_⟩
      · refine H.out.found hm HP.out (g := W.heap.size) (Nat.le_refl _) (hbr.os.trans hXe.1) (hbr.tape.trans hXe.2.1) (hbr.output.trans hXe.2.2) (Nat.le_trans (by omega) hbr.size) (fun b h1 h2 h3 h5 => (hbr.block b h1).trans (hXo b h1 h2 h3 h5)) ((hbr.block _ (by omega)).trans hXw) ?_ ((hbr.block _ (by omega)).trans hXf) h4
        rw [HWQ.out]
        exact (hbr.block _ (by omega)).trans hXt
      · exact ⟨Nat.le_trans (by omega) hbr.size, fun b h1 h2 => (hbr.block b h2).trans (hXo b h2 (by omega) (by omega) (by omega))⟩)
    clear hX hXw hXt hXf hXo hXe hXp ho n1 n2 n3 n4 n5 n6 n7 n8 n9 hXs
    have HXn := Lib.hid hXn
    clear hXn
    go_wp2_with (refine wpList_copy_own rfl (.tmp 28) (.tmp 29) _ _ rfl 3 E_int.und hsz1.out W.heap.size 0 r.letters.length r.letters.length ⟨B.pb, 0, none⟩ r.letters.length r.letters.length rfl rfl (madeCells #[Value.int .i64 0] r.letters.length) 3 HXn.out (L.map (Value.int .i64)) hcn.out hcsrc.out hcfit.out hcone.out ?_; go_frame)
    have hfin := HFIN.out
    simp only [List.take_zero, List.nil_append, Nat.zero_add, List.length_map] at hfin
    exact bodyPost_ret (results_none rfl _ _ _) rfl hfin
end Go.Proofs.YtcgplocmncionaaGreat
