/- What is proved here: how far a plan is, as a value; what the search remembers. No condition. -/
import Derived.Test.YtchnpekgmkhacaaDeRep
import Derived.Test.YtchnpekgmkhacaaDeGround
import Derived.WideKeyArr
set_option linter.unusedVariables false
set_option linter.unusedSimpArgs false
namespace Go.Proofs.Ytchnpekgmkhacaa
open Go Go.RowKit

structure StOk (h : DeH) (x : DeSt) : Prop where
  w : x.writer ≤ h.writers.length
  d : x.done < 2 ^ h.customers.length
  len : x.ms.length = 3
  m : ∀ i, 0 ≤ minuteAt x i ∧ minuteAt x i ≤ 240
theorem pow32 {h : DeH} (hv : DeValid h) : 2 ^ h.customers.length ≤ 32 := by
  have := Nat.pow_le_pow_right (n := 2) (by omega) hv.nc
  omega
theorem begin_ok {h : DeH} (hv : DeValid h) : StOk h (beginD h) := by
  refine ⟨Nat.zero_le _, Nat.two_pow_pos _, begin_len h, fun i => ?_⟩
  rw [begin_minute hv.nw]
  split
  · rename_i hi
    have := hv.w i hi
    rw [show writerAt h i = h.writers[i] from by unfold writerAt; rw [List.getElem?_eq_getElem hi]; rfl]
    omega
  · omega
theorem customer_ship {h : DeH} (hv : DeValid h) {c : Nat} (hc : c < h.customers.length) : 0 ≤ (customerAt h c).ship ∧ (customerAt h c).ship ≤ 240 ∧ 1 ≤ (customerAt h c).hi ∧ (customerAt h c).hi ≤ 30 ∧ 0 ≤ (customerAt h c).kind ∧ (customerAt h c).kind ≤ 3 := by
  have := hv.c c hc
  rw [show customerAt h c = h.customers[c] from by unfold customerAt; rw [List.getElem?_eq_getElem hc]; rfl]
  omega
theorem next_ok {h : DeH} (hv : DeValid h) {wm cm : Nat} {x : DeSt} (hx : StOk h x) {y : Int × DeSt} (hy : y ∈ nextD h wm cm x) : StOk h y.2 := by
  by_cases e : x.writer = h.writers.length
  · unfold nextD at hy; rw [if_pos e] at hy; cases hy
  have hxw := hx.w
  rcases (mem_next e).1 hy with rfl | ⟨c, hc, hp, rfl⟩
  · exact ⟨by show x.writer + 1 ≤ _; omega, hx.d, hx.len, hx.m⟩
  · have hnw := hv.nw
    have hlt : x.writer < x.ms.length := by rw [hx.len]; omega
    refine ⟨hxw, ?_, by show (x.ms.set _ _).length = 3; rw [List.length_set]; exact hx.len, fun i => ?_⟩
    · show x.done ||| 2 ^ c < _
      exact Nat.or_lt_two_pow hx.d (Nat.pow_lt_pow_right (by omega) hc)
    · show 0 ≤ minuteAt (nextC h x c) i ∧ minuteAt (nextC h x c) i ≤ 240
      rw [nextC_minute h x c i hlt]
      split
      · have h1 := customer_ship hv hc
        have h2 := hv.wax
        have h3 := hx.m x.writer
        unfold putB at hp
        simp only [Bool.and_eq_true, decide_eq_true_eq] at hp
        have h4 := hp.2
        have h5 : goD h x c = minuteAt x x.writer + (customerAt h c).hi + h.wax := rfl
        omega
      · exact hx.m i
/-- The value. -/
@[reducible] def standV (x : DeSt) : Value := .agg #[.int .i64 (x.writer : Int), .int .i64 (x.done : Int), .int .i64 (minuteAt x 0), .int .i64 (minuteAt x 1), .int .i64 (minuteAt x 2)]
theorem ms_of {x : DeSt} (h : x.ms.length = 3) : x.ms = [minuteAt x 0, minuteAt x 1, minuteAt x 2] := by
  obtain ⟨w, d, ms⟩ := x
  match ms, h with
  | [a, b, c], _ => rfl
theorem stand_inj {h : DeH} {x y : DeSt} (hx : StOk h x) (hy : StOk h y) (e : standV x = standV y) : x = y := by
  simp only [standV, Value.agg.injEq, Array.mk.injEq, List.cons.injEq, Value.int.injEq, true_and, and_true] at e
  obtain ⟨e1, e2, e3, e4, e5⟩ := e
  have h1 := ms_of hx.len
  have h2 := ms_of hy.len
  rw [e3, e4, e5, ← h2] at h1
  obtain ⟨w, d, ms⟩ := x
  obtain ⟨w', d', ms'⟩ := y
  simp only at h1 e1 e2
  rw [h1, show w = w' by omega, show d = d' by omega]
/-- 'over' of a stand. -/
def ovD (h : DeH) (wm cm : Nat) (x : DeSt) : Int := overF h wm cm (leftD h x) x
theorem foldl_congr_mem {α β : Type} {f g : β → α → β} : ∀ (l : List α) (b : β), (∀ x ∈ l, ∀ b, f b x = g b x) → l.foldl f b = l.foldl g b
  | [], _, _ => rfl
  | x :: l, b, h => by
    rw [List.foldl_cons, List.foldl_cons, h x (by simp)]
    exact foldl_congr_mem l _ fun y hy => h y (List.mem_cons_of_mem _ hy)
theorem ovD_eq {h : DeH} {wm cm : Nat} {x : DeSt} (hx : x.writer ≤ h.writers.length) : ovD h wm cm x = (nextD h wm cm x).foldl (fun b y => betterD b (ovD h wm cm y.2)) (baseD h cm x) := by
  unfold ovD
  cases e : leftD h x with
  | zero =>
    have hw : x.writer = h.writers.length := by unfold leftD at e; omega
    have hn : nextD h wm cm x = [] := by unfold nextD; rw [if_pos hw]
    rw [hn]; rfl
  | succ f =>
    show (nextD h wm cm x).foldl (fun b y => betterD b (overF h wm cm f y.2)) (baseD h cm x) = _
    refine foldl_congr_mem _ _ fun y hy b => ?_
    have := next_left hx hy
    rw [over_fuel (f := f) (g := leftD h y.2) this.2 (by omega) (Nat.le_refl _)]
theorem over_ge {h : DeH} {wm cm : Nat} {x : DeSt} (hx : x.writer ≤ h.writers.length) : -1 ≤ ovD h wm cm x := by
  rcases over_spec (wm := wm) (cm := cm) (leftD h x) x hx (Nat.le_refl _) with ⟨e, _⟩ | ⟨h0, _, _⟩
  · unfold ovD; omega
  · unfold ovD; omega
theorem fv_le {h : DeH} {x : DeSt} (hx : StOk h x) : 0 ≤ fvD h x ∧ fvD h x ≤ 240 := by
  obtain ⟨h1, h2, h3⟩ := fv_is h x
  rcases h3 with e | ⟨w, _, _, e⟩
  · omega
  · have := hx.m w; omega
theorem run_ok {h : DeH} (hv : DeValid h) {wm cm : Nat} {x z : DeSt} {s : List Int} (hr : RunD h wm cm x s z) : StOk h x → StOk h z := by
  induction hr with
  | stop => exact fun hx => hx
  | move hy _ ih => exact fun hx => ih (next_ok hv hx hy)
theorem over_le {h : DeH} (hv : DeValid h) {wm cm : Nat} : ∀ (n : Nat) (x : DeSt), StOk h x → leftD h x ≤ n → ovD h wm cm x ≤ 240
  | n, x, hx, hl => by
    rcases over_spec (wm := wm) (cm := cm) (leftD h x) x hx.w (Nat.le_refl _) with ⟨e, _⟩ | ⟨h0, ⟨s, z, hr, _, e⟩, _⟩
    · unfold ovD; omega
    · have := fv_le (run_ok hv hr hx)
      unfold ovD; omega

/-- What a hall remembers: when some stands are over, each once. -/
def MemoD (h : DeH) (wm cm : Nat) (T : List (Value × Value)) : Prop := ∃ E : List DeSt, T = E.map (fun x => (standV x, Value.int .i64 (ovD h wm cm x))) ∧ E.Nodup ∧ ∀ x ∈ E, StOk h x
theorem nodup_below : ∀ (n : Nat) (l : List Nat), l.Nodup → (∀ x ∈ l, x < n) → l.length ≤ n
  | 0, l, _, h => by
    cases l with
    | nil => simp
    | cons a l => exact absurd (h a (by simp)) (by omega)
  | n + 1, l, hn, h => by
    have h1 := nodup_below n (l.filter fun x => decide (x < n)) (List.filter_sublist.nodup hn) (fun x hx => by have := (List.mem_filter.1 hx).2; simpa using this)
    have h2 : (l.filter fun x => !decide (x < n)).length ≤ 1 := by
      have hs : ∀ x ∈ l.filter (fun x => !decide (x < n)), x = n := fun x hx => by
        have h3 := (List.mem_filter.1 hx).2
        have h4 := h x (List.mem_filter.1 hx).1
        simp at h3; omega
      have hd : (l.filter fun x => !decide (x < n)).Nodup := List.filter_sublist.nodup hn
      generalize l.filter (fun x => !decide (x < n)) = m at hs hd
      match m with
      | [] => simp
      | [a] => simp
      | a :: b :: m =>
        have ea := hs a (by simp)
        have eb := hs b (by simp)
        subst ea
        rw [List.nodup_cons] at hd
        exact absurd (by rw [eb]; simp) hd.1
    have h3 := List.length_eq_countP_add_countP (fun x => decide (x < n)) (l := l)
    rw [List.countP_eq_length_filter, List.countP_eq_length_filter] at h3
    have h4 : (l.filter fun x => !decide (x < n)) = l.filter (fun a => decide (¬(decide (a < n)) = true)) := List.filter_congr (fun x _ => by by_cases hx : x < n <;> simp [hx])
    rw [← h4] at h3
    omega
def codeD (x : DeSt) : Nat := (((x.writer * 32 + x.done) * 256 + (minuteAt x 0).toNat) * 256 + (minuteAt x 1).toNat) * 256 + (minuteAt x 2).toNat
theorem code_lt {h : DeH} (hv : DeValid h) {x : DeSt} (hx : StOk h x) : codeD x < 2147483648 := by
  have h1 := hx.w
  have h2 := hx.d
  have h3 := pow32 hv
  have h4 := hv.nw
  have m0 := hx.m 0
  have m1 := hx.m 1
  have m2 := hx.m 2
  unfold codeD
  omega
theorem code_inj {h : DeH} (hv : DeValid h) {x y : DeSt} (hx : StOk h x) (hy : StOk h y) (e : codeD x = codeD y) : x = y := by
  have h3 := pow32 hv
  have xd := hx.d
  have yd := hy.d
  have x0 := hx.m 0
  have x1 := hx.m 1
  have x2 := hx.m 2
  have y0 := hy.m 0
  have y1 := hy.m 1
  have y2 := hy.m 2
  unfold codeD at e
  refine stand_inj hx hy ?_
  have e2 : minuteAt x 2 = minuteAt y 2 := by omega
  have e1 : minuteAt x 1 = minuteAt y 1 := by omega
  have e0 : minuteAt x 0 = minuteAt y 0 := by omega
  have ed : x.done = y.done := by omega
  have ew : x.writer = y.writer := by omega
  simp only [standV, e0, e1, e2, ed, ew]
theorem MemoD.len {h : DeH} (hv : DeValid h) {wm cm : Nat} {T : List (Value × Value)} (k : MemoD h wm cm T) : T.length ≤ 2147483648 := by
  obtain ⟨E, rfl, hn, hb⟩ := k
  have h1 := nodup_below 2147483648 (E.map codeD) (by
    rw [List.Nodup, List.pairwise_map]
    exact List.Pairwise.imp_of_mem (fun {a b} ha hb' hne e => hne (code_inj hv (hb a ha) (hb b hb') e)) hn) (fun x hx => by
      obtain ⟨p, hp, rfl⟩ := List.mem_map.1 hx
      exact code_lt hv (hb p hp))
  simpa using h1
theorem memoD_nil (h : DeH) (wm cm : Nat) : MemoD h wm cm [] := ⟨[], rfl, List.nodup_nil, fun p h => by cases h⟩
theorem MemoD.more {h : DeH} {wm cm : Nat} {T : List (Value × Value)} (k : MemoD h wm cm T) {x : DeSt} (hx : StOk h x) (hnew : ∀ p ∈ T, p.1 ≠ standV x) : MemoD h wm cm (T ++ [(standV x, Value.int .i64 (ovD h wm cm x))]) := by
  obtain ⟨E, rfl, hn, hb⟩ := k
  refine ⟨E ++ [x], by simp, ?_, fun p hp => ?_⟩
  · rw [List.nodup_append]
    refine ⟨hn, by simp, fun a ha b hb' => ?_⟩
    have : b = x := by simpa using hb'
    subst this
    intro e
    subst e
    exact hnew _ (List.mem_map.2 ⟨_, ha, rfl⟩) rfl
  · rcases List.mem_append.1 hp with hp | hp
    · exact hb p hp
    · have : p = x := by simpa using hp
      subst this
      exact hx
theorem MemoD.get {h : DeH} {wm cm : Nat} {T : List (Value × Value)} (k : MemoD h wm cm T) {x : DeSt} (hx : StOk h x) {v : Value} (hv : (standV x, v) ∈ T) : v = Value.int .i64 (ovD h wm cm x) := by
  obtain ⟨E, rfl, hn, hb⟩ := k
  obtain ⟨p, hp, e⟩ := List.mem_map.1 hv
  have e1 := stand_inj (hb p hp) hx (congrArg Prod.fst e)
  have e2 : Value.int .i64 (ovD h wm cm p) = v := congrArg Prod.snd e
  rw [← e2, e1]
theorem key_stand : Maps.Keyed Try.prog 105 := Maps.Keyed.of_law (deep_law (m := 3) (by omega) (by kernel_rfl) (by kernel_rfl) (by kernel_rfl))
theorem key_map : Try.prog.underlying 108 = some (.map 105 3) := by kernel_rfl
theorem zero_int (w : World) : (zeroValue 3).run Try.prog w = .ok (.int .i64 0) w := by kernel_rfl
theorem okI_small (n : Int) (h : 0 ≤ n) (h2 : n < 64000) : (Lit.int .i64 n).wf = true := by
  unfold Lit.wf
  have e1 : IntKind.min .i64 = -9223372036854775808 := by decide
  have e2 : IntKind.max .i64 = 9223372036854775807 := by decide
  simp only [e1, e2, Bool.and_eq_true, decide_eq_true_eq]
  omega
set_option maxRecDepth 100000 in
set_option maxHeartbeats 1000000 in
theorem key_of (a b c d e : Int) (ha : 0 ≤ a ∧ a < 64000) (hb : 0 ≤ b ∧ b < 64000) (hc : 0 ≤ c ∧ c < 64000) (hd : 0 ≤ d ∧ d < 64000) (he : 0 ≤ e ∧ e < 64000) : ∃ l, keyOf Try.prog 105 (.agg #[.int .i64 a, .int .i64 b, .int .i64 c, .int .i64 d, .int .i64 e]) = some l := by
  have h1 : (match Try.prog.underlying 105 with | some (.struct fs) => (fs.toList.map fun f => (f.type, f.offset)) == [(3, 0), (3, 1), (103, 2)] && fs.all (fun f => f.name != "_") | _ => false) = true := by kernel_rfl
  have h2 : Try.prog.keyType 105 = true := by kernel_rfl
  have h3 : Value.formed Try.prog 105 (.agg #[.int .i64 a, .int .i64 b, .int .i64 c, .int .i64 d, .int .i64 e]) = true := by kernel_rfl
  have h4 : Try.prog.underlying 3 = some (.int .i64) := by kernel_rfl
  have h5 : Try.prog.cellsOf 3 = 1 := by kernel_rfl
  have h6 : Try.prog.cellsOf 105 = 5 := by kernel_rfl
  have h8 : Try.prog.cellsOf 103 = 3 := by kernel_rfl
  have h9 : Try.prog.underlying 103 = some (.array 3 3) := by kernel_rfl
  obtain ⟨n, h7⟩ : ∃ n, Try.prog.types.size = n + 1 + 1 := ⟨Try.prog.types.size - 2, by kernel_rfl⟩
  cases hu : Try.prog.underlying 105 with
  | none => rw [hu] at h1; cases h1
  | some kd =>
    rw [hu] at h1
    cases kd with
    | struct fs =>
      simp only [Bool.and_eq_true, beq_iff_eq] at h1
      obtain ⟨g1, g2⟩ := h1
      have e1 : ∀ (m : Nat) (x : Int), 0 ≤ x ∧ x < 64000 → Try.prog.keyLits (m + 1) 3 [.int .i64 x] = some [.int .i64 x] := fun m x hx => by
        unfold Program.keyLits
        simp only [h4, okI_small x hx.1 hx.2, and_self, if_true]
      have e3 : Try.prog.keyLits (n + 1 + 1) 103 [.int .i64 c, .int .i64 d, .int .i64 e] = some [.int .i64 c, .int .i64 d, .int .i64 e] := by
        unfold Program.keyLits
        rw [h9]
        simp only [h8, h5, List.length_cons, List.length_nil, Nat.zero_add, Nat.reduceAdd, if_true]
        rw [show List.range 3 = [0, 1, 2] from rfl]
        simp only [List.mapM_cons, List.mapM_nil, Nat.zero_mul, Nat.one_mul, Nat.reduceMul, List.drop_zero, List.drop_succ_cons, List.take_succ_cons, List.take_zero, e1 n c hc, e1 n d hd, e1 n e he]
        rfl
      unfold keyOf
      rw [hu]
      simp only [h2, h3, Bool.and_self, if_true, h7]
      unfold Program.keyLits
      rw [hu]
      have g3 : (Value.agg #[.int .i64 a, .int .i64 b, .int .i64 c, .int .i64 d, .int .i64 e]).cells.toList = [.int .i64 a, .int .i64 b, .int .i64 c, .int .i64 d, .int .i64 e] := rfl
      rw [g3]
      obtain ⟨L⟩ := fs
      simp only at g1 g2 ⊢
      match L, g1 with
      | [f0, f1, f2], g1 =>
        simp only [List.map_cons, List.map_nil, List.cons.injEq, Prod.mk.injEq, and_true] at g1
        obtain ⟨⟨t0, o0⟩, ⟨t1, o1⟩, t2, o2⟩ := g1
        simp only [h6, List.length_cons, List.length_nil, Nat.zero_add, Nat.reduceAdd, g2, and_self, if_true, List.mapM_cons, List.mapM_nil, t0, o0, t1, o1, t2, o2, h5, h8, List.drop_zero, List.drop_succ_cons, List.take_succ_cons, List.take_zero, e1 (n + 1) a ha, e1 (n + 1) b hb, e3]
        exact ⟨_, rfl⟩
    | _ => simp at h1
theorem key_stV {h : DeH} (hv : DeValid h) {x : DeSt} (hx : StOk h x) : ∃ l, keyOf Try.prog 105 (standV x) = some l := by
  have h1 := hx.w
  have h2 := hx.d
  have h3 := pow32 hv
  have h4 := hv.nw
  have m0 := hx.m 0
  have m1 := hx.m 1
  have m2 := hx.m 2
  exact key_of _ _ _ _ _ (by omega) (by omega) (by omega) (by omega) (by omega)
end Go.Proofs.Ytchnpekgmkhacaa
