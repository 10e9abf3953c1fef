/- What is proved here: how a town that is looked at lies in memory and stays: while memory grows, while its two maps learn; a store into a map, at a key that is there or not. No condition. -/
/- What is proved here: the contract of person.numbers. Conditions: sets below 64. -/
/- What is proved here: contracts of cmp.Compare and slices.Compare at ints, both signs; what of the world they turn: nothing. Conditions: both slices of one length. -/
import Derived.Test.YtklconegomgjaaaGreatPnBaseG
import Derived.Test.YtklconegomgjaaaGreatRef1AG
import Derived.Test.YtklconegomgjaaaGreatRangeTG
import Derived.Test.YtklconegomgjaaaGreatEaCanG
import Derived.Test.YtklconegomgjaaaGreatProg
import Derived.Test.YtklconegomgjaaaGreatChkG
set_option linter.unusedVariables false
set_option linter.unusedSimpArgs false
namespace Go.Proofs.YtklconegomgjaaaGreat
open Go Go.RowKit Go.ChangeMaps Go.MapKept
open Go.Maps (Keyed)

/-- 'm[k] = v' at a key that is there. -/
theorem MapV.again {P : Program} {k : TypeId} {w : World} {b : Nat} {T : List (Value × Value)} {t e : TypeId} (h : MapV w P k b T) (K : Keyed P k) (ht : P.underlying t = some (.map k e)) {key val : Value} {kl : Lit} (hkey : keyOf P k key = some kl) (hold : ∃ p ∈ T, p.1 = key) :
    ∃ j v0 w', T[j]? = some (key, v0) ∧ (Instr.mapUpdate t (.map (some b)) key val).run P w = .ok () w' ∧ MapV w' P k b (T.set j (key, val)) ∧ w.grownBy w' (some b) ∧ w'.heap.size = w.heap.size := by
  obtain ⟨es, clock, hb, hst, hk, rfl⟩ := h
  rcases K.find w hkey es.toList hk with ⟨h1, h2⟩ | ⟨j, e0, h1, h2, h3⟩
  · obtain ⟨p, hp, he⟩ := hold
    obtain ⟨e1, he1, rfl⟩ := List.mem_map.1 hp
    exact absurd he (h2 e1 he1)
  · have hel : es.toList[j]? = some e0 := h2
    have hj : es[j]? = some e0 := by simpa using h2
    have hmod : ∀ f : MapEntry → MapEntry, (es.modify j f).toList = es.toList.set j (f e0) := fun f => by rw [Array.toList_modify, modify_eq_set _ _ _ _ h2]
    have hsame : es.modify j (fun e => { e with key := key, val := val }) = es.modify j (fun e => { e with val := val }) := by
      apply Array.ext'
      rw [hmod, hmod, ← h3]
    refine ⟨j, e0.val, setBlock w b (.map (es.modify j fun e => { e with val := val }) clock), by rw [List.getElem?_map, h2]; simp [h3], ?_, ⟨es.modify j fun e => { e with val := val }, clock, heap_setBlock_same hb _, stamped_modify hst j _ (fun e _ => rfl) (fun e _ _ => rfl), ?_, ?_⟩, grown_setBlock _ _ _, by simp [setBlock]⟩
    · simp [Instr.mapUpdate, run_underlying ht, MapKept.run_getObj_map hb, K.check w false hkey, h1, MapKept.run_setObj_map _ hb, K.stays w hkey, hj, h3, Result.andThen, setBlock, hsame]
    · intro x hx
      rcases MapFrom.mem_modify hx with h | ⟨e, h1, rfl⟩
      · exact hk x h
      · have : e ∈ es.toList := List.mem_of_getElem? (by simpa using h1)
        exact hk e this
    · rw [hmod, List.map_set, h3]
/-! ### Keys -/
theorem key_intE : Maps.Keyed Tryz.prog 3 := Maps.int_keyed (q := .i64) (by kernel_rfl)
theorem map_common : Tryz.prog.underlying 163 = some (.map 3 3) := by kernel_rfl
theorem key_persons : Maps.Keyed Tryz.prog 109 := Maps.Keyed.of_law (deep_law (m := 2) (by omega) (by kernel_rfl) (by kernel_rfl) (by kernel_rfl))
theorem map_known : Tryz.prog.underlying 164 = some (.map 109 154) := by kernel_rfl
@[reducible] def bnV (b : List (Int × Int)) : Value := .agg #[.int .i64 (bAt b 0).1, .int .i64 (bAt b 0).2, .int .i64 (bAt b 1).1, .int .i64 (bAt b 1).2, .int .i64 (bAt b 2).1, .int .i64 (bAt b 2).2, .int .i64 (bAt b 3).1, .int .i64 (bAt b 3).2, .int .i64 (bAt b 4).1, .int .i64 (bAt b 4).2, .int .i64 (bAt b 5).1, .int .i64 (bAt b 5).2]
@[reducible] def bnCells (b : List (Int × Int)) : Array Value := #[.int .i64 (bAt b 0).1, .int .i64 (bAt b 0).2, .int .i64 (bAt b 1).1, .int .i64 (bAt b 1).2, .int .i64 (bAt b 2).1, .int .i64 (bAt b 2).2, .int .i64 (bAt b 3).1, .int .i64 (bAt b 3).2, .int .i64 (bAt b 4).1, .int .i64 (bAt b 4).2, .int .i64 (bAt b 5).1, .int .i64 (bAt b 5).2]
theorem zero_born (w : World) : (zeroValue 154).run Tryz.prog w = .ok (bnV []) w := by kernel_rfl
@[reducible] def psV (p : List Int) : Value := .agg #[.int .i64 (pAt p 0), .int .i64 (pAt p 1), .int .i64 (pAt p 2), .int .i64 (pAt p 3), .int .i64 (pAt p 4), .int .i64 (pAt p 5)]
@[reducible] def psCells (p : List Int) : Array Value := #[.int .i64 (pAt p 0), .int .i64 (pAt p 1), .int .i64 (pAt p 2), .int .i64 (pAt p 3), .int .i64 (pAt p 4), .int .i64 (pAt p 5)]
def PsOk (q : List Int) : Prop := q.length = 6 ∧ ∀ x ∈ q, 0 ≤ x ∧ x < 6
theorem PsOk.at {q : List Int} (h : PsOk q) (i : Nat) : 0 ≤ pAt q i ∧ pAt q i < 6 := by
  unfold pAt
  by_cases hi : i < q.length
  · rw [List.getElem?_eq_getElem hi, Option.getD_some]
    exact h.2 _ (List.getElem_mem hi)
  · rw [List.getElem?_eq_none (by omega)]
    simp
theorem psV_inj {p q : List Int} (hp : p.length = 6) (hq : q.length = 6) (e : psV p = psV q) : p = q := by
  simp only [psV, Value.agg.injEq, Array.mk.injEq, List.cons.injEq, Value.int.injEq, true_and, and_true] at e
  obtain ⟨e0, e1, e2, e3, e4, e5⟩ := e
  refine List.ext_getElem (by omega) fun i h1 h2 => ?_
  have key : pAt p i = pAt q i := by
    obtain rfl | rfl | rfl | rfl | rfl | rfl : i = 0 ∨ i = 1 ∨ i = 2 ∨ i = 3 ∨ i = 4 ∨ i = 5 := by omega
    all_goals assumption
  unfold pAt at key
  rwa [List.getElem?_eq_getElem h1, List.getElem?_eq_getElem h2, Option.getD_some, Option.getD_some] at key
set_option maxRecDepth 100000 in
theorem key_ps {p : List Int} (h : PsOk p) : ∃ l, keyOf Tryz.prog 109 (psV p) = some l := by
  have h0 := h.at 0
  have h1 := h.at 1
  have h2 := h.at 2
  have h3 := h.at 3
  have h4 := h.at 4
  have h5 := h.at 5
  unfold psV
  generalize pAt p 0 = a at *
  generalize pAt p 1 = b at *
  generalize pAt p 2 = c at *
  generalize pAt p 3 = d at *
  generalize pAt p 4 = e at *
  generalize pAt p 5 = f at *
  have g2 : Tryz.prog.keyType 109 = true := by kernel_rfl
  have g3 : Value.formed Tryz.prog 109 (.agg #[.int .i64 a, .int .i64 b, .int .i64 c, .int .i64 d, .int .i64 e, .int .i64 f]) = true := by kernel_rfl
  have g4 : Tryz.prog.underlying 3 = some (.int .i64) := by kernel_rfl
  have g5 : Tryz.prog.cellsOf 3 = 1 := by kernel_rfl
  have g6 : Tryz.prog.cellsOf 109 = 6 := by kernel_rfl
  have g9 : Tryz.prog.underlying 109 = some (.array 6 3) := by kernel_rfl
  obtain ⟨n, g7⟩ : ∃ n, Tryz.prog.types.size = n + 1 := ⟨Tryz.prog.types.size - 1, by kernel_rfl⟩
  have e1 : ∀ (m : Nat) (x : Int), 0 ≤ x ∧ x < 6 → Tryz.prog.keyLits (m + 1) 3 [.int .i64 x] = some [.int .i64 x] := fun m x hx => by
    unfold Program.keyLits
    simp only [g4, okI_smallE x hx.1 (by omega), and_self, if_true]
  have e3 : Tryz.prog.keyLits (n + 1 + 1) 109 [.int .i64 a, .int .i64 b, .int .i64 c, .int .i64 d, .int .i64 e, .int .i64 f] = some [.int .i64 a, .int .i64 b, .int .i64 c, .int .i64 d, .int .i64 e, .int .i64 f] := by
    unfold Program.keyLits
    rw [g9]
    simp only [g6, g5, List.length_cons, List.length_nil, Nat.zero_add, Nat.reduceAdd, if_true]
    rw [show List.range 6 = [0, 1, 2, 3, 4, 5] from rfl]
    simp only [List.mapM_cons, List.mapM_nil, Nat.zero_mul, Nat.one_mul, Nat.reduceMul, List.drop_zero, List.drop_succ_cons, List.take_succ_cons, List.take_zero, e1 n a h0, e1 n b h1, e1 n c h2, e1 n d h3, e1 n e h4, e1 n f h5]
    rfl
  unfold keyOf
  simp only [g2, g3, Bool.and_self, if_true, g7, g9]
  have g8 : (Value.agg #[.int .i64 a, .int .i64 b, .int .i64 c, .int .i64 d, .int .i64 e, .int .i64 f]).cells.toList = [.int .i64 a, .int .i64 b, .int .i64 c, .int .i64 d, .int .i64 e, .int .i64 f] := rfl
  rw [g8, e3]
  exact ⟨_, rfl⟩
theorem key_numE (n : Nat) (h : n < 64) : keyOf Tryz.prog 3 (.int .i64 (n : Int)) = some (.int .i64 (n : Int)) := Maps.keyOf_int_mk (q := .i64) (by kernel_rfl) (okI_smallE n (by omega) (by omega))

/-! ### What the maps remember -/
def comV (t : PeW) (s : Nat) : Int := if aliveB t s = true then 1 else 2
def ComOk (t : PeW) (T : List (Value × Value)) : Prop := ∃ E : List Nat, T = E.map (fun (s : Nat) => (Value.int .i64 (s : Int), Value.int .i64 (comV t s))) ∧ E.Nodup ∧ ∀ s ∈ E, s < 32
def KnoOk (t : PeW) (T : List (Value × Value)) : Prop := ∃ E : List (List Int), T = E.map (fun q => (psV q, bnV ((yearsN t q).getD []))) ∧ E.Nodup ∧ ∀ q ∈ E, PsOk q ∧ (yearsN t q).isSome = true
theorem com_nil (t : PeW) : ComOk t [] := ⟨[], rfl, List.nodup_nil, fun p h => by cases h⟩
theorem kno_nil (t : PeW) : KnoOk t [] := ⟨[], rfl, List.nodup_nil, fun p h => by cases h⟩
theorem ComOk.len {t : PeW} {T : List (Value × Value)} (h : ComOk t T) : T.length ≤ 32 := by
  obtain ⟨E, rfl, hn, hb⟩ := h
  have := nodup_sub_len E (List.range 32) hn (fun x hx => List.mem_range.2 (hb x hx))
  simpa using this
theorem listsM_len (S : Nat) : ∀ m, (listsM S m).length = S ^ m
  | 0 => rfl
  | m + 1 => by
    have e : ∀ l : List Nat, (l.flatMap fun (n : Nat) => (listsM S m).map fun l => (n : Int) :: l).length = l.length * S ^ m := by
      intro l
      induction l with
      | nil => simp
      | cons a l ih => rw [List.flatMap_cons, List.length_append, ih, List.length_map, listsM_len S m, List.length_cons, Nat.succ_mul, Nat.add_comm]
    rw [listsM, e, List.length_range, Nat.pow_succ, Nat.mul_comm]
theorem KnoOk.len {t : PeW} {T : List (Value × Value)} (h : KnoOk t T) : T.length ≤ 46656 := by
  obtain ⟨E, rfl, hn, hb⟩ := h
  have := nodup_sub_len E (listsM 6 6) hn (fun x hx => (mem_listsM 6 6 x).2 ⟨(hb x hx).1.1, (hb x hx).1.2⟩)
  rw [listsM_len] at this
  simpa using this
theorem ComOk.get {t : PeW} {T : List (Value × Value)} (h : ComOk t T) {s : Nat} {v : Value} (hv : (Value.int .i64 (s : Int), v) ∈ T) : v = .int .i64 (comV t s) := by
  obtain ⟨E, rfl, hn, hb⟩ := h
  obtain ⟨s', hp, e⟩ := List.mem_map.1 hv
  have e1 : Value.int .i64 (s' : Int) = .int .i64 (s : Int) := congrArg Prod.fst e
  have e2 : Value.int .i64 (comV t s') = v := congrArg Prod.snd e
  have e3 : s' = s := by
    simp only [Value.int.injEq, true_and] at e1
    omega
  rw [← e2, e3]
theorem ComOk.more {t : PeW} {T : List (Value × Value)} (h : ComOk t T) {s : Nat} (hs : s < 32) (hnew : ∀ p ∈ T, p.1 ≠ Value.int .i64 (s : Int)) : ComOk t (T ++ [(Value.int .i64 (s : Int), Value.int .i64 (comV t s))]) := by
  obtain ⟨E, rfl, hn, hb⟩ := h
  refine ⟨E ++ [s], by simp, ?_, fun p hp => ?_⟩
  · rw [List.nodup_append]
    refine ⟨hn, by simp, fun a ha b hb' => ?_⟩
    have : b = s := by simpa using hb'
    subst this
    intro e
    subst e
    exact hnew _ (List.mem_map.2 ⟨_, ha, rfl⟩) rfl
  · rcases List.mem_append.1 hp with hp | hp
    · exact hb p hp
    · have : p = s := by simpa using hp
      omega
theorem KnoOk.get {t : PeW} {T : List (Value × Value)} (h : KnoOk t T) {q : List Int} (hq : q.length = 6) {v : Value} (hv : (psV q, v) ∈ T) : (yearsN t q).isSome = true ∧ v = bnV ((yearsN t q).getD []) := by
  obtain ⟨E, rfl, hn, hb⟩ := h
  obtain ⟨q', hp, e⟩ := List.mem_map.1 hv
  have e1 := psV_inj (hb q' hp).1.1 hq (congrArg Prod.fst e)
  subst e1
  exact ⟨(hb q' hp).2, (congrArg Prod.snd e).symm⟩
theorem KnoOk.more {t : PeW} {T : List (Value × Value)} (h : KnoOk t T) {q : List Int} (hq : PsOk q) (hy : (yearsN t q).isSome = true) (hnew : ∀ p ∈ T, p.1 ≠ psV q) : KnoOk t (T ++ [(psV q, bnV ((yearsN t q).getD []))]) := by
  obtain ⟨E, rfl, hn, hb⟩ := h
  refine ⟨E ++ [q], by simp, ?_, fun p hp => ?_⟩
  · rw [List.nodup_append]
    refine ⟨hn, by simp, fun a ha b hb' => ?_⟩
    have : b = q := by simpa using hb'
    subst this
    intro e
    subst e
    exact hnew _ (List.mem_map.2 ⟨_, ha, rfl⟩) rfl
  · rcases List.mem_append.1 hp with hp | hp
    · exact hb p hp
    · have : p = q := by simpa using hp
      subst this
      exact ⟨hq, hy⟩

/-! ### A town that is looked at -/
def TBlk (W : World) (bt bc bk : Nat) (a1 a2 a3 a4 : Option Addr) (k1 k2 k3 k4 : Nat) (t : PeW) (but : Nat) : Prop :=
  W.heap[bt]? = some (.cells #[.int .i64 t.ear.sounds, .slice a1 t.ear.alphas.length k1, .slice a2 t.ear.spells.length k2, .int .i64 t.vills, .slice a3 t.ments.length k3, .slice a4 t.ties.length k4, .int .i64 (but : Int), .map (some bc), .map (some bk)] 166 (0, 0))
structure TownW (W : World) (bt bc bk : Nat) (a1 a2 a3 a4 : Option Addr) (k1 k2 k3 k4 : Nat) (t : PeW) (but : Nat) : Prop where
  town : TownC W a1 a2 a3 a4 k1 k2 k3 k4 t
  blk : TBlk W bt bc bk a1 a2 a3 a4 k1 k2 k3 k4 t but
  common : ∃ T, MapV W Tryz.prog 3 bc T ∧ ComOk t T
  known : ∃ T, MapV W Tryz.prog 109 bk T ∧ KnoOk t T
  ne : bc ≠ bk
section
variable {W W' : World} {bt bc bk : Nat} {a1 a2 a3 a4 : Option Addr} {k1 k2 k3 k4 : Nat} {t : PeW} {but : Nat}
theorem TownW.cells (h : TownW W bt bc bk a1 a2 a3 a4 k1 k2 k3 k4 t but) : W.cell? ⟨bt, 0, none⟩ = some (.int .i64 t.ear.sounds) ∧ W.cell? ⟨bt, 1, none⟩ = some (.slice a1 t.ear.alphas.length k1) ∧ W.cell? ⟨bt, 2, none⟩ = some (.slice a2 t.ear.spells.length k2) ∧ W.cell? ⟨bt, 3, none⟩ = some (.int .i64 t.vills) ∧ W.cell? ⟨bt, 4, none⟩ = some (.slice a3 t.ments.length k3) ∧ W.cell? ⟨bt, 5, none⟩ = some (.slice a4 t.ties.length k4) ∧ W.cell? ⟨bt, 6, none⟩ = some (.int .i64 (but : Int)) ∧ W.cell? ⟨bt, 7, none⟩ = some (.map (some bc)) ∧ W.cell? ⟨bt, 8, none⟩ = some (.map (some bk)) ∧ bt < W.heap.size :=
  ⟨blk_cell 0 h.blk rfl, blk_cell 1 h.blk rfl, blk_cell 2 h.blk rfl, blk_cell 3 h.blk rfl, blk_cell 4 h.blk rfl, blk_cell 5 h.blk rfl, blk_cell 6 h.blk rfl, blk_cell 7 h.blk rfl, blk_cell 8 h.blk rfl, lt_of_block h.blk⟩
theorem TownW.bt_lt (h : TownW W bt bc bk a1 a2 a3 a4 k1 k2 k3 k4 t but) : bt < W.heap.size := lt_of_block h.blk
theorem TownW.bc_lt (h : TownW W bt bc bk a1 a2 a3 a4 k1 k2 k3 k4 t but) : bc < W.heap.size := by obtain ⟨T, hT, _⟩ := h.common; exact hT.lt
theorem TownW.bk_lt (h : TownW W bt bc bk a1 a2 a3 a4 k1 k2 k3 k4 t but) : bk < W.heap.size := by obtain ⟨T, hT, _⟩ := h.known; exact hT.lt
/-- A block of cells is no map. -/
theorem TownW.not_map (h : TownW W bt bc bk a1 a2 a3 a4 k1 k2 k3 k4 t but) {b : Nat} {cs : Array Value} {ty : TypeId} {x : Nat × Nat} (hb : W.heap[b]? = some (.cells cs ty x)) : b ≠ bc ∧ b ≠ bk := by
  obtain ⟨T, ⟨es, c, hm, _⟩, _⟩ := h.common
  obtain ⟨T2, ⟨es2, c2, hm2, _⟩, _⟩ := h.known
  constructor <;> intro e
  · rw [e, hm] at hb; cases hb
  · rw [e, hm2] at hb; cases hb
theorem TownW.below (h : TownW W bt bc bk a1 a2 a3 a4 k1 k2 k3 k4 t but) (hb : Below W.heap.size W W') : TownW W' bt bc bk a1 a2 a3 a4 k1 k2 k3 k4 t but := by
  obtain ⟨T, hT, hM⟩ := h.common
  obtain ⟨T2, hT2, hM2⟩ := h.known
  exact ⟨h.town.mono hb, (hb.block _ h.bt_lt).trans h.blk, ⟨T, hT.below hb hT.lt, hM⟩, ⟨T2, hT2.below hb hT2.lt, hM2⟩, h.ne⟩
end
/-- Memory grows, and two maps may learn. -/
structure Lrn (bc bk : Nat) (A A' : World) : Prop where
  os : A'.os = A.os
  tape : A'.tape = A.tape
  output : A'.output = A.output
  size : A.heap.size ≤ A'.heap.size
  block : ∀ b, b < A.heap.size → b ≠ bc → b ≠ bk → A'.heap[b]? = A.heap[b]?
theorem Lrn.refl (bc bk : Nat) (A : World) : Lrn bc bk A A := ⟨rfl, rfl, rfl, Nat.le_refl _, fun _ _ _ _ => rfl⟩
theorem Lrn.trans {bc bk : Nat} {A C D : World} (h : Lrn bc bk A C) (k : Lrn bc bk C D) : Lrn bc bk A D :=
  ⟨k.os.trans h.os, k.tape.trans h.tape, k.output.trans h.output, Nat.le_trans h.size k.size, fun b h1 h2 h3 => (k.block b (Nat.lt_of_lt_of_le h1 h.size) h2 h3).trans (h.block b h1 h2 h3)⟩
theorem Lrn.of_below {bc bk : Nat} {A A' : World} (h : Below A.heap.size A A') : Lrn bc bk A A' := ⟨h.os, h.tape, h.output, h.size, fun b h1 _ _ => h.block b h1⟩
theorem Lrn.of_common {bc bk : Nat} {A A' : World} (h : A.grownBy A' (some bc)) : Lrn bc bk A A' := ⟨h.os, h.tape, h.output, h.size, fun b h1 h2 _ => h.block b h1 (fun e => h2 (Option.some.inj e))⟩
theorem Lrn.of_known {bc bk : Nat} {A A' : World} (h : A.grownBy A' (some bk)) : Lrn bc bk A A' := ⟨h.os, h.tape, h.output, h.size, fun b h1 _ h3 => h.block b h1 (fun e => h3 (Option.some.inj e))⟩
theorem Lrn.above {bc bk B : Nat} {A A' : World} (h : Lrn bc bk A A') (h1 : bc < B) (h2 : bk < B) : Above B A A' := ⟨h.os, h.tape, h.output, h.size, fun b g1 g2 => h.block b g2 (by omega) (by omega)⟩
theorem Lrn.cellsB {bc bk : Nat} {A A' : World} {a1 a2 a3 a4 : Option Addr} {k1 k2 k3 k4 : Nat} {t : PeW} {bt but : Nat} (h : Lrn bc bk A A') (k : TownW A bt bc bk a1 a2 a3 a4 k1 k2 k3 k4 t but) {b : Nat} {cs : Array Value} {ty : TypeId} {x : Nat × Nat} (hb : A.heap[b]? = some (.cells cs ty x)) : A'.heap[b]? = some (.cells cs ty x) :=
  (h.block b (lt_of_block hb) (k.not_map hb).1 (k.not_map hb).2).trans hb
theorem Lrn.keeps {bc bk : Nat} {A A' : World} {a1 a2 a3 a4 : Option Addr} {k1 k2 k3 k4 : Nat} {t : PeW} {bt but : Nat} (h : Lrn bc bk A A') (k : TownW A bt bc bk a1 a2 a3 a4 k1 k2 k3 k4 t but) : Keeps A A' := by
  obtain ⟨T, ⟨es, c, hm, _⟩, _⟩ := k.common
  obtain ⟨T2, ⟨es2, c2, hm2, _⟩, _⟩ := k.known
  refine ⟨h.size, fun a v e => ?_⟩
  have h1 := lt_of_cell e
  have e1 : a.block ≠ bc := fun he => by simp [World.cell?, he, hm] at e
  have e2 : a.block ≠ bk := fun he => by simp [World.cell?, he, hm2] at e
  rw [← e]
  unfold World.cell?
  rw [h.block _ h1 e1 e2]
theorem TownW.learn {bc bk : Nat} {A A' : World} {a1 a2 a3 a4 : Option Addr} {k1 k2 k3 k4 : Nat} {t : PeW} {bt but : Nat} (k : TownW A bt bc bk a1 a2 a3 a4 k1 k2 k3 k4 t but) (h : Lrn bc bk A A') (hc : ∃ T, MapV A' Tryz.prog 3 bc T ∧ ComOk t T) (hk : ∃ T, MapV A' Tryz.prog 109 bk T ∧ KnoOk t T) : TownW A' bt bc bk a1 a2 a3 a4 k1 k2 k3 k4 t but :=
  ⟨k.town.keep (h.keeps k), h.cellsB k k.blk, hc, hk, k.ne⟩
theorem TownW.learn_common {bc bk : Nat} {A A' : World} {a1 a2 a3 a4 : Option Addr} {k1 k2 k3 k4 : Nat} {t : PeW} {bt but : Nat} (k : TownW A bt bc bk a1 a2 a3 a4 k1 k2 k3 k4 t but) (h : A.grownBy A' (some bc)) (hc : ∃ T, MapV A' Tryz.prog 3 bc T ∧ ComOk t T) : TownW A' bt bc bk a1 a2 a3 a4 k1 k2 k3 k4 t but := by
  obtain ⟨T, hT, hM⟩ := k.known
  exact k.learn (.of_common h) hc ⟨T, hT.kept h (fun e => k.ne (Option.some.inj e).symm), hM⟩
theorem TownW.learn_known {bc bk : Nat} {A A' : World} {a1 a2 a3 a4 : Option Addr} {k1 k2 k3 k4 : Nat} {t : PeW} {bt but : Nat} (k : TownW A bt bc bk a1 a2 a3 a4 k1 k2 k3 k4 t but) (h : A.grownBy A' (some bk)) (hk : ∃ T, MapV A' Tryz.prog 109 bk T ∧ KnoOk t T) : TownW A' bt bc bk a1 a2 a3 a4 k1 k2 k3 k4 t but := by
  obtain ⟨T, hT, hM⟩ := k.common
  exact k.learn (.of_known h) ⟨T, hT.kept h (fun e => k.ne (Option.some.inj e)), hM⟩ hk
end Go.Proofs.YtklconegomgjaaaGreat
namespace Go.Proofs.YtklconegomgjaaaGreat
open Go Go.RowKit
set_option maxHeartbeats 2000000 in
theorem PNumbersN_any (s n : Nat) (hs : s < 64) (hn : n ≤ 6) (w : World) :
    Calls Tryz.prog 59 #[.int .i64 (s : Int), .int .i64 (n : Int)] w fun e w' => ∃ v, e = .returned v ∧ IntsN w.heap.size w' v (bitsList s n) ∧ Below w.heap.size w w' := by
  obtain ⟨p, hp⟩ : ∃ p : Nat → Bool, p = fun i => s.testBit i := ⟨_, rfl⟩
  have hW : Hid (bitsList s n = ((List.range n).filter p).map (fun (c : Nat) => (c : Int))) := by rw [hp]; exact (rfl : bitsList s n = _)
  generalize bitsList s n = r at hW ⊢
  have HP := Lib.hid hp
  clear hp
  go_enter Tryz.func59, Tryz.ntmps59
  go_wp2
  go_loopw [4, 7] (fun o i wr => ∃ (c : Nat), c ≤ n ∧ i = .int .i64 c ∧ wr.ownsRow w.heap.size 3 1 o (((List.range c).filter p).map (fun (c : Nat) => (c : Int))).length ((((List.range c).filter p).map (fun (c : Nat) => (c : Int))).map (Value.int .i64)) ∧ Below w.heap.size w wr) (fun _ i _ => n - (intOf i).toNat)
  case atStart => exact ⟨0, Nat.zero_le _, rfl, World.ownsRow_nil _ _ _ _, Below.refl _ _⟩
  case round =>
    obtain ⟨c, hc, rfl, hown, hB⟩ := hrel
    have hB1 := hB.size
    by_cases hlt : c < n
    · have hst := Lib.hid (keep_succ p c)
      have hkl := keep_len p c
      generalize hL : ((List.range c).filter p).map (fun (c : Nat) => (c : Int)) = L at hown hst hkl
      clear hL
      have hb := bit_and s hs c (by omega)
      have hpc : p c = s.testBit c := by rw [HP.out]
      rw [← hpc] at hb
      clear hpc
      generalize p c = bp at hst hb
      have hc64 : (c : Int) < 64 := by omega
      cases bp
      · go_wp2
        go_roundw
        case rel => exact ⟨c + 1, by omega, by go_num, by rw [hst.out]; simpa using hown, hB⟩
        case measure => simp [intOf]; omega
      · go_wp2_with (at_builtin; go_must (refine wpList_app (.tmp 15) (.tmp 17) E_int rfl rfl rfl rfl w.heap.size L.length 1 (L.map (Value.int .i64)) [.int .i64 (c : Int)] (hown.alloc _) (SrcAt.one _ _ _ rfl) (by omega) (by decide) (by simp; omega) ?_; intro v2 w2 ho2 hg2 _; (have hb2 := app_next hB (Nat.le_refl _) (Nat.le_refl _) hown hg2); clear hg2; simp only [Act.put, List.setIfInBounds_toArray, List.set_cons_succ, List.set_cons_zero]))
        go_roundw
        case rel => exact ⟨c + 1, by omega, by go_num, by rw [hst.out]; simpa using ho2, hb2⟩
        case measure => simp [intOf]; omega
    · obtain rfl : c = n := by omega
      go_wp2
      go_ret
      rw [hW.out]
      exact ⟨_, rfl, ints_ownN hown, hB⟩
theorem PNumbers_any (s n : Nat) (hs : s < 64) (hn : n ≤ 6) (w : World) :
    Calls Tryz.prog 59 #[.int .i64 (s : Int), .int .i64 (n : Int)] w fun e w' => ∃ v, e = .returned v ∧ IntsV w' v (bitsList s n) ∧ Below w.heap.size w w' :=
  (PNumbersN_any s n hs hn w).mono fun e w' ⟨v, h1, h2, h3⟩ => ⟨v, h1, h2.val, h3⟩
end Go.Proofs.YtklconegomgjaaaGreat
namespace Go.Proofs.YtklconegomgjaaaGreat
open Go Go.RowKit

def cmpI (x y : Int) : Int := if x < y then -1 else if y < x then 1 else 0

set_option maxHeartbeats 400000 in
theorem IsNaN_any (x : Int) (w : World) :
    Calls Tryz.prog 161 #[.int .i64 x] w fun e w' => e = .returned (.bool false) ∧ w' = w := by
  go_enter Tryz.func161, Tryz.ntmps161
  go_wp2
  go_ret
  exact ⟨ret_bool (by simp), rfl⟩

set_option maxHeartbeats 400000 in
theorem CmpInt_any (x y : Int) (w : World) :
    Calls Tryz.prog 118 #[.int .i64 x, .int .i64 y] w fun e w' => e = .returned (.int .i64 (cmpI x y)) ∧ w' = w := by
  have HN := Lib.hid (fun (x : Int) (W : World) => IsNaN_any x W)
  have HE : Hid (cmpI x y = if x < y then -1 else if y < x then 1 else 0) := rfl
  generalize cmpI x y = r at HE ⊢
  by_cases a1 : x < y
  · go_enter Tryz.func118, Tryz.ntmps118
    go_wp2_with (go_at_call 161; refine (HN.out _ _).mono ?_; rintro e w2 ⟨rfl, rfl⟩; dsimp only)
    go_ret
    exact ⟨ret_int (by rw [HE.out, if_pos a1]), rfl⟩
  · by_cases a2 : y < x
    all_goals
      go_enter Tryz.func118, Tryz.ntmps118
      go_wp2_with (go_at_call 161; refine (HN.out _ _).mono ?_; rintro e w2 ⟨rfl, rfl⟩; dsimp only)
      go_ret
      exact ⟨ret_int (by have := HE.out; split at this <;> (try split at this) <;> omega), rfl⟩

theorem less_at (l1 l2 : List Int) (j : Nat) (h1 : j < l1.length) (h2 : j < l2.length) :
    less (l1.drop j) (l2.drop j) = if l1[j] = l2[j] then less (l1.drop (j + 1)) (l2.drop (j + 1)) else decide (l1[j] < l2[j]) := by
  rw [List.drop_eq_getElem_cons h1, List.drop_eq_getElem_cons h2]
  simp only [less]

set_option maxHeartbeats 400000 in
theorem Cmp_any (a1 a2 : Option Addr) (l1 l2 : List Int) (c1 c2 : Nat) (w : World) (hl : l1.length = l2.length) (hl5 : l2.length ≤ 9223372036854775807) (h1 : IntsC w a1 l1) (h2 : IntsC w a2 l2) :
    Calls Tryz.prog 71 #[.slice a1 l1.length c1, .slice a2 l2.length c2] w fun e w' => ∃ k : Int, e = .returned (.int .i64 k) ∧ Hid (decide (k < 0) = less l1 l2) ∧ w' = w := by
  have HC := Lib.hid (fun (x y : Int) (W : World) => CmpInt_any x y W)
  obtain ⟨r, hr⟩ : ∃ r, r = less l1 l2 := ⟨_, rfl⟩
  rw [← hr]
  have h00 : Hid (less (l1.drop 0) (l2.drop 0) = r) := hr.symm
  clear hr
  go_enter Tryz.func71, Tryz.ntmps71
  go_wp2
  go_loop [11] (fun i => ∃ k : Nat, i = .int .i64 k ∧ k ≤ l1.length ∧ Hid (less (l1.drop k) (l2.drop k) = r)) (fun i => l1.length - (intOf i).toNat)
  case atStart => exact ⟨0, rfl, by omega, h00⟩
  case round =>
    obtain ⟨k, rfl, hk, hr⟩ := hrel
    by_cases hlt : k < l1.length
    · obtain ⟨b1, o1, rfl, hb1, hc1⟩ := h1 k hlt
      obtain ⟨b2, o2, rfl, hb2, hc2⟩ := h2 k (by omega)
      have hlt2 : k < l2.length := by omega
      have hst := Lib.hid ((less_at l1 l2 k hlt hlt2).symm.trans hr.out)
      generalize hx : l1[k] = x at hc1 hst
      generalize hy : l2[k] = y at hc2 hst
      clear hx hy
      have HK : Hid (cmpI x y = if x < y then -1 else if y < x then 1 else 0) := rfl
      have HC := fun W => HC.out x y W
      generalize cmpI x y = q at HC HK
      have HC := Lib.hid HC
      by_cases hq : q = 0
      · have g1 := nei_f hq
        go_wp2_with (go_at_call 118; refine (HC.out _).mono ?_; rintro e w2 ⟨rfl, rfl⟩; dsimp only)
        go_round
        case rel => exact ⟨k + 1, by go_num, by omega, Lib.hid (by rw [← hst.out]; have := HK.out; have e : x = y := (by split at this <;> (try split at this) <;> omega); rw [if_pos e])⟩
        case measure => simp [intOf]; omega
      · have g1 := nei_t hq
        go_wp2_with (go_at_call 118; refine (HC.out _).mono ?_; rintro e w2 ⟨rfl, rfl⟩; dsimp only)
        go_ret
        refine ⟨_, rfl, Lib.hid ?_, rfl⟩
        rw [← hst.out]
        have := HK.out
        have e : x ≠ y := by intro e; subst e; simp at this; exact hq this
        rw [if_neg e, decide_eq_decide]
        split at this <;> (try split at this) <;> omega
    · obtain rfl : k = l1.length := by omega
      go_wp2
      go_ret
      refine ⟨_, rfl, Lib.hid ?_, rfl⟩
      rw [← hr.out, List.drop_length, hl, List.drop_length]
      simp [less]
set_option maxHeartbeats 400000 in
theorem Cmp2_any (a1 a2 : Option Addr) (l1 l2 : List Int) (c1 c2 : Nat) (w : World) (hl : l1.length = l2.length) (hl5 : l2.length ≤ 9223372036854775807) (h1 : IntsC w a1 l1) (h2 : IntsC w a2 l2) :
    Calls Tryz.prog 71 #[.slice a1 l1.length c1, .slice a2 l2.length c2] w fun e w' => ∃ k : Int, e = .returned (.int .i64 k) ∧ Hid (decide (0 < k) = less l2 l1) ∧ w' = w := by
  have HC := Lib.hid (fun (x y : Int) (W : World) => CmpInt_any x y W)
  obtain ⟨r, hr⟩ : ∃ r, r = less l2 l1 := ⟨_, rfl⟩
  rw [← hr]
  have h00 : Hid (less (l2.drop 0) (l1.drop 0) = r) := hr.symm
  clear hr
  go_enter Tryz.func71, Tryz.ntmps71
  go_wp2
  go_loop [11] (fun i => ∃ k : Nat, i = .int .i64 k ∧ k ≤ l1.length ∧ Hid (less (l2.drop k) (l1.drop k) = r)) (fun i => l1.length - (intOf i).toNat)
  case atStart => exact ⟨0, rfl, by omega, h00⟩
  case round =>
    obtain ⟨k, rfl, hk, hr⟩ := hrel
    by_cases hlt : k < l1.length
    · obtain ⟨b1, o1, rfl, hb1, hc1⟩ := h1 k hlt
      obtain ⟨b2, o2, rfl, hb2, hc2⟩ := h2 k (by omega)
      have hlt2 : k < l2.length := by omega
      have hst := Lib.hid ((less_at l2 l1 k hlt2 hlt).symm.trans hr.out)
      generalize hx : l1[k] = x at hc1 hst
      generalize hy : l2[k] = y at hc2 hst
      clear hx hy
      have HK : Hid (cmpI x y = if x < y then -1 else if y < x then 1 else 0) := rfl
      have HC := fun W => HC.out x y W
      generalize cmpI x y = q at HC HK
      have HC := Lib.hid HC
      by_cases hq : q = 0
      · have g1 := nei_f hq
        go_wp2_with (go_at_call 118; refine (HC.out _).mono ?_; rintro e w2 ⟨rfl, rfl⟩; dsimp only)
        go_round
        case rel => exact ⟨k + 1, by go_num, by omega, Lib.hid (by rw [← hst.out]; have := HK.out; have e : y = x := (by split at this <;> (try split at this) <;> omega); rw [if_pos e])⟩
        case measure => simp [intOf]; omega
      · have g1 := nei_t hq
        go_wp2_with (go_at_call 118; refine (HC.out _).mono ?_; rintro e w2 ⟨rfl, rfl⟩; dsimp only)
        go_ret
        refine ⟨_, rfl, Lib.hid ?_, rfl⟩
        rw [← hst.out]
        have := HK.out
        have e : y ≠ x := by intro e; subst e; simp at this; exact hq this
        rw [if_neg e, decide_eq_decide]
        split at this <;> (try split at this) <;> omega
    · obtain rfl : k = l1.length := by omega
      go_wp2
      go_ret
      refine ⟨_, rfl, Lib.hid ?_, rfl⟩
      rw [← hr.out, List.drop_length, hl, List.drop_length]
      simp [less]

end Go.Proofs.YtklconegomgjaaaGreat
