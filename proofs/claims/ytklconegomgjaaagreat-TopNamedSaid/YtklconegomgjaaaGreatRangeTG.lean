/- What is proved here: sound strings as keys; what a book that is looked at knows, while it is looked at and behind it. No condition. -/
/- What is proved here: a law for a range over a function whose iterator keeps its state in cells of its own, the body leaving at its end alone. Over any program. -/
import Derived.Test.YtklconegomgjaaaGreatEaCanG
import Derived.Test.YtklconegomgjaaaGreatRef1AG
import Derived.WideKeyArr
import Derived.Test.YtklconegomgjaaaGreatChkG
import Derived.RangeFuncNested
import Derived.RangeFuncBound
import Derived.RangeFuncLeaves
set_option linter.unusedVariables false
set_option linter.unusedSimpArgs false
namespace Go.Proofs.YtklconegomgjaaaGreat
open Go Go.RowKit
theorem key_heard : Maps.Keyed Tryz.prog 95 := Maps.Keyed.of_law (deep_law (m := 3) (by omega) (by kernel_rfl) (by kernel_rfl) (by kernel_rfl))
theorem map_heard : Tryz.prog.underlying 142 = some (.map 95 3) := by kernel_rfl
theorem zero_intE (w : World) : (zeroValue 3).run Tryz.prog w = .ok (.int .i64 0) w := by kernel_rfl
theorem okI_smallE (n : Int) (h : 0 ≤ n) (h2 : n < 64000) : (Lit.int .i64 n).wf = true := by
  unfold Lit.wf
  have e1 : IntKind.min .i64 = -9223372036854775808 := by decide
  have e2 : IntKind.max .i64 = 9223372036854775807 := by decide
  simp only [e1, e2, Bool.and_eq_true, decide_eq_true_eq]
  omega
set_option maxRecDepth 100000 in
set_option maxHeartbeats 1000000 in
theorem key_ofE (a b c d e f : Int) (ha : 0 ≤ a ∧ a < 64000) (hb : 0 ≤ b ∧ b < 64000) (hc : 0 ≤ c ∧ c < 64000) (hd : 0 ≤ d ∧ d < 64000) (he : 0 ≤ e ∧ e < 64000) (hf : 0 ≤ f ∧ f < 64000) : ∃ l, keyOf Tryz.prog 95 (.agg #[.int .i64 a, .int .i64 b, .int .i64 c, .int .i64 d, .int .i64 e, .int .i64 f]) = some l := by
  have h1 : (match Tryz.prog.underlying 95 with | some (.struct fs) => (fs.toList.map fun f => (f.type, f.offset)) == [(3, 0), (93, 1)] && fs.all (fun f => f.name != "_") | _ => false) = true := by kernel_rfl
  have h2 : Tryz.prog.keyType 95 = true := by kernel_rfl
  have h3 : Value.formed Tryz.prog 95 (.agg #[.int .i64 a, .int .i64 b, .int .i64 c, .int .i64 d, .int .i64 e, .int .i64 f]) = true := by kernel_rfl
  have h4 : Tryz.prog.underlying 3 = some (.int .i64) := by kernel_rfl
  have h5 : Tryz.prog.cellsOf 3 = 1 := by kernel_rfl
  have h6 : Tryz.prog.cellsOf 95 = 6 := by kernel_rfl
  have h8 : Tryz.prog.cellsOf 93 = 5 := by kernel_rfl
  have h9 : Tryz.prog.underlying 93 = some (.array 5 3) := by kernel_rfl
  obtain ⟨n, h7⟩ : ∃ n, Tryz.prog.types.size = n + 1 + 1 := ⟨Tryz.prog.types.size - 2, by kernel_rfl⟩
  cases hu : Tryz.prog.underlying 95 with
  | none => rw [hu] at h1; cases h1
  | some kd =>
    rw [hu] at h1
    cases kd with
    | struct fs =>
      simp only [Bool.and_eq_true, beq_iff_eq] at h1
      obtain ⟨g1, g2⟩ := h1
      have e1 : ∀ (m : Nat) (x : Int), 0 ≤ x ∧ x < 64000 → Tryz.prog.keyLits (m + 1) 3 [.int .i64 x] = some [.int .i64 x] := fun m x hx => by
        unfold Program.keyLits
        simp only [h4, okI_smallE x hx.1 hx.2, and_self, if_true]
      have e3 : Tryz.prog.keyLits (n + 1 + 1) 93 [.int .i64 b, .int .i64 c, .int .i64 d, .int .i64 e, .int .i64 f] = some [.int .i64 b, .int .i64 c, .int .i64 d, .int .i64 e, .int .i64 f] := by
        unfold Program.keyLits
        rw [h9]
        simp only [h8, h5, List.length_cons, List.length_nil, Nat.zero_add, Nat.reduceAdd, if_true]
        rw [show List.range 5 = [0, 1, 2, 3, 4] from rfl]
        simp only [List.mapM_cons, List.mapM_nil, Nat.zero_mul, Nat.one_mul, Nat.reduceMul, List.drop_zero, List.drop_succ_cons, List.take_succ_cons, List.take_zero, e1 n b hb, e1 n c hc, e1 n d hd, e1 n e he, e1 n f hf]
        rfl
      unfold keyOf
      rw [hu]
      simp only [h2, h3, Bool.and_self, if_true, h7]
      unfold Program.keyLits
      rw [hu]
      have g3 : (Value.agg #[.int .i64 a, .int .i64 b, .int .i64 c, .int .i64 d, .int .i64 e, .int .i64 f]).cells.toList = [.int .i64 a, .int .i64 b, .int .i64 c, .int .i64 d, .int .i64 e, .int .i64 f] := rfl
      rw [g3]
      obtain ⟨L⟩ := fs
      simp only at g1 g2 ⊢
      match L, g1 with
      | [f0, f1], g1 =>
        simp only [List.map_cons, List.map_nil, List.cons.injEq, Prod.mk.injEq, and_true] at g1
        obtain ⟨⟨t0, o0⟩, t1, o1⟩ := g1
        simp only [h6, List.length_cons, List.length_nil, Nat.zero_add, Nat.reduceAdd, g2, and_self, if_true, List.mapM_cons, List.mapM_nil, t0, o0, t1, o1, h5, h8, List.drop_zero, List.drop_succ_cons, List.take_succ_cons, List.take_zero, e1 (n + 1) a ha, e3]
        exact ⟨_, rfl⟩
    | _ => simp at h1
/-- A sound string that can be. -/
def HeardOk (S : Nat) (h : List Int) : Prop := h.length ≤ 5 ∧ ∀ x ∈ h, 0 ≤ x ∧ x < (S : Int)
theorem hrd_ok {S : Nat} (hS : S ≤ 4) {h : List Int} (ho : HeardOk S h) (i : Nat) : 0 ≤ hrd h i ∧ hrd h i < 64000 := by
  unfold hrd
  by_cases hi : i < h.length
  · rw [List.getElem?_eq_getElem hi, Option.getD_some]
    have := ho.2 _ (List.getElem_mem hi)
    omega
  · rw [List.getElem?_eq_none (by omega)]
    simp
theorem key_hV {S : Nat} (hS : S ≤ 4) {h : List Int} (ho : HeardOk S h) : ∃ l, keyOf Tryz.prog 95 (heardV h) = some l :=
  key_ofE _ _ _ _ _ _ (by have := ho.1; omega) (hrd_ok hS ho 0) (hrd_ok hS ho 1) (hrd_ok hS ho 2) (hrd_ok hS ho 3) (hrd_ok hS ho 4)
theorem heard_inj {g h : List Int} (hg : g.length ≤ 5) (hh : h.length ≤ 5) (e : heardV g = heardV h) : g = h := by
  simp only [heardV, Value.agg.injEq, Array.mk.injEq, List.cons.injEq, Value.int.injEq, true_and, and_true] at e
  obtain ⟨e0, e1, e2, e3, e4, e5⟩ := e
  refine List.ext_getElem (by omega) fun i h1 h2 => ?_
  have key : hrd g i = hrd h i := by
    obtain rfl | rfl | rfl | rfl | rfl : i = 0 ∨ i = 1 ∨ i = 2 ∨ i = 3 ∨ i = 4 := by omega
    all_goals assumption
  unfold hrd at key
  rw [List.getElem?_eq_getElem h1, List.getElem?_eq_getElem h2] at key
  simpa using key
theorem strs_ok {b : EaB} (hv : EaValid b) {i : Nat} (hi : i < b.spells.length) {h : List Int} (hh : h ∈ strsN b i) : HeardOk b.sounds.toNat h := strsN_mem hv hi hh
/-- Which spellings have been found to be a sound string, while the spelling k is looked at. -/
def bitsMid (b : EaB) (k : Nat) (pre : List (List Int)) (h : List Int) : Nat := eaBits (fun i => (strsN b i).contains h) k ||| (if pre.contains h = true then 2 ^ k else 0)
def KnownM (b : EaB) (k : Nat) (pre : List (List Int)) (T : List (Value × Value)) : Prop :=
  ∃ E : List (List Int), T = E.map (fun h => (heardV h, Value.int .i64 (bitsMid b k pre h : Int))) ∧ E.Nodup ∧ ∀ h, h ∈ E ↔ (∃ i, i < k ∧ h ∈ strsN b i) ∨ h ∈ pre
/-- What is known behind it. -/
def KnownB (b : EaB) (T : List (Value × Value)) : Prop :=
  ∃ E : List (List Int), T = E.map (fun h => (heardV h, Value.int .i64 (ofN b h : Int))) ∧ E.Nodup ∧ ∀ h, h ∈ E ↔ ∃ i, i < b.spells.length ∧ h ∈ strsN b i
theorem known_nil (b : EaB) : KnownM b 0 [] [] := ⟨[], rfl, List.nodup_nil, fun h => by simp⟩
theorem known_next {b : EaB} {k : Nat} {T : List (Value × Value)} (h : KnownM b k (strsN b k) T) : KnownM b (k + 1) [] T := by
  obtain ⟨E, rfl, hn, hm⟩ := h
  refine ⟨E, ?_, hn, fun g => ?_⟩
  · refine List.map_congr_left fun g _ => ?_
    unfold bitsMid
    rw [eaBits]
    simp
  · rw [hm]
    constructor
    · rintro (⟨i, h1, h2⟩ | h1)
      · exact .inl ⟨i, by omega, h2⟩
      · exact .inl ⟨k, by omega, h1⟩
    · rintro (⟨i, h1, h2⟩ | h1)
      · by_cases e : i = k
        · subst e; exact .inr h2
        · exact .inl ⟨i, by omega, h2⟩
      · cases h1
theorem known_all {b : EaB} {T : List (Value × Value)} (h : KnownM b b.spells.length [] T) : KnownB b T := by
  obtain ⟨E, rfl, hn, hm⟩ := h
  refine ⟨E, ?_, hn, fun g => ?_⟩
  · refine List.map_congr_left fun g _ => ?_
    unfold bitsMid ofN
    simp
  · rw [hm]
    simp
theorem mid_lt {b : EaB} {k : Nat} (hk : k < 5) (pre : List (List Int)) (h : List Int) : bitsMid b k pre h < 32 := by
  have h1 := eaBits_lt (fun i => (strsN b i).contains h) k
  have h2 : 2 ^ k ≤ 2 ^ 4 := Nat.pow_le_pow_right (by omega) (by omega)
  unfold bitsMid
  refine Nat.or_lt_two_pow (n := 5) (by omega) ?_
  split
  · omega
  · decide
theorem mid_yes {b : EaB} {k : Nat} {pre : List (List Int)} {x : List Int} : bitsMid b k (pre ++ [x]) x = bitsMid b k pre x ||| 2 ^ k := by
  unfold bitsMid
  have h1 : (pre ++ [x]).contains x = true := by simp
  rw [if_pos h1]
  split
  · rw [Nat.or_assoc, Nat.or_self]
  · rw [Nat.or_zero]
theorem mid_no {b : EaB} {k : Nat} {pre : List (List Int)} {x h : List Int} (e : h ≠ x) : bitsMid b k (pre ++ [x]) h = bitsMid b k pre h := by
  unfold bitsMid
  have h1 : (pre ++ [x]).contains h = pre.contains h := by
    rw [Bool.eq_iff_iff]
    simp [e]
  rw [h1]
/-- One more sound string is found: where its entry is, or is made. -/
theorem known_step {b : EaB} (hv : EaValid b) {k : Nat} (hk : k < b.spells.length) {pre : List (List Int)} {x : List Int} (hx : x ∈ strsN b k) (hpre : ∀ y ∈ pre, y ∈ strsN b k) {T : List (Value × Value)} (h : KnownM b k pre T) :
    (∃ (j : Nat), T[j]? = some (heardV x, Value.int .i64 (bitsMid b k pre x : Int)) ∧ KnownM b k (pre ++ [x]) (T.set j (heardV x, Value.int .i64 ((bitsMid b k pre x ||| 2 ^ k : Nat) : Int)))) ∨
    ((∀ p ∈ T, p.1 ≠ heardV x) ∧ bitsMid b k pre x = 0 ∧ KnownM b k (pre ++ [x]) ((T ++ [(heardV x, Value.int .i64 0)]).set T.length (heardV x, Value.int .i64 ((0 ||| 2 ^ k : Nat) : Int)))) := by
  obtain ⟨E, rfl, hn, hm⟩ := h
  have hxo := strs_ok hv hk hx
  have hEo : ∀ g ∈ E, g.length ≤ 5 := fun g hg => by
    rcases (hm g).1 hg with ⟨i, h1, h2⟩ | h1
    · exact (strs_ok hv (by omega) h2).1
    · exact (strs_ok hv hk (hpre g h1)).1
  by_cases hxE : x ∈ E
  · obtain ⟨j, hj, rfl⟩ := List.getElem_of_mem hxE
    refine .inl ⟨j, by rw [List.getElem?_map, List.getElem?_eq_getElem hj]; rfl, E, ?_, hn, fun g => ?_⟩
    · rw [← mid_yes]
      refine List.ext_getElem (by simp) fun i h1 h2 => ?_
      rw [List.getElem_set]
      split
      · next e => subst e; simp
      · next e =>
        have h1' : i < E.length := by simpa using h1
        have hne : E[i] ≠ E[j] := by
          have hp := List.pairwise_iff_getElem.1 hn
          rcases Nat.lt_or_gt_of_ne e with g | g
          · exact fun e2 => hp j i hj h1' g e2.symm
          · exact hp i j h1' hj g
        have hmn := mid_no (b := b) (k := k) (pre := pre) hne
        rw [List.getElem_map, List.getElem_map]
        simp only [hmn]
    · rw [hm, List.mem_append, List.mem_singleton]
      constructor
      · rintro (h1 | h1)
        · exact .inl h1
        · exact .inr (.inl h1)
      · rintro (h1 | h1 | rfl)
        · exact .inl h1
        · exact .inr h1
        · exact (hm _).1 hxE
  · have hz : bitsMid b k pre x = 0 := by
      unfold bitsMid
      have h1 : eaBits (fun i => (strsN b i).contains x) k = 0 := by
        apply Nat.eq_of_testBit_eq
        intro i
        rw [eaBits_bit, Nat.zero_testBit]
        by_cases hi : i < k
        · have : (strsN b i).contains x = false := by
            rw [Bool.eq_false_iff]
            intro hc
            exact hxE ((hm x).2 (.inl ⟨i, hi, by simpa using hc⟩))
          simp only [this, Bool.and_false]
        · simp [hi]
      have h2 : pre.contains x = false := by
        rw [Bool.eq_false_iff]
        intro hc
        exact hxE ((hm x).2 (.inr (by simpa using hc)))
      rw [h1, h2]
      simp
    refine .inr ⟨fun p hp e => ?_, hz, E ++ [x], ?_, ?_, fun g => ?_⟩
    · obtain ⟨g, hg, rfl⟩ := List.mem_map.1 hp
      have := heard_inj (hEo g hg) hxo.1 e
      subst this
      exact hxE hg
    · rw [List.set_append_right _ _ (Nat.le_refl _), Nat.sub_self, List.set_cons_zero, List.map_append, List.map_singleton]
      congr 1
      · refine List.map_congr_left fun g hg => ?_
        rw [mid_no (fun e => by subst e; exact hxE hg)]
      · rw [mid_yes, hz]
    · rw [List.nodup_append]
      refine ⟨hn, by simp, fun a ha c hc => ?_⟩
      have : c = x := by simpa using hc
      subst this
      intro e
      subst e
      exact hxE ha
    · rw [List.mem_append, List.mem_singleton, hm, List.mem_append, List.mem_singleton, or_assoc]
theorem known_len {b : EaB} (hv : EaValid b) {k : Nat} (hk : k < b.spells.length) {pre : List (List Int)} (hpre : ∀ y ∈ pre, y ∈ strsN b k) {T : List (Value × Value)} (h : KnownM b k pre T) : T.length ≤ 2000 := by
  obtain ⟨E, rfl, hn, hm⟩ := h
  rw [List.length_map]
  have h1 := nodup_sub_len E (heardAll b.sounds.toNat) hn (fun g hg => by
    rw [mem_heardAll]
    rcases (hm g).1 hg with ⟨i, h1, h2⟩ | h1
    · exact strs_ok hv (by omega) h2
    · exact strs_ok hv hk (hpre g h1))
  have h2 : ∀ S : Fin 5, (heardAll S.1).length ≤ 2000 := by decide +kernel
  have h3 := hv.sounds
  have := h2 ⟨b.sounds.toNat, by omega⟩
  simp only at this
  omega
/-- A book that is looked at. -/
structure BookW (W : World) (bm bo : Nat) (a1 a2 : Option Addr) (k1 k2 : Nat) (b : EaB) : Prop where
  book : BookC W a1 a2 k1 k2 b
  blk : BkB W bm bo a1 a2 k1 k2 b
  map : ∃ T, MapV W Tryz.prog 95 bo T ∧ KnownB b T
theorem BookW.bm_lt {W : World} {bm bo : Nat} {a1 a2 : Option Addr} {k1 k2 : Nat} {b : EaB} (h : BookW W bm bo a1 a2 k1 k2 b) : bm < W.heap.size := lt_of_block h.blk
theorem BookW.bo_lt {W : World} {bm bo : Nat} {a1 a2 : Option Addr} {k1 k2 : Nat} {b : EaB} (h : BookW W bm bo a1 a2 k1 k2 b) : bo < W.heap.size := by
  obtain ⟨T, hT, _⟩ := h.map
  exact hT.lt
theorem BookW.below {W W' : World} {bm bo : Nat} {a1 a2 : Option Addr} {k1 k2 : Nat} {b : EaB} (h : BookW W bm bo a1 a2 k1 k2 b) (hb : Below W.heap.size W W') : BookW W' bm bo a1 a2 k1 k2 b := by
  obtain ⟨T, hT, hM⟩ := h.map
  exact ⟨h.book.mono hb, h.blk.same (hb.block _ h.bm_lt), T, hT.below hb hT.lt, hM⟩
@[reducible] def lookE (V : World) (bo : Nat) (x : List Int) (v : Nat) : Prop := (Instr.lookup 142 (.map (some bo)) (.agg #[.int .i64 (x.length : Int), .int .i64 (hrd x 0), .int .i64 (hrd x 1), .int .i64 (hrd x 2), .int .i64 (hrd x 3), .int .i64 (hrd x 4)]) false).run Tryz.prog V = .ok (.int .i64 (v : Int)) V
/-- The operations on the map by which one more sound string is found. -/
theorem known_ops {b : EaB} (hv : EaValid b) {k : Nat} (hk : k < b.spells.length) {pre : List (List Int)} {x : List Int} (hx : x ∈ strsN b k) (hpre : ∀ y ∈ pre, y ∈ strsN b k) {T : List (Value × Value)} (h : KnownM b k pre T) (bo : Nat) :
    ∃ v0 : Nat, v0 < 32 ∧ (∀ V, MapV V Tryz.prog 95 bo T → lookE V bo x v0) ∧
    ∀ V, MapV V Tryz.prog 95 bo T → ∃ (T1 : List (Value × Value)) (st : Nat) (V1 : World),
      (Instr.mapEntry 142 (.map (some bo)) (.agg #[.int .i64 (x.length : Int), .int .i64 (hrd x 0), .int .i64 (hrd x 1), .int .i64 (hrd x 2), .int .i64 (hrd x 3), .int .i64 (hrd x 4)])).run Tryz.prog V = .ok (.tuple #[.int .i64 (v0 : Int), .int .i64 ((st : Nat) : Int)]) V1 ∧ MapV V1 Tryz.prog 95 bo T1 ∧ V.grownBy V1 (some bo) ∧ V1.heap.size = V.heap.size ∧
      (∀ U, MapV U Tryz.prog 95 bo T1 → lookE U bo x v0) ∧
      ∀ U : World, U.heap[bo]? = V1.heap[bo]? → ∃ U1, (Instr.entryStore 142 (.map (some bo)) (.int .i64 ((st : Nat) : Int)) (.int .i64 ((v0 ||| 2 ^ k : Nat) : Int))).run Tryz.prog U = .ok () U1 ∧ (∃ T2, MapV U1 Tryz.prog 95 bo T2 ∧ KnownM b k (pre ++ [x]) T2) ∧ U.grownBy U1 (some bo) ∧ U1.heap.size = U.heap.size := by
  have hxo := strs_ok hv hk hx
  obtain ⟨kl, hkey⟩ := key_hV (by have := hv.sounds; omega) hxo
  have hml := mid_lt (b := b) (k := k) (by have := hv.ns; omega) pre x
  -- a key stands once
  have hone : ∀ {T' : List (Value × Value)}, (T'.map Prod.fst).Nodup → ∀ {i j : Nat} {u v : Value}, T'[i]? = some (heardV x, u) → T'[j]? = some (heardV x, v) → u = v := by
    intro T' hn i j u v hi hj
    have hp := List.pairwise_iff_getElem.1 hn
    obtain ⟨hi1, hi2⟩ := List.getElem?_eq_some_iff.1 hi
    obtain ⟨hj1, hj2⟩ := List.getElem?_eq_some_iff.1 hj
    by_cases e : i = j
    · subst e
      rw [hi] at hj
      exact (Prod.mk.inj (Option.some.inj hj)).2
    · have l1 : i < (T'.map Prod.fst).length := by simpa using hi1
      have l2 : j < (T'.map Prod.fst).length := by simpa using hj1
      rcases Nat.lt_or_gt_of_ne e with g | g
      · exact absurd (by rw [List.getElem_map, List.getElem_map, hi2, hj2]) (hp i j l1 l2 g)
      · exact absurd (by rw [List.getElem_map, List.getElem_map, hi2, hj2]) (hp j i l2 l1 g)
  have hnd : (T.map Prod.fst).Nodup := by
    obtain ⟨E, rfl, hn, hm⟩ := h
    rw [List.map_map, List.Nodup, List.pairwise_map]
    refine List.Pairwise.imp_of_mem (fun {g c} hg hc hne e => hne ?_) hn
    have ok : ∀ g ∈ E, g.length ≤ 5 := fun g hg => by
      rcases (hm g).1 hg with ⟨i, h1, h2⟩ | h1
      · exact (strs_ok hv (by omega) h2).1
      · exact (strs_ok hv hk (hpre g h1)).1
    exact heard_inj (ok g hg) (ok c hc) e
  refine ⟨bitsMid b k pre x, hml, ?_, ?_⟩
  · intro V hV
    rcases hV.get key_heard map_heard hkey (zero_intE V) with ⟨g1, g2⟩ | ⟨j, v, g1, g2⟩
    · rcases known_step hv hk hx hpre h with ⟨j, hj, _⟩ | ⟨_, hz, _⟩
      · exact absurd rfl (g1 _ (List.mem_of_getElem? hj))
      · unfold lookE
        rw [hz]
        exact g2
    · rcases known_step hv hk hx hpre h with ⟨j', hj, _⟩ | ⟨hno, _, _⟩
      · have := hone hnd g1 hj
        subst this
        exact g2
      · exact absurd rfl (hno _ (List.mem_of_getElem? g1))
  · intro V hV
    rcases hV.entry key_heard map_heard hkey (fun u => zero_intE u) with ⟨j, v0, st, V1, g1, g2, g3, g4, g5, g6⟩ | ⟨hno, st, V1, g2, g3, g4, g5, g6⟩
    · rcases known_step hv hk hx hpre h with ⟨j', hj, hK⟩ | ⟨hno, _, _⟩
      · have := hone hnd g1 hj
        subst this
        have hjj : j = j' := by
          have hp := List.pairwise_iff_getElem.1 hnd
          obtain ⟨hi1, hi2⟩ := List.getElem?_eq_some_iff.1 g1
          obtain ⟨hj1, hj2⟩ := List.getElem?_eq_some_iff.1 hj
          apply Classical.byContradiction
          intro e
          have l1 : j < (T.map Prod.fst).length := by simpa using hi1
          have l2 : j' < (T.map Prod.fst).length := by simpa using hj1
          rcases Nat.lt_or_gt_of_ne e with g | g
          · exact absurd (by rw [List.getElem_map, List.getElem_map, hi2, hj2]) (hp j j' l1 l2 g)
          · exact absurd (by rw [List.getElem_map, List.getElem_map, hi2, hj2]) (hp j' j l2 l1 g)
        subst hjj
        refine ⟨T, st, V1, g2, g3, g5, g6, fun U hU => ?_, fun U hU => ?_⟩
        · rcases hU.get key_heard map_heard hkey (zero_intE U) with ⟨q1, q2⟩ | ⟨j2, v, q1, q2⟩
          · exact absurd rfl (q1 _ (List.mem_of_getElem? g1))
          · have := hone hnd q1 g1
            subst this
            exact q2
        · obtain ⟨U1, r1, r2, r3, r4⟩ := (g3.same hU).entryStore (t := 142) (g4.same hU) g1 (val := .int .i64 ((bitsMid b k pre x ||| 2 ^ k : Nat) : Int))
          exact ⟨U1, r1, ⟨_, r2, hK⟩, r3, r4⟩
      · exact absurd rfl (hno _ (List.mem_of_getElem? g1))
    · rcases known_step hv hk hx hpre h with ⟨j', hj, hK⟩ | ⟨_, hz, hK⟩
      · exact absurd rfl (hno _ (List.mem_of_getElem? hj))
      · have hat : (T ++ [(heardV x, Value.int .i64 0)])[T.length]? = some (heardV x, Value.int .i64 0) := by simp
        have hnd2 : ((T ++ [(heardV x, Value.int .i64 0)]).map Prod.fst).Nodup := by
          rw [List.map_append, List.nodup_append]
          refine ⟨hnd, by simp, fun a ha c hc => ?_⟩
          obtain ⟨q, hq, rfl⟩ := List.mem_map.1 ha
          have : c = heardV x := by simpa using hc
          subst this
          exact hno q hq
        rw [hz]
        refine ⟨_, st, V1, g2, g3, g5, g6, fun U hU => ?_, fun U hU => ?_⟩
        · rcases hU.get key_heard map_heard hkey (zero_intE U) with ⟨q1, q2⟩ | ⟨j2, v, q1, q2⟩
          · exact absurd rfl (q1 _ (List.mem_of_getElem? hat))
          · have := hone hnd2 q1 hat
            subst this
            exact q2
        · obtain ⟨U1, r1, r2, r3, r4⟩ := (g3.same hU).entryStore (t := 142) (g4.same hU) hat (val := .int .i64 ((0 ||| 2 ^ k : Nat) : Int))
          exact ⟨U1, r1, ⟨_, r2, hK⟩, r3, r4⟩
end Go.Proofs.YtklconegomgjaaaGreat
namespace Go.Proofs.YtklconegomgjaaaGreat
open Go Go.RowKit

/-- What lay at or above B lies as it lay; what lies below may have turned. -/
structure Above (B : Nat) (W W' : World) : Prop where
  os : W'.os = W.os
  tape : W'.tape = W.tape
  output : W'.output = W.output
  size : W.heap.size ≤ W'.heap.size
  block : ∀ b, B ≤ b → b < W.heap.size → W'.heap[b]? = W.heap[b]?
theorem Above.refl (B : Nat) (W : World) : Above B W W := ⟨rfl, rfl, rfl, Nat.le_refl _, fun _ _ _ => rfl⟩
theorem Above.trans {B : Nat} {A C D : World} (h : Above B A C) (k : Above B C D) : Above B A D :=
  ⟨k.os.trans h.os, k.tape.trans h.tape, k.output.trans h.output, Nat.le_trans h.size k.size, fun b h1 h2 => (k.block b h1 (Nat.lt_of_lt_of_le h2 h.size)).trans (h.block b h1 h2)⟩
theorem Above.of_below {B : Nat} {W W' : World} (h : Below W.heap.size W W') : Above B W W' := ⟨h.os, h.tape, h.output, h.size, fun b _ h2 => h.block b h2⟩
theorem Above.of_grown {B : Nat} {W W' : World} {row : Option Nat} (h : W.grownBy W' row) (hr : ∀ r, row = some r → r < B) : Above B W W' :=
  ⟨h.os, h.tape, h.output, h.size, fun b h1 h2 => h.block b h2 (fun e => by have := hr b e.symm; omega)⟩
theorem Above.mono {B B' : Nat} {W W' : World} (h : Above B W W') (hb : B ≤ B') : Above B' W W' := ⟨h.os, h.tape, h.output, h.size, fun b h1 h2 => h.block b (by omega) h2⟩

/-- How the body of a round is left. -/
def roundT {α : Type} (B : Nat) (I : List α → World → Prop) (xs : List α) (W : World) : Exit → Act → World → Prop
  | .normal, _, W' => Above B W W' ∧ I xs W'
  | _, _, _ => False

theorem putObj_above {B l : Nat} {W : World} {o : Obj} (hl : l < B) : Above B W (W.putObj l o) := Above.of_grown (grownBy_putObj' W l o) (fun r e => by cases e; exact hl)

variable {P : Program}

/-- **An iterator that gives xs, its state in cells of its own.** B: what lies at or above it is the iterator's, or the loop's. -/
def SeqT {α : Type} (P : Program) (gf : Nat) (lb : Array Value) (encs : α → Array Value) (B : Nat) (Z : World → Prop) (xs : List α) (w : World) : Prop :=
  ∀ (l : Nat) (J : List α → World → Prop) (W : World), Below w.heap.size w W → w.heap.size ≤ W.heap.size → (∀ s A A', J s A → Below W.heap.size A A' → J s A') → (∀ s A, J s A → Z A) →
    (∀ pre x W1, J pre W1 → pre ++ [x] <+: xs → YieldAt Fence.wide 0 P l (encs x) W1 fun e W' => e = .returned (.bool true) ∧ J (pre ++ [x]) W' ∧ Above B W1 W') →
    J [] W → CallsIn Fence.wide 0 P gf (#[.func (.yield l) #[] #[]] ++ lb) W fun e W' => (∃ v, e = .returned v) ∧ J xs W'

theorem wpIn_rangeFunc_T {α : Type} {g : Operand} {ps : Array Tmp} {assign body : Code} {Q : Exit → Act → World → Prop} {a : Act} {w : World}
    {gf : Nat} {lb : Array Value} (hg : a.eval g = .func (.func gf) #[] lb) (eg : ∀ args w, (callFunc gf args).run P w = .ok (.enter gf args) w)
    {encs : α → Array Value} {Z : World → Prop} {B : Nat} {xs : List α} {w0 : World} (hseq : SeqT P gf lb encs B Z xs w0) (hb0 : Below w0.heap.size w0 w) (hB : B ≤ w.heap.size) (hps : ∀ x, (encs x).size = ps.size)
    (I : List α → World → Prop) (hI : ∀ s A A', I s A → Below B A A' → I s A') (hIZ : ∀ s A, I s A → Z A) (h0 : I [] w)
    (hround : ∀ (l : Nat) (pre : List α) (x : α) (W : World), w.heap.size < l → l < W.heap.size → I pre W → pre ++ [x] <+: xs →
      assign.wpIn (Fence.wide.inRound l) 0 P (Exit.then (fun a' Wa => Above B W Wa ∧ I pre Wa ∧ ∀ Wb, Wb.heap.size = Wa.heap.size → (∀ b, b ≠ l → Wb.heap[b]? = Wa.heap[b]?) → I pre Wb →
        body.wpIn (Fence.wide.inRound l) 0 P (roundT B I (pre ++ [x]) Wb) a' Wb) (fun _ _ _ => False)) { tmps := (ps.zip (encs x)).foldl (fun t (p, v) => t.setIfInBounds p v) a.tmps, defers := [] } W)
    (hdone : ∀ (D : Nat) (W : World), w.heap.size ≤ D → I xs W → W.heap[D]? = some (.deferred (some [])) → Q .normal { a with defers := { target := .collected D, args := #[] } :: a.defers } W) :
    (Code.rangeFunc g ps assign body).wpIn Fence.wide 0 P Q a w := by
  refine wpIn_rangeFunc ?_
  intro fn hfn
  rw [show Fence.wide.round = none from rfl]
  obtain ⟨rec, hrec⟩ : ∃ rec : LoopState → Option Code → Loop, rec = fun st pe => { state := st, pending := pe, fn, tmps := a.tmps, params := ps, assign, body, defers := w.heap.size } := ⟨_, rfl⟩
  obtain ⟨W1, hW1⟩ : ∃ W1, (w.alloc (.deferred (some []))).alloc (.loop (rec .ready none)) = W1 := ⟨_, rfl⟩
  have hL1 : W1.heap[w.heap.size + 1]? = some (.loop (rec .ready none)) := by
    rw [← hW1]; have := World.alloc_heap_new (w.alloc (.deferred (some []))) (.loop (rec .ready none)); rwa [World.size_alloc] at this
  have hK1 : W1.heap[w.heap.size]? = some (.deferred (some [])) := by
    rw [← hW1]; exact (Below.heap_alloc _ _ _ (by simp)).trans (World.alloc_heap_new w _)
  have hbw1 : Below w.heap.size w W1 := by
    rw [← hW1]; exact (((Below.refl _ w).alloc (Nat.le_refl _) _).alloc (by simp) _)
  have hsz1 : W1.heap.size = w.heap.size + 2 := by rw [← hW1]; simp
  have hI1 : I [] W1 := hI _ _ _ h0 (hbw1.mono hB)
  have hb1 : Below w0.heap.size w0 W1 := hb0.trans (hbw1.mono hb0.size)
  refine ⟨w.heap.size + 1, [{ target := .collected w.heap.size, args := #[] }], W1, { target := .fn (.func gf) lb, args := #[.func (.yield (w.heap.size + 1)) #[] #[]] }, W1, gf,
    #[.func (.yield (w.heap.size + 1)) #[] #[]] ++ lb, W1, ?_, ?_, ?_, ?_, fun h => (by cases h), ?_⟩
  · rw [← hW1, hrec]; exact run_enterLoop_outer _ _ _ _ _
  · simp only [resolve, hg]
    simp [go_sem]
  · intro f' hf'; trivial
  · simp [invoke, go_sem, eg]
  · refine (hseq (w.heap.size + 1)
      (fun pre W => I pre W ∧ W.heap[w.heap.size + 1]? = some (.loop (rec .ready none)) ∧ W.heap[w.heap.size]? = some (.deferred (some [])))
      W1 hb1 hb1.size
      (fun s A A' hs hb => ⟨hI s A A' hs.1 (hb.mono (by omega)), (hb.block _ (by omega)).trans hs.2.1, (hb.block _ (by omega)).trans hs.2.2⟩)
      (fun s A hs => hIZ s A hs.1)
      ?_ ⟨hI1, hL1, hK1⟩).mono ?_
    · rintro pre x W ⟨hi, hl, hk⟩ hpre
      have hlt : w.heap.size + 1 < W.heap.size := (Array.getElem?_eq_some_iff.1 hl).1
      have hy := run_yield (P := P) (args := encs x) hl (by rw [hrec]; exact hps x)
      rw [hrec] at hy
      refine ⟨fn, _, assign, body, hy, roundIn_of_wpIn hfn (wpIn_mono (hround _ pre x W (by omega) hlt hi hpre) ?_)⟩
      clear hy
      rintro e a' Wa he
      cases e with
      | normal =>
        obtain ⟨hab, hia, hbody⟩ := he
        have hla : Wa.heap[w.heap.size + 1]? = some (.loop (rec .ready none)) := (hab.block _ (by omega) hlt).trans hl
        have hka : Wa.heap[w.heap.size]? = some (.deferred (some [])) := (hab.block _ (by omega) (by omega)).trans hk
        have hlta : w.heap.size + 1 < Wa.heap.size := (Array.getElem?_eq_some_iff.1 hla).1
        refine ⟨_, run_beginRound hla (by rw [hrec]), ?_⟩
        have hl2 : (Wa.putObj (w.heap.size + 1) (.loop { rec .ready none with state := .busy })).heap[w.heap.size + 1]? = some (.loop { rec .ready none with state := .busy }) := World.putObj_heap_same hlta
        have hk2 : (Wa.putObj (w.heap.size + 1) (.loop { rec .ready none with state := .busy })).heap[w.heap.size]? = some (.deferred (some [])) := (World.putObj_heap_other (by omega)).trans hka
        have hbp : Below B Wa (Wa.putObj (w.heap.size + 1) (.loop { rec .ready none with state := .busy })) := (Below.refl B Wa).grown (grownBy_putObj' Wa _ _) (by omega) (fun k e => by cases e; omega)
        have hsp : ∀ o, (Wa.putObj (w.heap.size + 1) o).heap.size = Wa.heap.size := fun o => by simp [World.putObj]
        refine wpIn_mono (hbody _ (hsp _) (fun b hb => World.putObj_heap_other hb) (hI _ _ _ hia hbp)) ?_
        rintro e a3 W3 hp
        cases e with
        | normal =>
          obtain ⟨hab3, hi3⟩ := hp
          have hz3 : Wa.heap.size ≤ W3.heap.size := by have := hab3.size; rw [hsp] at this; exact this
          have hza := hab.size
          have hl3 : W3.heap[w.heap.size + 1]? = some (.loop { rec .ready none with state := .busy }) := (hab3.block _ (by omega) (by rw [hsp]; omega)).trans hl2
          have hk3 : W3.heap[w.heap.size]? = some (.deferred (some [])) := (hab3.block _ (by omega) (by rw [hsp]; omega)).trans hk2
          have hlt3 : w.heap.size + 1 < W3.heap.size := (Array.getElem?_eq_some_iff.1 hl3).1
          have hr := run_endRound (P := P) none hl3
          rw [hrec] at hr
          have hbp3 : Below B W3 (W3.putObj (w.heap.size + 1) (.loop (rec .ready none))) := (Below.refl B W3).grown (grownBy_putObj' W3 _ _) (by omega) (fun k e => by cases e; omega)
          have hl4 : (W3.putObj (w.heap.size + 1) (.loop (rec .ready none))).heap[w.heap.size + 1]? = some (.loop (rec .ready none)) := World.putObj_heap_same hlt3
          have hk4 : (W3.putObj (w.heap.size + 1) (.loop (rec .ready none))).heap[w.heap.size]? = some (.deferred (some [])) := (World.putObj_heap_other (by omega)).trans hk3
          have hi4 := hI _ _ _ hi3 hbp3
          have hfin : Above B W (W3.putObj (w.heap.size + 1) (.loop (rec .ready none))) := by
            have g := grownBy_putObj' W3 (w.heap.size + 1) (.loop (rec .ready none))
            have g2 := grownBy_putObj' Wa (w.heap.size + 1) (.loop { rec .ready none with state := .busy })
            refine ⟨g.os.trans (hab3.os.trans (g2.os.trans hab.os)), g.tape.trans (hab3.tape.trans (g2.tape.trans hab.tape)), g.output.trans (hab3.output.trans (g2.output.trans hab.output)), ?_, fun b hb1 hb2 => ?_⟩
            · have := g.size
              omega
            · by_cases hbl : b = w.heap.size + 1
              · subst hbl
                rw [hl4, hl]
              · rw [World.putObj_heap_other hbl, hab3.block b hb1 (by rw [hsp]; omega), World.putObj_heap_other hbl, hab.block b hb1 hb2]
          rw [hrec] at hi4 hl4 hk4 hfin
          rw [hrec]
          exact ⟨_, _, hr, rfl, ⟨hi4, hl4, hk4⟩, hfin⟩
        | ret => exact hp.elim
        | exit id => exact hp.elim
        | goto t => exact hp.elim
        | panic ch => exact hp.elim
        | outgrown => exact hp.elim
      | ret => exact he.elim
      | exit id => exact he.elim
      | goto t => exact he.elim
      | panic ch => exact he.elim
      | outgrown => exact he.elim
    · rintro e W2 ⟨⟨v, rfl⟩, hi, hl, hk⟩
      have hlt : w.heap.size + 1 < W2.heap.size := (Array.getElem?_eq_some_iff.1 hl).1
      refine ⟨none, _, by have := run_endLoop (P := P) hl (by rw [hrec]; simp); rw [hrec] at this; exact this, ?_⟩
      refine hdone _ _ (Nat.le_refl _) (hI _ _ _ hi ((Below.refl B W2).grown (grownBy_putObj' W2 _ _) (by omega) (fun k e => by cases e; omega))) ((World.putObj_heap_other (by omega)).trans hk)
end Go.Proofs.YtklconegomgjaaaGreat
