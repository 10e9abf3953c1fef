/- What is proved here: how a chest that is looked at lies in memory and stays: while memory grows, while its map learns. No condition. -/
import Derived.Test.YtcgplocmncionaaGreatTsG
import Derived.Test.YtcgplocmncionaaGreatChPG
import Derived.Test.YtcgplocmncionaaGreatSeMemG
set_option linter.unusedVariables false
set_option linter.unusedSimpArgs false
namespace Go.Proofs.YtcgplocmncionaaGreat
open Go Go.RowKit

/-- What somebody sees of the first so many copies. -/
def vwTo (c : ChH) (k p : Nat) : Nat := if p < c.people.length then maskTo (fun i => bitB (copyAt c i).may p) k else 0
def vw (c : ChH) (p : Nat) : Nat := vwTo c c.copies.length p
def vsTo (c : ChH) (k q p : Nat) : Nat := if p < q then vwTo c (k + 1) p else vwTo c k p
theorem vw_is {c : ChH} {p : Nat} (h : p < c.people.length) : vw c p = viewN c p := by unfold vw vwTo viewN; rw [if_pos h]
theorem vwTo_lt (c : ChH) (k p : Nat) : vwTo c k p < 2 ^ k := by
  unfold vwTo
  split
  · exact maskTo_lt _ _
  · exact Nat.two_pow_pos k
theorem vs_start (c : ChH) (k : Nat) : vsTo c k 0 = vwTo c k := funext fun p => if_neg (by omega)
theorem vs_end (c : ChH) (k : Nat) : vsTo c k c.people.length = vwTo c (k + 1) := funext fun p => by
  unfold vsTo
  split
  · rfl
  · next h => unfold vwTo; rw [if_neg h, if_neg h]
theorem vs_at (c : ChH) (k q : Nat) : vsTo c k q q = vwTo c k q := if_neg (by omega)
theorem vs_yes {c : ChH} {k q : Nat} (hq : q < c.people.length) (hb : bitB (copyAt c k).may q = true) : (fun p => if p = q then vwTo c k q ||| 2 ^ k else vsTo c k q p) = vsTo c k (q + 1) := funext fun p => by
  unfold vsTo
  by_cases h : p = q
  · subst h
    rw [if_pos rfl, if_pos (by omega)]
    unfold vwTo
    rw [if_pos hq, if_pos hq, maskTo, if_pos hb]
  · rw [if_neg h]
    by_cases h2 : p < q
    · rw [if_pos h2, if_pos (by omega)]
    · rw [if_neg h2, if_neg (by omega)]
theorem vs_no {c : ChH} {k q : Nat} (hb : bitB (copyAt c k).may q = false) : vsTo c k q = vsTo c k (q + 1) := funext fun p => by
  unfold vsTo
  by_cases h2 : p < q
  · rw [if_pos h2, if_pos (by omega)]
  · rw [if_neg h2]
    by_cases h : p = q
    · subst h
      rw [if_pos (by omega)]
      unfold vwTo
      by_cases hp : p < c.people.length
      · rw [if_pos hp, if_pos hp, maskTo, if_neg (by rw [hb]; decide), Nat.or_zero]
      · rw [if_neg hp, if_neg hp]
    · rw [if_neg (by omega)]
/-- The block of a chest that is looked at. -/
def CBlk (W : World) (bm bo : Nat) (ap ac ar : Option Addr) (kp kc kr : Nat) (c : ChH) (v : Nat → Nat) : Prop :=
  W.heap[bm]? = some (.cells #[.int .i64 c.words, .int .i64 c.facts, .slice ap c.people.length kp, .int .i64 c.last, .slice ac c.copies.length kc, .slice ar c.rules.length kr, .int .i64 (v 0 : Int), .int .i64 (v 1 : Int), .int .i64 (v 2 : Int), .map (some bo)] 100 (0, 0))
section
variable {W W' : World} {bm bo : Nat} {ap ac ar : Option Addr} {kp kc kr : Nat} {c : ChH} {v : Nat → Nat}
theorem CBlk.cells (h : CBlk W bm bo ap ac ar kp kc kr c v) : W.cell? ⟨bm, 0, none⟩ = some (.int .i64 c.words) ∧ W.cell? ⟨bm, 1, none⟩ = some (.int .i64 c.facts) ∧ W.cell? ⟨bm, 2, none⟩ = some (.slice ap c.people.length kp) ∧ W.cell? ⟨bm, 3, none⟩ = some (.int .i64 c.last) ∧ W.cell? ⟨bm, 4, none⟩ = some (.slice ac c.copies.length kc) ∧ W.cell? ⟨bm, 5, none⟩ = some (.slice ar c.rules.length kr) ∧
    W.cell? ⟨bm, 6, none⟩ = some (.int .i64 (v 0 : Int)) ∧ W.cell? ⟨bm, 7, none⟩ = some (.int .i64 (v 1 : Int)) ∧ W.cell? ⟨bm, 8, none⟩ = some (.int .i64 (v 2 : Int)) ∧ W.cell? ⟨bm, 9, none⟩ = some (.map (some bo)) ∧ bm < W.heap.size :=
  ⟨blk_cell 0 h rfl, blk_cell 1 h rfl, blk_cell 2 h rfl, blk_cell 3 h rfl, blk_cell 4 h rfl, blk_cell 5 h rfl, blk_cell 6 h rfl, blk_cell 7 h rfl, blk_cell 8 h rfl, blk_cell 9 h rfl, lt_of_block h⟩
theorem CBlk.view (h : CBlk W bm bo ap ac ar kp kc kr c v) {p : Nat} (hp : p < 3) : W.cell? ⟨bm, 6 + p, none⟩ = some (.int .i64 (v p : Int)) := by
  obtain ⟨_, _, _, _, _, _, h6, h7, h8, _⟩ := h.cells
  obtain rfl | rfl | rfl : p = 0 ∨ p = 1 ∨ p = 2 := by omega
  · exact h6
  · exact h7
  · exact h8
theorem CBlk.same (h : CBlk W bm bo ap ac ar kp kc kr c v) (e : W'.heap[bm]? = W.heap[bm]?) : CBlk W' bm bo ap ac ar kp kc kr c v := e.trans h
theorem CBlk.free (h : CBlk W bm bo ap ac ar kp kc kr c v) (j : Nat) : W.frozen? ⟨bm, j, none⟩ = false := blk_free j h
theorem CBlk.set (h : CBlk W bm bo ap ac ar kp kc kr c v) {p : Nat} (hp : p < 3) (x : Nat) : CBlk (W.setCell ⟨bm, 6 + p, none⟩ (.int .i64 (x : Int))) bm bo ap ac ar kp kc kr c (fun q => if q = p then x else v q) := by
  have := blk_set (6 + p) (.int .i64 (x : Int)) h
  unfold CBlk
  rw [this]
  obtain rfl | rfl | rfl : p = 0 ∨ p = 1 ∨ p = 2 := by omega
  all_goals rfl
end
/-- What a chest remembers: what is told from some sets of copies, each once. -/
def MemoC (c : ChH) (T : List (Value × Value)) : Prop := ∃ E : List Nat, T = E.map (fun (s : Nat) => (Value.int .i64 (s : Int), Value.int .i64 (tellN c s : Int))) ∧ E.Nodup ∧ ∀ s ∈ E, s < 64
theorem MemoC.len {c : ChH} {T : List (Value × Value)} (h : MemoC c T) : T.length ≤ 64 := by
  obtain ⟨E, rfl, hn, hb⟩ := h
  rw [List.length_map]
  exact nodup_lt 64 E hn hb
theorem memoC_nil (c : ChH) : MemoC c [] := ⟨[], rfl, List.nodup_nil, fun p h => by cases h⟩
theorem int_inj {a b : Nat} (h : Value.int .i64 (a : Int) = Value.int .i64 (b : Int)) : a = b := by
  simp only [Value.int.injEq, true_and] at h
  omega
theorem MemoC.more {c : ChH} {T : List (Value × Value)} (h : MemoC c T) (s : Nat) (h1 : s < 64) (hnew : ∀ p ∈ T, p.1 ≠ Value.int .i64 (s : Int)) : MemoC c (T ++ [(Value.int .i64 (s : Int), Value.int .i64 (tellN c s : Int))]) := by
  obtain ⟨E, rfl, hn, hb⟩ := h
  refine ⟨E ++ [s], by simp, ?_, fun p hp => ?_⟩
  · rw [List.nodup_append]
    refine ⟨hn, by simp, fun a ha b hb' => ?_⟩
    have : b = s := by simpa using hb'
    subst this
    intro e
    subst e
    exact hnew _ (List.mem_map.2 ⟨_, ha, rfl⟩) rfl
  · rcases List.mem_append.1 hp with hp | hp
    · exact hb p hp
    · have : p = s := by simpa using hp
      subst this
      exact h1
theorem MemoC.get {c : ChH} {T : List (Value × Value)} (h : MemoC c T) {s : Nat} {v : Value} (hv : (Value.int .i64 (s : Int), v) ∈ T) : v = Value.int .i64 (tellN c s : Int) := by
  obtain ⟨E, rfl, hn, hb⟩ := h
  obtain ⟨p, hp, e⟩ := List.mem_map.1 hv
  have e1 := int_inj (congrArg Prod.fst e)
  have e2 : Value.int .i64 (tellN c p : Int) = v := congrArg Prod.snd e
  rw [← e2, e1]
/-- A chest that is looked at. -/
structure ChestW (W : World) (bm bo : Nat) (ap ac ar : Option Addr) (kp kc kr : Nat) (c : ChH) : Prop where
  chest : ChestC W ap ac ar kp kc kr c
  blk : CBlk W bm bo ap ac ar kp kc kr c (vw c)
  map : ∃ T, MapV W Tryz.prog 3 bo T ∧ MemoC c T
section
variable {W W' : World} {bm bo : Nat} {ap ac ar : Option Addr} {kp kc kr : Nat} {c : ChH}
theorem ChestW.bo_lt (h : ChestW W bm bo ap ac ar kp kc kr c) : bo < W.heap.size := by
  obtain ⟨T, hT, _⟩ := h.map
  exact hT.lt
theorem ChestW.bm_lt (h : ChestW W bm bo ap ac ar kp kc kr c) : bm < W.heap.size := lt_of_block h.blk
theorem ChestW.other (h : ChestW W bm bo ap ac ar kp kc kr c) {b : Nat} {cs : Array Value} {t : TypeId} {x : Nat × Nat} (hb : W.heap[b]? = some (.cells cs t x)) : b ≠ bo := by
  obtain ⟨T, ⟨es, k, hm, _⟩, _⟩ := h.map
  intro e
  rw [e, hm] at hb
  cases hb
theorem ChestW.ne (h : ChestW W bm bo ap ac ar kp kc kr c) : bm ≠ bo := h.other h.blk
theorem ChestW.cellne (h : ChestW W bm bo ap ac ar kp kc kr c) {b o : Nat} {v : Value} (hb : W.cell? ⟨b, o, none⟩ = some v) : b ≠ bo := by
  obtain ⟨T, ⟨es, k, hm, _⟩, _⟩ := h.map
  intro e
  simp [World.cell?, e, hm] at hb
theorem ChestW.below (h : ChestW W bm bo ap ac ar kp kc kr c) (hb : Below W.heap.size W W') : ChestW W' bm bo ap ac ar kp kc kr c := by
  obtain ⟨T, hT, hM⟩ := h.map
  exact ⟨h.chest.mono hb, h.blk.same (hb.block _ h.bm_lt), T, hT.below hb hT.lt, hM⟩
theorem ChestW.keeps (h : ChestW W bm bo ap ac ar kp kc kr c) (hg : W.grownBy W' (some bo)) : Keeps W W' := by
  obtain ⟨T, ⟨es, k, hm, _⟩, _⟩ := h.map
  exact .of_grown hg hm
theorem ChestW.learn (h : ChestW W bm bo ap ac ar kp kc kr c) (hg : W.grownBy W' (some bo)) {T : List (Value × Value)} (hT : MapV W' Tryz.prog 3 bo T) (hM : MemoC c T) : ChestW W' bm bo ap ac ar kp kc kr c :=
  ⟨h.chest.keep (h.keeps hg), h.blk.same (hg.block _ h.bm_lt (fun e => h.ne (Option.some.inj e))), T, hT, hM⟩
end
theorem key_int : Maps.Keyed Tryz.prog 3 := Maps.int_keyed (q := .i64) (by kernel_rfl)
theorem map_int : Tryz.prog.underlying 98 = some (.map 3 3) := by kernel_rfl
theorem zero_int (w : World) : (zeroValue 3).run Tryz.prog w = .ok (.int .i64 0) w := by kernel_rfl
theorem key_num (n : Nat) (h : n < 64) : keyOf Tryz.prog 3 (.int .i64 (n : Int)) = some (.int .i64 (n : Int)) := Maps.keyOf_int_mk (q := .i64) (by kernel_rfl) (okI_nat n h)
end Go.Proofs.YtcgplocmncionaaGreat
