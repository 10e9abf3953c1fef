/- What is proved here: how a room that is looked at lies in memory and stays: while memory grows, while its map learns. No condition. -/
import Derived.Test.YtmhbjohpggghgaaSeMem
set_option linter.unusedVariables false
set_option linter.unusedSimpArgs false
namespace Go.Proofs.Ytmhbjohpggghgaa
open Go Go.RowKit

/-- The block of a room that is looked at. -/
def RBlk (W : World) (bm bo : Nat) (a1 a2 a3 a4 a5 : Option Addr) (k1 k2 k3 k4 k5 : Nat) (r : SeRoom) (sure but : Nat) : Prop :=
  W.heap[bm]? = some (.cells #[.slice a1 r.writers.length k1, .slice a2 r.kept.length k2, .slice a3 r.leaks.length k3, .slice a4 r.letters.length k4, .slice a5 r.heard.length k5, .int .i64 (sure : Int), .int .i64 (but : Int), .map (some bo)] 142 (0, 0))
theorem RBlk.cells {W : World} {bm bo : Nat} {a1 a2 a3 a4 a5 : Option Addr} {k1 k2 k3 k4 k5 : Nat} {r : SeRoom} {sure but : Nat} (h : RBlk W bm bo a1 a2 a3 a4 a5 k1 k2 k3 k4 k5 r sure but) :
    W.cell? ⟨bm, 0, none⟩ = some (.slice a1 r.writers.length k1) ∧ W.cell? ⟨bm, 1, none⟩ = some (.slice a2 r.kept.length k2) ∧ W.cell? ⟨bm, 2, none⟩ = some (.slice a3 r.leaks.length k3) ∧ W.cell? ⟨bm, 3, none⟩ = some (.slice a4 r.letters.length k4) ∧ W.cell? ⟨bm, 4, none⟩ = some (.slice a5 r.heard.length k5) ∧
    W.cell? ⟨bm, 5, none⟩ = some (.int .i64 (sure : Int)) ∧ W.cell? ⟨bm, 6, none⟩ = some (.int .i64 (but : Int)) ∧ W.cell? ⟨bm, 7, none⟩ = some (.map (some bo)) ∧ bm < W.heap.size :=
  ⟨blk_cell 0 h rfl, blk_cell 1 h rfl, blk_cell 2 h rfl, blk_cell 3 h rfl, blk_cell 4 h rfl, blk_cell 5 h rfl, blk_cell 6 h rfl, blk_cell 7 h rfl, lt_of_block h⟩
theorem RBlk.same {W W' : World} {bm bo : Nat} {a1 a2 a3 a4 a5 : Option Addr} {k1 k2 k3 k4 k5 : Nat} {r : SeRoom} {sure but : Nat} (h : RBlk W bm bo a1 a2 a3 a4 a5 k1 k2 k3 k4 k5 r sure but) (e : W'.heap[bm]? = W.heap[bm]?) : RBlk W' bm bo a1 a2 a3 a4 a5 k1 k2 k3 k4 k5 r sure but := e.trans h
theorem RBlk.free {W : World} {bm bo : Nat} {a1 a2 a3 a4 a5 : Option Addr} {k1 k2 k3 k4 k5 : Nat} {r : SeRoom} {sure but : Nat} (h : RBlk W bm bo a1 a2 a3 a4 a5 k1 k2 k3 k4 k5 r sure but) (j : Nat) : W.frozen? ⟨bm, j, none⟩ = false := blk_free j h

/-- What a room remembers: days of some sets of leaks and secrets, each once. -/
def MemoOk (r : SeRoom) (T : List (Value × Value)) : Prop := ∃ E : List (Nat × Nat), T = E.map (fun p => (askV p.1 p.2, arr4 (sinceP r p.1 p.2))) ∧ E.Nodup ∧ ∀ p ∈ E, p.1 < 16 ∧ p.2 < 4
theorem nodup_lt : ∀ (n : Nat) (l : List Nat), l.Nodup → (∀ x ∈ l, x < n) → l.length ≤ n
  | 0, l, _, h => by
    cases l with
    | nil => simp
    | cons a l => exact absurd (h a (by simp)) (by omega)
  | n + 1, l, hn, h => by
    have h1 := nodup_lt n (l.filter fun x => decide (x < n)) (List.filter_sublist.nodup hn) (fun x hx => by have := (List.mem_filter.1 hx).2; simpa using this)
    have h2 : (l.filter fun x => !decide (x < n)).length ≤ 1 := by
      have hs : ∀ x ∈ l.filter (fun x => !decide (x < n)), x = n := fun x hx => by
        have h3 := (List.mem_filter.1 hx).2
        have h4 := h x (List.mem_filter.1 hx).1
        simp at h3; omega
      have hd : (l.filter fun x => !decide (x < n)).Nodup := List.filter_sublist.nodup hn
      generalize l.filter (fun x => !decide (x < n)) = m at hs hd
      match m with
      | [] => simp
      | [a] => simp
      | a :: b :: m =>
        have ea := hs a (by simp)
        have eb := hs b (by simp)
        subst ea
        rw [List.nodup_cons] at hd
        exact absurd (by rw [eb]; simp) hd.1
    have h3 := List.length_eq_countP_add_countP (fun x => decide (x < n)) (l := l)
    rw [List.countP_eq_length_filter, List.countP_eq_length_filter] at h3
    have h4 : (l.filter fun x => !decide (x < n)) = l.filter (fun a => decide (¬(decide (a < n)) = true)) := List.filter_congr (fun x _ => by by_cases hx : x < n <;> simp [hx])
    rw [← h4] at h3
    omega
theorem MemoOk.len {r : SeRoom} {T : List (Value × Value)} (h : MemoOk r T) : T.length ≤ 64 := by
  obtain ⟨E, rfl, hn, hb⟩ := h
  have h1 := nodup_lt 64 (E.map fun p => p.1 * 4 + p.2) (by
    rw [List.Nodup, List.pairwise_map]
    refine List.Pairwise.imp_of_mem (fun {a b} ha hb' hne e => hne ?_) hn
    have := hb a ha
    have := hb b hb'
    exact Prod.ext (by omega) (by omega)) (fun x hx => by
      obtain ⟨p, hp, rfl⟩ := List.mem_map.1 hx
      have := hb p hp
      omega)
  simpa using h1
theorem memo_nil (r : SeRoom) : MemoOk r [] := ⟨[], rfl, List.nodup_nil, fun p h => by cases h⟩
theorem askV_inj {a b c d : Nat} (h : askV a b = askV c d) : a = c ∧ b = d := by
  simp only [askV, Value.agg.injEq, Array.mk.injEq, List.cons.injEq, Value.int.injEq, true_and, and_true] at h
  omega
theorem MemoOk.more {r : SeRoom} {T : List (Value × Value)} (h : MemoOk r T) (set s : Nat) (h1 : set < 16) (h2 : s < 4) (hnew : ∀ p ∈ T, p.1 ≠ askV set s) : MemoOk r (T ++ [(askV set s, arr4 (sinceP r set s))]) := by
  obtain ⟨E, rfl, hn, hb⟩ := h
  refine ⟨E ++ [(set, s)], by simp, ?_, fun p hp => ?_⟩
  · rw [List.nodup_append]
    refine ⟨hn, by simp, fun a ha b hb' => ?_⟩
    have : b = (set, s) := by simpa using hb'
    subst this
    intro e
    subst e
    exact hnew _ (List.mem_map.2 ⟨_, ha, rfl⟩) rfl
  · rcases List.mem_append.1 hp with hp | hp
    · exact hb p hp
    · have : p = (set, s) := by simpa using hp
      subst this
      exact ⟨h1, h2⟩
theorem MemoOk.get {r : SeRoom} {T : List (Value × Value)} (h : MemoOk r T) {set s : Nat} {v : Value} (hv : (askV set s, v) ∈ T) : v = arr4 (sinceP r set s) := by
  obtain ⟨E, rfl, hn, hb⟩ := h
  obtain ⟨p, hp, e⟩ := List.mem_map.1 hv
  have e1 := askV_inj (congrArg Prod.fst e)
  have e2 : arr4 (sinceP r p.1 p.2) = v := congrArg Prod.snd e
  rw [← e2, e1.1, e1.2]

/-- A room that is looked at. -/
structure RoomW (W : World) (bm bo : Nat) (a1 a2 a3 a4 a5 : Option Addr) (k1 k2 k3 k4 k5 : Nat) (r : SeRoom) (but : Nat) : Prop where
  room : RoomC W a1 a2 a3 a4 a5 k1 k2 k3 k4 k5 r
  blk : RBlk W bm bo a1 a2 a3 a4 a5 k1 k2 k3 k4 k5 r (sureTo r r.leaks.length) but
  map : ∃ T, MapV W Try.prog 113 bo T ∧ MemoOk r T
theorem RoomW.bo_lt {W : World} {bm bo : Nat} {a1 a2 a3 a4 a5 : Option Addr} {k1 k2 k3 k4 k5 : Nat} {r : SeRoom} {but : Nat} (h : RoomW W bm bo a1 a2 a3 a4 a5 k1 k2 k3 k4 k5 r but) : bo < W.heap.size := by
  obtain ⟨T, hT, _⟩ := h.map
  exact hT.lt
theorem RoomW.bm_lt {W : World} {bm bo : Nat} {a1 a2 a3 a4 a5 : Option Addr} {k1 k2 k3 k4 k5 : Nat} {r : SeRoom} {but : Nat} (h : RoomW W bm bo a1 a2 a3 a4 a5 k1 k2 k3 k4 k5 r but) : bm < W.heap.size := lt_of_block h.blk
theorem RoomW.ne {W : World} {bm bo : Nat} {a1 a2 a3 a4 a5 : Option Addr} {k1 k2 k3 k4 k5 : Nat} {r : SeRoom} {but : Nat} (h : RoomW W bm bo a1 a2 a3 a4 a5 k1 k2 k3 k4 k5 r but) : bm ≠ bo := by
  obtain ⟨T, ⟨es, c, hb, _⟩, _⟩ := h.map
  intro e
  have := h.blk
  unfold RBlk at this
  rw [e, hb] at this
  cases this
/-- A block of cells is not the map. -/
theorem RoomW.other {W : World} {bm bo : Nat} {a1 a2 a3 a4 a5 : Option Addr} {k1 k2 k3 k4 k5 : Nat} {r : SeRoom} {but : Nat} (h : RoomW W bm bo a1 a2 a3 a4 a5 k1 k2 k3 k4 k5 r but) {b : Nat} {cs : Array Value} {t : TypeId} {x : Nat × Nat} (hb : W.heap[b]? = some (.cells cs t x)) : b ≠ bo := by
  obtain ⟨T, ⟨es, c, hm, _⟩, _⟩ := h.map
  intro e
  rw [e, hm] at hb
  cases hb
theorem RoomW.cellne {W : World} {bm bo : Nat} {a1 a2 a3 a4 a5 : Option Addr} {k1 k2 k3 k4 k5 : Nat} {r : SeRoom} {but : Nat} (h : RoomW W bm bo a1 a2 a3 a4 a5 k1 k2 k3 k4 k5 r but) {b o : Nat} {v : Value} (hb : W.cell? ⟨b, o, none⟩ = some v) : b ≠ bo := by
  obtain ⟨T, ⟨es, c, hm, _⟩, _⟩ := h.map
  intro e
  simp [World.cell?, e, hm] at hb
theorem RoomW.below {W W' : World} {bm bo : Nat} {a1 a2 a3 a4 a5 : Option Addr} {k1 k2 k3 k4 k5 : Nat} {r : SeRoom} {but : Nat} (h : RoomW W bm bo a1 a2 a3 a4 a5 k1 k2 k3 k4 k5 r but) (hb : Below W.heap.size W W') : RoomW W' bm bo a1 a2 a3 a4 a5 k1 k2 k3 k4 k5 r but := by
  obtain ⟨T, hT, hM⟩ := h.map
  exact ⟨h.room.mono hb, h.blk.same (hb.block _ h.bm_lt), T, hT.below hb hT.lt, hM⟩
/-- Memory grows, the map may turn: what cells hold stays. -/
theorem RoomW.keeps {W W' : World} {bm bo : Nat} {a1 a2 a3 a4 a5 : Option Addr} {k1 k2 k3 k4 k5 : Nat} {r : SeRoom} {but : Nat} (h : RoomW W bm bo a1 a2 a3 a4 a5 k1 k2 k3 k4 k5 r but) (hg : W.grownBy W' (some bo)) : Keeps W W' := by
  obtain ⟨T, ⟨es, c, hm, _⟩, _⟩ := h.map
  exact .of_grown hg hm
theorem RoomW.learn {W W' : World} {bm bo : Nat} {a1 a2 a3 a4 a5 : Option Addr} {k1 k2 k3 k4 k5 : Nat} {r : SeRoom} {but : Nat} (h : RoomW W bm bo a1 a2 a3 a4 a5 k1 k2 k3 k4 k5 r but) (hg : W.grownBy W' (some bo)) {T : List (Value × Value)} (hT : MapV W' Try.prog 113 bo T) (hM : MemoOk r T) : RoomW W' bm bo a1 a2 a3 a4 a5 k1 k2 k3 k4 k5 r but :=
  ⟨h.room.keep (h.keeps hg), h.blk.same (hg.block _ h.bm_lt (fun e => h.ne (Option.some.inj e))), T, hT, hM⟩
theorem grown_set {w V : World} {row : Option Nat} (h : w.grownBy V row) (b j : Nat) (v : Value) (hb : w.heap.size ≤ b) : w.grownBy (V.setCell ⟨b, j, none⟩ v) row :=
  ⟨h.os, h.tape, h.output, by simpa using h.size, fun i hi hr => (Below.heap_setCell _ _ _ _ (fun e => by simp only at e; omega)).trans (h.block i hi hr)⟩
theorem map_set {V : World} {P : Program} {k : TypeId} {bo : Nat} {T : List (Value × Value)} (h : MapV V P k bo T) (b j : Nat) (v : Value) (hb : bo ≠ b) : MapV (V.setCell ⟨b, j, none⟩ v) P k bo T := h.same (Below.heap_setCell _ _ _ _ hb)
theorem grown_below {W W' : World} {row : Option Nat} (h : Below W.heap.size W W') : W.grownBy W' row := ⟨h.os, h.tape, h.output, h.size, fun i hi _ => h.block i hi⟩
theorem grown_trans {A B C : World} {bo : Nat} (h : A.grownBy B (some bo)) (k : B.grownBy C (some bo)) : A.grownBy C (some bo) := h.andThen k (fun j e => .inr (by simpa using e))
end Go.Proofs.Ytmhbjohpggghgaa
