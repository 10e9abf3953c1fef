/- What is proved here: the contract of ask, for a function that answers as a plain one does and keeps a word on memory. Conditions: the room is looked at and valid. -/
import Derived.Test.YtmhbjohpggghgaaSeEnter
set_option linter.unusedVariables false
set_option linter.unusedSimpArgs false
namespace Go.Proofs.Ytmhbjohpggghgaa
open Go Go.RowKit Go.Shelf
attribute [local go_sem] Oper.semAt_some

@[reducible] def qV (F : Nat) (caps : Array Value) : Value := .agg #[.func (.func F) #[] caps]
/-- ask's own cells. -/
structure AskC (W : World) (b F bm : Nat) (caps : Array Value) (yes all : Nat) : Prop where
  q : W.heap[b]? = some (.cells #[.func (.func F) #[] caps] 116 (0, 0))
  y : W.heap[b + 1]? = some (.cells #[.int .i64 (yes : Int)] 3 (0, 0))
  a : W.heap[b + 1 + 1]? = some (.cells #[.int .i64 (all : Int)] 3 (0, 0))
  c : W.heap[b + 1 + 1 + 1]? = some (.cells #[.pointer (some ⟨bm, 0, none⟩)] 105 (0, 0))
theorem AskC.same {W W' : World} {b F bm : Nat} {caps : Array Value} {yes all : Nat} (h : AskC W b F bm caps yes all) (e : ∀ i, b ≤ i → i ≤ b + 3 → W'.heap[i]? = W.heap[i]?) : AskC W' b F bm caps yes all :=
  ⟨(e _ (by omega) (by omega)).trans h.q, (e _ (by omega) (by omega)).trans h.y, (e _ (by omega) (by omega)).trans h.a, (e _ (by omega) (by omega)).trans h.c⟩
theorem AskC.lt {W : World} {b F bm : Nat} {caps : Array Value} {yes all : Nat} (h : AskC W b F bm caps yes all) : b + 3 < W.heap.size := by
  have := lt_of_block h.c
  omega
theorem AskC.cells {W : World} {b F bm : Nat} {caps : Array Value} {yes all : Nat} (h : AskC W b F bm caps yes all) :
    W.cell? ⟨b, 0, none⟩ = some (.func (.func F) #[] caps) ∧ W.cell? ⟨b + 1, 0, none⟩ = some (.int .i64 (yes : Int)) ∧ W.cell? ⟨b + 1 + 1, 0, none⟩ = some (.int .i64 (all : Int)) ∧ W.frozen? ⟨b + 1, 0, none⟩ = false ∧ W.frozen? ⟨b + 1 + 1, 0, none⟩ = false :=
  ⟨blk_cell 0 h.q rfl, blk_cell 0 h.y rfl, blk_cell 0 h.a rfl, blk_free 0 h.y, blk_free 0 h.a⟩
theorem AskC.sety {W : World} {b F bm : Nat} {caps : Array Value} {yes all : Nat} (h : AskC W b F bm caps yes all) (n : Nat) : AskC (W.setCell ⟨b + 1, 0, none⟩ (.int .i64 (n : Int))) b F bm caps n all :=
  ⟨(Below.heap_setCell _ _ _ _ (fun e => by simp only at e; omega)).trans h.q, blk_set 0 _ h.y, (Below.heap_setCell _ _ _ _ (fun e => by simp only at e; omega)).trans h.a, (Below.heap_setCell _ _ _ _ (fun e => by simp only at e; omega)).trans h.c⟩
theorem AskC.seta {W : World} {b F bm : Nat} {caps : Array Value} {yes all : Nat} (h : AskC W b F bm caps yes all) (n : Nat) : AskC (W.setCell ⟨b + 1 + 1, 0, none⟩ (.int .i64 (n : Int))) b F bm caps yes n :=
  ⟨(Below.heap_setCell _ _ _ _ (fun e => by simp only at e; omega)).trans h.q, (Below.heap_setCell _ _ _ _ (fun e => by simp only at e; omega)).trans h.y, blk_set 0 _ h.a, (Below.heap_setCell _ _ _ _ (fun e => by simp only at e; omega)).trans h.c⟩
theorem below_set (W : World) (B b j : Nat) (v : Value) (h : B ≤ b) : Below B W (W.setCell ⟨b, j, none⟩ v) := (Below.refl B W).setCell (by exact h) v

theorem below_put (W : World) (B b : Nat) (o : Obj) (h : B ≤ b) : Below B W (W.putObj b o) := ⟨rfl, rfl, rfl, by simp [World.putObj], fun i hi => World.putObj_heap_other (by omega)⟩
set_option maxRecDepth 100000 in
set_option maxHeartbeats 2000000 in
theorem SAsk_any (a1 a2 a3 a4 a5 : Option Addr) (k1 k2 k3 k4 k5 : Nat) (r : SeRoom) (bm bo F : Nat) (caps : Array Value) (f : Nat → Bool) (w : World) (hv : SeValid r) (hbo : bo < w.heap.size) (hCF : ∀ (xs : Array Value) (W : World), (callFunc F xs).run Try.prog W = .ok (.enter F xs) W) (J : List Nat → World → Prop)
    (hJ : ∀ s A A', J s A → Below w.heap.size A A' → J s A') (hJR : ∀ s A A', J s A → A.grownBy A' (some bo) → RoomW A' bm bo a1 a2 a3 a4 a5 k1 k2 k3 k4 k5 r 0 → J s A') (hJZ : ∀ s A, J s A → RoomW A bm bo a1 a2 a3 a4 a5 k1 k2 k3 k4 k5 r 0) (hj : J [] w)
    (hF : ∀ (pre : List Nat) (x : Nat) (W : World), J pre W → pre ++ [x] <+: truthsP r 0 → w.heap.size ≤ W.heap.size → Calls Try.prog F (#[.int .i64 (x : Int)] ++ caps) W fun e W' => e = .returned (.bool (f x)) ∧ J (pre ++ [x]) W' ∧ Above w.heap.size W W') :
    Calls Try.prog 78 #[.pointer (some ⟨bm, 0, none⟩), qV F caps] w fun e w' => e = .returned (.int .i64 (settled ((truthsP r 0).countP f) (truthsP r 0).length)) ∧ J (truthsP r 0) w' := by
  have TR := Lib.hid (fun W : World => STruths_any bm W)
  have hSE := STruths_seq a1 a2 a3 a4 a5 k1 k2 k3 k4 k5 r bm bo (w.heap.size + 1 + 1 + 1) 0 hv (by omega)
  have HJ := Lib.hid hJ
  have HJR := Lib.hid hJR
  have HJZ := Lib.hid hJZ
  have HF := Lib.hid hF
  clear hJ hJR hJZ hF
  obtain ⟨T, hT⟩ : ∃ T, T = truthsP r 0 := ⟨_, rfl⟩
  rw [← hT] at hSE HF ⊢
  have hT16 : T.length ≤ 16 := by
    rw [hT]
    have h1 : (truthsP r 0).length ≤ (List.range (2 ^ r.leaks.length)).length := List.length_filter_le _ _
    have := two_pow_le4 r.leaks.length hv.nl
    simp at h1
    omega
  clear hT
  obtain ⟨res, hres⟩ : ∃ res, res = settled (T.countP f) T.length := ⟨_, rfl⟩
  rw [← hres]
  have HRES := Lib.hid hres
  clear hres
  refine (callsIn_wide (n := 0)).1 ?_
  refine callsIn_of_wp_marks Try.func78 rfl trivial ?_ rfl
  simp only [Try.ntmps78, List.size_toArray, List.length_cons, List.length_nil, Nat.reduceAdd, Nat.reduceSub, Array.replicate_succ, Array.replicate_zero, List.push_toArray, List.append_toArray, List.nil_append, List.cons_append]
  refine (wpIn_wide (n := 0)).2 ?_
  go_wp2_with (go_at_call 113; go_must ((with_reducible refine (TR.out _).mono ?_); rintro e w3 ⟨rfl, rfl⟩; dsimp only))
  obtain ⟨X, hX⟩ : ∃ X : World, X = (((w.alloc (.cells #[.func (.func F) #[] caps] 116)).alloc (.cells #[.int .i64 0] 3)).alloc (.cells #[.int .i64 0] 3)).alloc (.cells #[.pointer (some ⟨bm, 0, none⟩)] 105) := ⟨_, rfl⟩
  have hsz : X.heap.size = w.heap.size + 1 + 1 + 1 + 1 := by rw [hX]; simp
  have hb0 : Below w.heap.size w X := by rw [hX]; exact ((((Below.refl _ w).alloc (Nat.le_refl _) _).alloc (by first | omega | (simp <;> omega)) _).alloc (by first | omega | (simp <;> omega)) _).alloc (by first | omega | (simp <;> omega)) _
  have hA0 : AskC X w.heap.size F bm caps 0 0 := by
    rw [hX]
    refine ⟨?_, ?_, ?_, ?_⟩
    · exact (heap_alloc_old _ _ (by first | omega | (simp <;> omega))).trans ((heap_alloc_old _ _ (by first | omega | (simp <;> omega))).trans ((heap_alloc_old _ _ (by simp)).trans (alloc_at _ _ rfl)))
    · exact (heap_alloc_old _ _ (by first | omega | (simp <;> omega))).trans ((heap_alloc_old _ _ (by simp)).trans (alloc_at _ _ (by simp)))
    · exact (heap_alloc_old _ _ (by simp)).trans (alloc_at _ _ (by simp))
    · exact alloc_at _ _ (by simp)
  have hrc : (((w.alloc (.cells #[.func (.func F) #[] caps] 116)).alloc (.cells #[.int .i64 0] 3)).alloc (.cells #[.int .i64 0] 3)).heap.size = w.heap.size + 1 + 1 + 1 := by simp
  rw [← hX, hrc]
  clear hX hrc
  refine (wpIn_wide (n := 0)).1 ?_
  refine wpIn_rangeFunc_M (gf := 119) (lb := #[.pointer (some ⟨w.heap.size + 1 + 1 + 1, 0, none⟩)]) rfl (enters_of Try.func119 (by kernel_rfl) rfl) hSE (fun _ => rfl)
    (fun A A' h => Above.of_grown h.1 (fun r e => by have := Option.some.inj e; omega))
    (fun pre W => J pre W ∧ AskC W w.heap.size F bm caps (pre.countP f) pre.length) (fun _ _ _ => False)
    (fun s A A' h hb => ⟨HJ.out s A A' h.1 (hb.mono (by omega)), h.2.same (fun i h1 h2 => hb.block i (by omega))⟩)
    (fun _ _ _ _ h _ => h.elim)
    (fun s A A' h hR => ⟨HJR.out s A A' h.1 hR.1 hR.2, h.2.same (fun i h1 h2 => hR.1.block i (by have := h.2.lt; omega) (fun e => by have := Option.some.inj e; omega))⟩)
    (fun _ _ _ _ h _ => h.elim)
    (fun s A h => ⟨HJZ.out s A h.1, h.2.c⟩) (fun _ _ _ h => h.elim)
    ⟨HJ.out _ _ _ hj hb0, hA0⟩ ?round ?done ?stop
  case round =>
    intro l pre x W hl1 hl2 hI hpre
    have hpl := hpre.length_le
    rw [List.length_append, List.length_singleton] at hpl
    have hyl := List.countP_le_length (p := f) (l := pre)
    gi_wp2
    refine ⟨Above.refl _ _, hI, ?_⟩
    intro Wb hs2 hblk hIb
    clear hI
    obtain ⟨hJ1, hA1⟩ := hIb
    have hz1 := hA1.lt
    have HC := Lib.hid (HF.out pre x (Wb.setCell ⟨w.heap.size + 1 + 1, 0, none⟩ (.int .i64 ((pre.length : Int) + 1))) (HJ.out _ _ _ hJ1 (below_set _ _ _ _ _ (by omega))) hpre (by simp; omega))
    have hA2 : AskC (Wb.setCell ⟨w.heap.size + 1 + 1, 0, none⟩ (.int .i64 ((pre.length : Int) + 1))) w.heap.size F bm caps (pre.countP f) (pre.length + 1) := hA1.seta (pre.length + 1)
    have HL : Hid ((pre ++ [x]).length = pre.length + 1) := Lib.hid (by simp)
    have HY : Hid ((pre ++ [x]).countP f = pre.countP f + if f x then 1 else 0) := Lib.hid (by rw [List.countP_append]; simp [List.countP_cons])
    obtain ⟨c0, c1, c2, f1, f2⟩ := hA1.cells
    generalize pre.countP f = yes at *
    generalize pre.length = all at *
    generalize f x = fx at *
    have hA2' := Lib.hid hA2
    clear hA2
    cases fx
    · gi_wp2
      refine ⟨trivial, rfl, ((CallsIn.inRound l (callsIn_wide.2 HC.out)).mono ?_)⟩
      rintro e w2 ⟨rfl, hJ2, hab⟩
      have hA3 : AskC w2 w.heap.size F bm caps yes (all + 1) := hA2'.out.same (fun i h1 h2 => hab.block i h1 (by simp; omega))
      gi_wp2
      exact ⟨((above_set X.heap.size Wb _ _ _ (by omega)).trans (hab.mono (by omega))), hJ2, by rw [HL.out, HY.out]; exact hA3⟩
    · gi_wp2
      refine ⟨trivial, rfl, ((CallsIn.inRound l (callsIn_wide.2 HC.out)).mono ?_)⟩
      rintro e w2 ⟨rfl, hJ2, hab⟩
      have hA3 : AskC w2 w.heap.size F bm caps yes (all + 1) := hA2'.out.same (fun i h1 h2 => hab.block i h1 (by simp; omega))
      have hA4 := Lib.hid (hA3.sety (yes + 1))
      have hJ4 := Lib.hid (HJ.out _ _ _ hJ2 (below_set _ _ (w.heap.size + 1) 0 (.int .i64 ((yes : Int) + 1)) (by omega)))
      obtain ⟨c0, c1, c2, f1, f2⟩ := hA3.cells
      have z3 := hA3.lt
      gi_wp2
      exact ⟨((above_set X.heap.size Wb _ _ _ (by omega)).trans (hab.mono (by omega))).trans (above_set _ _ _ _ _ (by omega)), hJ4.out, by rw [HL.out, HY.out]; exact hA4.out⟩
  case done =>
    intro D W hD hI hK
    obtain ⟨hJ1, hA1⟩ := hI
    have hJ2 := HJ.out _ _ (W.putObj D (.deferred none)) hJ1 (below_put _ _ _ _ (by omega))
    have hyl := List.countP_le_length (p := f) (l := T)
    have HS : Hid (res = if T.countP f = T.length then 1 else if T.countP f = 0 then 2 else 0) := Lib.hid HRES.out
    clear HRES
    obtain ⟨c0, c1, c2, f1, f2⟩ := hA1.cells
    have z1 := hA1.lt
    generalize T.countP f = yes at *
    generalize T.length = all at *
    by_cases h1 : yes = all
    · have g1 := eqn_t h1
      replace HS := Lib.hid (HS.out.trans (if_pos h1))
      clear h1
      go_wp2
      refine ⟨by simp, .inl ⟨_, _, rfl, run_takeDeferred hK, ?_⟩⟩
      refine ⟨_, results_tmp rfl _ _ _, ?_, hJ2⟩; exact ret_int HS.out.symm
    · have g1 := eqn_f h1
      replace HS := Lib.hid (HS.out.trans (if_neg h1))
      clear h1
      by_cases h2 : yes = 0
      · have g2 : ((yes : Int) == 0) = true := by simp [h2]
        replace HS := Lib.hid (HS.out.trans (if_pos h2))
        clear h2
        go_wp2
        refine ⟨by simp, .inl ⟨_, _, rfl, run_takeDeferred hK, ?_⟩⟩
        refine ⟨_, results_tmp rfl _ _ _, ?_, hJ2⟩; exact ret_int HS.out.symm
      · have g2 : ((yes : Int) == 0) = false := by simp; omega
        replace HS := Lib.hid (HS.out.trans (if_neg h2))
        clear h2
        go_wp2
        refine ⟨by simp, .inl ⟨_, _, rfl, run_takeDeferred hK, ?_⟩⟩
        refine ⟨_, results_tmp rfl _ _ _, ?_, hJ2⟩; exact ret_int HS.out.symm
  case stop =>
    intro D c pre W hD hI hK
    exact hI.elim
end Go.Proofs.Ytmhbjohpggghgaa
