/- What is proved here: the contracts of fine, two, settled of layer 3. Conditions: two mentions that differ. -/
/- What is proved here: the contract of Same of layer 3. Conditions: the town is valid; two mentions that differ. -/
/- What is proved here: the contract of wider of layer 3. No condition. -/
import Derived.Test.YtklconegomgjaaaGreatPeSomG
import Derived.Test.YtklconegomgjaaaGreatEaFlawG
import Derived.Sort.CutIn
import Derived.Test.YtklconegomgjaaaGreatPeYearLG
import Derived.Laws.ResultCell
set_option linter.unusedVariables false
set_option linter.unusedSimpArgs false
namespace Go.Proofs.YtklconegomgjaaaGreat
open Go Go.RowKit Go.Shelf

theorem PFine_any (w : World) : Calls Tryz.prog 78 #[] w fun e w' => e = .returned (.int .i64 0) ∧ w' = w := by
  go_enter Tryz.func78, Tryz.ntmps78
  go_wp2
  go_ret
  exact ⟨rfl, rfl⟩
theorem PSettled_any (s a : Nat) (w : World) : Calls Tryz.prog 45 #[.int .i64 (s : Int), .int .i64 (a : Int)] w fun e w' => e = .returned (.int .i64 (settledN s a)) ∧ w' = w := by
  unfold settledN
  by_cases h : s = a
  · have e1 := eqn_t h
    rw [if_pos h]
    clear h
    go_enter Tryz.func45, Tryz.ntmps45
    go_wp2
    go_ret
    exact ⟨rfl, rfl⟩
  · have e1 := eqn_f h
    rw [if_neg h]
    by_cases h2 : s = 0
    · have e2 : ((s : Int) == 0) = true := eqi_t (by omega)
      rw [if_pos h2]
      clear h h2
      go_enter Tryz.func45, Tryz.ntmps45
      go_wp2
      go_ret
      exact ⟨rfl, rfl⟩
    · have e2 : ((s : Int) == 0) = false := eqi_f (by omega)
      rw [if_neg h2]
      clear h h2
      go_enter Tryz.func45, Tryz.ntmps45
      go_wp2
      go_ret
      exact ⟨rfl, rfl⟩
set_option maxRecDepth 100000 in
set_option maxHeartbeats 1000000 in
theorem PTwo_any (a1 a2 a3 a4 : Option Addr) (k1 k2 k3 k4 : Nat) (t : PeW) (a b : Nat) (w : World) : Calls Tryz.prog 40 #[(.agg #[.int .i64 t.ear.sounds, .slice a1 t.ear.alphas.length k1, .slice a2 t.ear.spells.length k2, .int .i64 t.vills, .slice a3 t.ments.length k3, .slice a4 t.ties.length k4]), .int .i64 (a : Int), .int .i64 (b : Int)] w fun e w' => e = .returned (.func (.func 91) #[] #[.pointer (some ⟨w.heap.size, 0, none⟩), .pointer (some ⟨w.heap.size + 1, 0, none⟩), .pointer (some ⟨w.heap.size + 1 + 1, 0, none⟩)]) ∧ w' = ((w.alloc (.cells #[.int .i64 t.ear.sounds, .slice a1 t.ear.alphas.length k1, .slice a2 t.ear.spells.length k2, .int .i64 t.vills, .slice a3 t.ments.length k3, .slice a4 t.ties.length k4] 29)).alloc (.cells #[.int .i64 (a : Int)] 3)).alloc (.cells #[.int .i64 (b : Int)] 3) := by
  go_enter Tryz.func40, Tryz.ntmps40
  go_wp2
  go_ret
  exact ⟨by simp, rfl⟩
set_option maxRecDepth 100000 in
set_option maxHeartbeats 1000000 in
theorem PTwo1_any (a1 a2 a3 a4 : Option Addr) (k1 k2 k3 k4 : Nat) (t : PeW) (p0 p1 p2 a b : Nat) (w : World) (hab : a ≠ b) (ha : a < t.ments.length) (hb : b < t.ments.length) (hn : t.ments.length ≤ 6) (h0 : w.cell? ⟨p0, 4, none⟩ = some (.slice a3 t.ments.length k3)) (h1 : w.cell? ⟨p1, 0, none⟩ = some (.int .i64 (a : Int))) (h2 : w.cell? ⟨p2, 0, none⟩ = some (.int .i64 (b : Int))) :
    Calls Tryz.prog 91 #[.pointer (some ⟨p0, 0, none⟩), .pointer (some ⟨p1, 0, none⟩), .pointer (some ⟨p2, 0, none⟩)] w fun e w' => e = .returned (.int .i64 0) ∧ Below w.heap.size w w' := by
  have B4 := Lib.hid (fun x V h => POffOk2 (a : Int) (b : Int) 0 ((t.ments.length : Int) - 1) ⟨by omega, by omega⟩ ⟨by omega, by omega⟩ x V h)
  have e1 := eqn_f hab
  have z0 := lt_of_cell h0
  have z1 := lt_of_cell h1
  have z2 := lt_of_cell h2
  clear hab ha hb
  go_enter Tryz.func91, Tryz.ntmps91
  go_upto_region 2 with (go_at_call 81; go_must ((with_reducible refine (B4.out _ _ ?_ ?_).mono ?_); (simp); (simp); rintro e w3 ⟨rfl, hb3⟩; have hB3 := ((Below.refl _ w).alloc (Nat.le_refl _) (.cells #[.int .i64 (a : Int), .int .i64 (b : Int)] 3)).trans (hb3.mono (by simp)); replace h1 := cell_below hB3 h1; replace h2 := cell_below hB3 h2; replace z1 := Nat.lt_of_lt_of_le z1 hB3.size; replace z2 := Nat.lt_of_lt_of_le z2 hB3.size; dsimp only))
  go_wp2
  go_ret
  exact ⟨rfl, hB3⟩
end Go.Proofs.YtklconegomgjaaaGreat
namespace Go.Proofs.YtklconegomgjaaaGreat
open Go Go.RowKit Go.Shelf
attribute [local go_sem] Oper.semAt_some

theorem PEnter_none (a1 a2 a3 a4 : Option Addr) (k1 k2 k3 k4 : Nat) (t : PeW) (F : Nat) (caps : Array Value) (w : World) (hm : TownC w a1 a2 a3 a4 k1 k2 k3 k4 t) (hv : PeValid t) (hCF : ∀ (xs : Array Value) (W : World), (callFunc F xs).run Tryz.prog W = .ok (.enter F xs) W)
    (hF : ∀ V, Below w.heap.size w V → Calls Tryz.prog F caps V fun e w' => e = .returned (.int .i64 0) ∧ Below V.heap.size V w') (hne : fairL t 0 = []) :
    Calls Tryz.prog 43 #[(.agg #[.int .i64 t.ear.sounds, .slice a1 t.ear.alphas.length k1, .slice a2 t.ear.spells.length k2, .int .i64 t.vills, .slice a3 t.ments.length k3, .slice a4 t.ties.length k4]), .func (.func F) #[] caps] w fun e w' => e = .returned (.tuple #[.pointer none, .int .i64 8]) ∧ Below w.heap.size w w' :=
  (PEnter_any a1 a2 a3 a4 k1 k2 k3 k4 t F caps w hm hv hCF hF).mono fun e w' h => h.elim (fun h => h.2) (fun h => absurd hne h.1)
theorem PEnter_some (a1 a2 a3 a4 : Option Addr) (k1 k2 k3 k4 : Nat) (t : PeW) (F : Nat) (caps : Array Value) (w : World) (hm : TownC w a1 a2 a3 a4 k1 k2 k3 k4 t) (hv : PeValid t) (hCF : ∀ (xs : Array Value) (W : World), (callFunc F xs).run Tryz.prog W = .ok (.enter F xs) W)
    (hF : ∀ V, Below w.heap.size w V → Calls Tryz.prog F caps V fun e w' => e = .returned (.int .i64 0) ∧ Below V.heap.size V w') (hne : fairL t 0 ≠ []) :
    Calls Tryz.prog 43 #[(.agg #[.int .i64 t.ear.sounds, .slice a1 t.ear.alphas.length k1, .slice a2 t.ear.spells.length k2, .int .i64 t.vills, .slice a3 t.ments.length k3, .slice a4 t.ties.length k4]), .func (.func F) #[] caps] w fun e w' => ∃ bt bc bk : Nat, e = .returned (.tuple #[.pointer (some ⟨bt, 0, none⟩), .int .i64 0]) ∧ TownW w' bt bc bk a1 a2 a3 a4 k1 k2 k3 k4 t 0 ∧ Below w.heap.size w w' ∧ w.heap.size ≤ bt ∧ w.heap.size ≤ bc ∧ w.heap.size ≤ bk :=
  (PEnter_any a1 a2 a3 a4 k1 k2 k3 k4 t F caps w hm hv hCF hF).mono fun e w' h => h.elim (fun h => absurd h.1 hne) (fun h => h.2)
/-- two's function, made just before. -/
theorem two_calls (a1 a2 a3 a4 : Option Addr) (k1 k2 k3 k4 : Nat) (t : PeW) (a b : Nat) (w : World) (hv : PeValid t) (hab : a ≠ b) (ha : a < t.ments.length) (hb : b < t.ments.length) (V : World) (hV : Below (((w.alloc (.cells #[.int .i64 t.ear.sounds, .slice a1 t.ear.alphas.length k1, .slice a2 t.ear.spells.length k2, .int .i64 t.vills, .slice a3 t.ments.length k3, .slice a4 t.ties.length k4] 29)).alloc (.cells #[.int .i64 (a : Int)] 3)).alloc (.cells #[.int .i64 (b : Int)] 3)).heap.size (((w.alloc (.cells #[.int .i64 t.ear.sounds, .slice a1 t.ear.alphas.length k1, .slice a2 t.ear.spells.length k2, .int .i64 t.vills, .slice a3 t.ments.length k3, .slice a4 t.ties.length k4] 29)).alloc (.cells #[.int .i64 (a : Int)] 3)).alloc (.cells #[.int .i64 (b : Int)] 3)) V) :
    Calls Tryz.prog 91 #[.pointer (some ⟨w.heap.size, 0, none⟩), .pointer (some ⟨w.heap.size + 1, 0, none⟩), .pointer (some ⟨w.heap.size + 1 + 1, 0, none⟩)] V fun e w' => e = .returned (.int .i64 0) ∧ Below V.heap.size V w' := by
  have hnm := hv.nm
  have h1 : V.heap[w.heap.size]? = some (.cells #[.int .i64 t.ear.sounds, .slice a1 t.ear.alphas.length k1, .slice a2 t.ear.spells.length k2, .int .i64 t.vills, .slice a3 t.ments.length k3, .slice a4 t.ties.length k4] 29 (0, 0)) := (hV.block _ (by simp; omega)).trans ((heap_alloc_old _ _ (by simp; omega)).trans ((heap_alloc_old _ _ (by simp)).trans (alloc_atE _ _ rfl)))
  have h2 : V.heap[w.heap.size + 1]? = some (.cells #[.int .i64 (a : Int)] 3 (0, 0)) := (hV.block _ (by simp)).trans ((heap_alloc_old _ _ (by simp)).trans (alloc_atE _ _ (by simp)))
  have h3 : V.heap[w.heap.size + 1 + 1]? = some (.cells #[.int .i64 (b : Int)] 3 (0, 0)) := (hV.block _ (by simp)).trans (alloc_atE _ _ (by simp))
  exact PTwo1_any a1 a2 a3 a4 k1 k2 k3 k4 t _ _ _ a b V hab ha hb (by omega) (blk_cell 4 h1 rfl) (blk_cell 0 h2 rfl) (blk_cell 0 h3 rfl)
@[reducible] def twoW (w : World) (a1 a2 a3 a4 : Option Addr) (k1 k2 k3 k4 : Nat) (t : PeW) (a b : Nat) : World := ((w.alloc (.cells #[.int .i64 t.ear.sounds, .slice a1 t.ear.alphas.length k1, .slice a2 t.ear.spells.length k2, .int .i64 t.vills, .slice a3 t.ments.length k3, .slice a4 t.ties.length k4] 29)).alloc (.cells #[.int .i64 (a : Int)] 3)).alloc (.cells #[.int .i64 (b : Int)] 3)
theorem two_belowP (a1 a2 a3 a4 : Option Addr) (k1 k2 k3 k4 : Nat) (t : PeW) (a b : Nat) (w : World) : Below w.heap.size w (twoW w a1 a2 a3 a4 k1 k2 k3 k4 t a b) := (((Below.refl _ _).alloc (Nat.le_refl _) _).alloc (by simp) _).alloc (by simp; omega) _
/-- How many are so, how many there are, and the town's pointer. -/
structure SamO (A : World) (b0 bt x y : Nat) : Prop where
  fs : A.heap[b0]? = some (.cells #[.int .i64 (x : Int)] 3 (0, 0))
  fa : A.heap[b0 + 1]? = some (.cells #[.int .i64 (y : Int)] 3 (0, 0))
  fc : A.heap[b0 + 1 + 1]? = some (.cells #[.pointer (some ⟨bt, 0, none⟩)] 100 (0, 0))
theorem SamO.below {A A' : World} {s bt x y : Nat} (h : SamO A s bt x y) (hb : Below (s + 1 + 1 + 1) A A') : SamO A' s bt x y := ⟨(hb.block _ (by omega)).trans h.fs, (hb.block _ (by omega)).trans h.fa, (hb.block _ (by omega)).trans h.fc⟩
theorem SamO.lrn {A A' : World} {s bt bc bk x y : Nat} (h : SamO A s bt x y) (hb : Lrn bc bk A A') (h1 : bc < s) (h2 : bk < s) : SamO A' s bt x y := ⟨hb.cellsN h.fs (by omega) (by omega), hb.cellsN h.fa (by omega) (by omega), hb.cellsN h.fc (by omega) (by omega)⟩
theorem SamO.seta {A : World} {s bt x y : Nat} (h : SamO A s bt x y) (z : Nat) : SamO (A.setCell ⟨s + 1, 0, none⟩ (.int .i64 (z : Int))) s bt x z :=
  ⟨(Below.heap_setCell _ _ _ _ (fun e => by simp only at e; omega)).trans h.fs, blk_set 0 _ h.fa, (Below.heap_setCell _ _ _ _ (fun e => by simp only at e; omega)).trans h.fc⟩
theorem SamO.sets {A : World} {s bt x y : Nat} (h : SamO A s bt x y) (z : Nat) : SamO (A.setCell ⟨s, 0, none⟩ (.int .i64 (z : Int))) s bt z y :=
  ⟨blk_set 0 _ h.fs, (Below.heap_setCell _ _ _ _ (fun e => by simp only at e; omega)).trans h.fa, (Below.heap_setCell _ _ _ _ (fun e => by simp only at e; omega)).trans h.fc⟩
/-- The most truths that a valid town has. -/
theorem truthsF_many (t : PeW) : ∀ (k : Nat) (pre : List Int) (many : Nat), many + k ≤ 6 → (truthsF t k pre many).length ≤ 7 ^ k
  | 0, pre, many, _ => by rw [truthsF]; split <;> simp
  | k + 1, pre, many, h => by
    rw [truthsF_all]
    have key : ∀ n, n ≤ many + 1 → (truthsTo3 t k pre many n).length ≤ n * 7 ^ k := by
      intro n
      induction n with
      | zero => intro _; simp [truthsTo3]
      | succ n ih =>
        intro hn
        have h1 := ih (by omega)
        rw [truthsTo_succ, List.length_append, Nat.succ_mul]
        have h2 : (if fitsB t pre n = true then truthsF t k (pre ++ [(n : Int)]) (max many (n + 1)) else []).length ≤ 7 ^ k := by
          split
          · exact truthsF_many t k _ _ (by omega)
          · simp
        omega
    have h3 := key (many + 1) (Nat.le_refl _)
    rw [Nat.pow_succ, Nat.mul_comm]
    exact Nat.le_trans h3 (Nat.mul_le_mul_right _ (by omega))
theorem fair_many {t : PeW} (hn : t.ments.length ≤ 6) (but : Nat) : (fairL t but).length ≤ 117649 := by
  have h1 := truthsF_many t t.ments.length [] 0 (by omega)
  have h2 : 7 ^ t.ments.length ≤ 7 ^ 6 := Nat.pow_le_pow_right (by omega) hn
  have h3 := List.length_filter_le (fairB t but) (truthsT t)
  have h4 : (fairL t but).length ≤ (truthsT t).length := h3
  have h5 : (truthsT t).length ≤ 7 ^ t.ments.length := h1
  have h6 : (7 : Nat) ^ 6 = 117649 := by decide
  omega
set_option maxRecDepth 100000 in
set_option maxHeartbeats 4000000 in
theorem PSame_any (a1 a2 a3 a4 : Option Addr) (k1 k2 k3 k4 : Nat) (t : PeW) (a b : Nat) (w : World) (hm : TownC w a1 a2 a3 a4 k1 k2 k3 k4 t) (hv : PeValid t) (hab : a ≠ b) (ha : a < t.ments.length) (hb : b < t.ments.length) :
    Calls Tryz.prog 10 #[(.agg #[.int .i64 t.ear.sounds, .slice a1 t.ear.alphas.length k1, .slice a2 t.ear.spells.length k2, .int .i64 t.vills, .slice a3 t.ments.length k3, .slice a4 t.ties.length k4]), .int .i64 (a : Int), .int .i64 (b : Int)] w fun e w' => e = .returned (if fairL t 0 = [] then .tuple #[.int .i64 0, .int .i64 8] else .tuple #[.int .i64 (settledN (sameN t a b) (fairL t 0).length), .int .i64 0]) ∧ Below w.heap.size w w' := by
  have hnm := hv.nm
  obtain ⟨Y, hY⟩ : ∃ Y : World, Y = ((w.alloc (.cells #[.int .i64 t.ear.sounds, .slice a1 t.ear.alphas.length k1, .slice a2 t.ear.spells.length k2, .int .i64 t.vills, .slice a3 t.ments.length k3, .slice a4 t.ties.length k4] 29)).alloc (.cells #[.int .i64 (a : Int)] 3)).alloc (.cells #[.int .i64 (b : Int)] 3) := ⟨_, rfl⟩
  have hbY : Below w.heap.size w Y := by rw [hY]; exact two_belowP a1 a2 a3 a4 k1 k2 k3 k4 t a b w
  have h1 : Y.heap[w.heap.size]? = some (.cells #[.int .i64 t.ear.sounds, .slice a1 t.ear.alphas.length k1, .slice a2 t.ear.spells.length k2, .int .i64 t.vills, .slice a3 t.ments.length k3, .slice a4 t.ties.length k4] 29 (0, 0)) := by rw [hY]; exact (heap_alloc_old _ _ (by simp; omega)).trans ((heap_alloc_old _ _ (by simp)).trans (alloc_atE _ _ rfl))
  have h2 : Y.heap[w.heap.size + 1]? = some (.cells #[.int .i64 (a : Int)] 3 (0, 0)) := by rw [hY]; exact (heap_alloc_old _ _ (by simp)).trans (alloc_atE _ _ (by simp))
  have h3 : Y.heap[w.heap.size + 1 + 1]? = some (.cells #[.int .i64 (b : Int)] 3 (0, 0)) := by rw [hY]; exact alloc_atE _ _ (by simp)
  have HY := Lib.hid hY
  clear hY
  have KE := Lib.hid (fun (V : World) (h : Below Y.heap.size Y V) => (show V.cell? ⟨w.heap.size, 0, none⟩ = some (.int .i64 t.ear.sounds) ∧ V.cell? ⟨w.heap.size, 1, none⟩ = some (.slice a1 t.ear.alphas.length k1) ∧ V.cell? ⟨w.heap.size, 2, none⟩ = some (.slice a2 t.ear.spells.length k2) ∧ V.cell? ⟨w.heap.size, 3, none⟩ = some (.int .i64 t.vills) ∧ V.cell? ⟨w.heap.size, 4, none⟩ = some (.slice a3 t.ments.length k3) ∧ V.cell? ⟨w.heap.size, 5, none⟩ = some (.slice a4 t.ties.length k4) ∧ V.cell? ⟨w.heap.size + 1, 0, none⟩ = some (.int .i64 (a : Int)) ∧ V.cell? ⟨w.heap.size + 1 + 1, 0, none⟩ = some (.int .i64 (b : Int)) ∧ w.heap.size + 1 + 1 < V.heap.size from by
    have g1 := (h.block _ (lt_of_block h1)).trans h1
    have g2 := (h.block _ (lt_of_block h2)).trans h2
    have g3 := (h.block _ (lt_of_block h3)).trans h3
    exact ⟨blk_cell 0 g1 rfl, blk_cell 1 g1 rfl, blk_cell 2 g1 rfl, blk_cell 3 g1 rfl, blk_cell 4 g1 rfl, blk_cell 5 g1 rfl, blk_cell 0 g2 rfl, blk_cell 0 g3 rfl, lt_of_block g3⟩))
  have TWO := Lib.hid (fun (V : World) => PTwo_any a1 a2 a3 a4 k1 k2 k3 k4 t a b V)
  have HTC := Lib.hid (fun (V : World) => two_calls a1 a2 a3 a4 k1 k2 k3 k4 t a b V hv hab ha hb)
  have HM := Lib.hid (fun (V : World) (h : Below Y.heap.size Y V) => hm.mono (hbY.trans (h.mono hbY.size)))
  have hg0 : Below Y.heap.size Y Y.drew := below_drew' (Below.refl _ _)
  have HBY := Lib.hid hbY
  have HB2 := Lib.hid h2
  have HB3 := Lib.hid h3
  clear hm h1 h2 h3 hbY
  by_cases hne : fairL t 0 = []
  · rw [if_pos hne]
    have EN := Lib.hid (fun (V : World) (h : Below Y.heap.size Y V) => PEnter_none a1 a2 a3 a4 k1 k2 k3 k4 t 91 #[.pointer (some ⟨V.heap.size, 0, none⟩), .pointer (some ⟨V.heap.size + 1, 0, none⟩), .pointer (some ⟨V.heap.size + 1 + 1, 0, none⟩)] (twoW V a1 a2 a3 a4 k1 k2 k3 k4 t a b) ((HM.out V h).mono (two_belowP a1 a2 a3 a4 k1 k2 k3 k4 t a b V)) hv (enters_of Tryz.func91 (by kernel_rfl) rfl) (fun U hU => HTC.out V U hU) hne)
    clear hne
    go_enter Tryz.func10, Tryz.ntmps10
    go_upto_region 1 with (fail)
    rw [← HY.out]
    (focus go_region_held3 (fun V => V.cell? ⟨w.heap.size, 0, none⟩ = some (.int .i64 t.ear.sounds) ∧ V.cell? ⟨w.heap.size, 1, none⟩ = some (.slice a1 t.ear.alphas.length k1) ∧ V.cell? ⟨w.heap.size, 2, none⟩ = some (.slice a2 t.ear.spells.length k2) ∧ V.cell? ⟨w.heap.size, 3, none⟩ = some (.int .i64 t.vills) ∧ V.cell? ⟨w.heap.size, 4, none⟩ = some (.slice a3 t.ments.length k3) ∧ V.cell? ⟨w.heap.size, 5, none⟩ = some (.slice a4 t.ties.length k4) ∧ V.cell? ⟨w.heap.size + 1, 0, none⟩ = some (.int .i64 (a : Int)) ∧ V.cell? ⟨w.heap.size + 1 + 1, 0, none⟩ = some (.int .i64 (b : Int)) ∧ w.heap.size + 1 + 1 < V.heap.size) (first | exact KE.out _ hg2 | exact KE.out _ hg1 | exact KE.out _ hg0) (first
      | (go_at_call 43; refine (EN.out _ hg0).mono ?_; rintro e w3 ⟨rfl, hb3⟩; have hg2 := hg1.trans (hb3.mono hg1.size); dsimp only)
      | (go_at_call 40; refine (TWO.out _).mono ?_; rintro e w2 ⟨rfl, rfl⟩; have hg1 := hg0.trans ((two_belowP a1 a2 a3 a4 k1 k2 k3 k4 t a b _).mono hg0.size); dsimp only)))
    go_wp2
    go_ret2
    exact ⟨rfl, HBY.out.trans (hg2.mono HBY.out.size)⟩
  · rw [if_neg hne]
    obtain ⟨sv, hsv⟩ : ∃ sv, sv = settledN (sameN t a b) (fairL t 0).length := ⟨_, rfl⟩
    rw [← hsv]
    have HSV := Lib.hid hsv
    clear hsv
    have EN := Lib.hid (fun (V : World) (h : Below Y.heap.size Y V) => PEnter_some a1 a2 a3 a4 k1 k2 k3 k4 t 91 #[.pointer (some ⟨V.heap.size, 0, none⟩), .pointer (some ⟨V.heap.size + 1, 0, none⟩), .pointer (some ⟨V.heap.size + 1 + 1, 0, none⟩)] (twoW V a1 a2 a3 a4 k1 k2 k3 k4 t a b) ((HM.out V h).mono (two_belowP a1 a2 a3 a4 k1 k2 k3 k4 t a b V)) hv (enters_of Tryz.func91 (by kernel_rfl) rfl) (fun U hU => HTC.out V U hU) hne)
    have FR := Lib.hid (fun (bt : Nat) (W : World) => PFair_any bt W)
    clear hne
    refine (callsIn_wide (n := 0)).1 ?_
    refine callsIn_of_wp_marks Tryz.func10 rfl trivial ?_ rfl
    simp only [Tryz.ntmps10, List.size_toArray, List.length_cons, List.length_nil, Nat.reduceAdd, Nat.reduceSub, Array.replicate_succ, Array.replicate_zero, List.push_toArray, List.append_toArray, List.nil_append, List.cons_append]
    refine (wpIn_wide (n := 0)).2 ?_
    go_upto_region 1 with (fail)
    rw [← HY.out]
    (focus go_region_held3 (fun V => V.cell? ⟨w.heap.size, 0, none⟩ = some (.int .i64 t.ear.sounds) ∧ V.cell? ⟨w.heap.size, 1, none⟩ = some (.slice a1 t.ear.alphas.length k1) ∧ V.cell? ⟨w.heap.size, 2, none⟩ = some (.slice a2 t.ear.spells.length k2) ∧ V.cell? ⟨w.heap.size, 3, none⟩ = some (.int .i64 t.vills) ∧ V.cell? ⟨w.heap.size, 4, none⟩ = some (.slice a3 t.ments.length k3) ∧ V.cell? ⟨w.heap.size, 5, none⟩ = some (.slice a4 t.ties.length k4) ∧ V.cell? ⟨w.heap.size + 1, 0, none⟩ = some (.int .i64 (a : Int)) ∧ V.cell? ⟨w.heap.size + 1 + 1, 0, none⟩ = some (.int .i64 (b : Int)) ∧ w.heap.size + 1 + 1 < V.heap.size) (first | exact KE.out _ hg2 | exact KE.out _ hg1 | exact KE.out _ hg0) (first
      | (go_at_call 43; refine (EN.out _ hg0).mono ?_; rintro e w3 ⟨bt, bc, bk, rfl, ht3, hb3, g1, g2, g3⟩; have hg2 := hg1.trans (hb3.mono hg1.size); dsimp only)
      | (go_at_call 40; refine (TWO.out _).mono ?_; rintro e w2 ⟨rfl, rfl⟩; have hg1 := hg0.trans ((two_belowP a1 a2 a3 a4 k1 k2 k3 k4 t a b _).mono hg0.size); dsimp only)))
    go_wp2_with (go_at_call 44; go_must ((with_reducible refine (FR.out _ _).mono ?_); rintro e w4 ⟨rfl, rfl⟩; dsimp only))
    have hz3 : Y.heap.size ≤ w3.heap.size := hg2.size
    have hyz := HB3.out
    have hyl := lt_of_block hyz
    have hbt1 : Y.heap.size ≤ bc := by simp at g2; omega
    have hbt2 : Y.heap.size ≤ bk := by simp at g3; omega
    have hlo1 := ht3.bc_lt
    have hlo2 := ht3.bk_lt
    have HA2 := Lib.hid (fun (A : World) (h : TwG w3 A bc bk t) => h.lrn.cellsN ((hg2.block _ (lt_of_block HB2.out)).trans HB2.out) (by omega) (by omega))
    have HA3 := Lib.hid (fun (A : World) (h : TwG w3 A bc bk t) => h.lrn.cellsN ((hg2.block _ hyl).trans HB3.out) (by omega) (by omega))
    have HEND := Lib.hid (fun (A : World) (h : TwG w3 A bc bk t) => h.lrn.own (HBY.out.trans (hg2.mono HBY.out.size)) (by have := HBY.out.size; omega) (by have := HBY.out.size; omega))
    have hSE := PFair_seq a1 a2 a3 a4 k1 k2 k3 k4 t bt bc bk 0 (w3.heap.size + 1 + 1) hv.ok (by omega)
    have hfm := fair_many (t := t) (by omega) 0
    obtain ⟨f, hf⟩ : ∃ f : List Int × Nat → Bool, f = fun x => pAt x.1 a == pAt x.1 b := ⟨_, rfl⟩
    have hs0 : sameN t a b = (fairL t 0).countP f := by rw [hf, List.countP_eq_length_filter]; rfl
    have HS0 := Lib.hid hs0
    have HF0 := Lib.hid hf
    clear hs0 hf EN TWO HTC KE HM hyz g1 g2 g3
    obtain ⟨X, hX⟩ : ∃ X : World, X = ((w3.alloc (.cells #[.int .i64 0] 3)).alloc (.cells #[.int .i64 0] 3)).alloc (.cells #[.pointer (some ⟨bt, 0, none⟩)] 100) := ⟨_, rfl⟩
    have hsz : X.heap.size = w3.heap.size + 1 + 1 + 1 := by rw [hX]; simp
    have hb0 : Below w3.heap.size w3 X := by rw [hX]; exact (((Below.refl _ w3).alloc (Nat.le_refl _) _).alloc (by simp) _).alloc (by simp; omega) _
    have hO0 : SamO X w3.heap.size bt 0 0 := by
      rw [hX]
      exact ⟨(heap_alloc_old _ _ (by simp; omega)).trans ((heap_alloc_old _ _ (by simp)).trans (alloc_atE _ _ rfl)), (heap_alloc_old _ _ (by simp)).trans (alloc_atE _ _ (by simp)), alloc_atE _ _ (by simp)⟩
    have hrc : ((w3.alloc (.cells #[.int .i64 0] 3)).alloc (.cells #[.int .i64 0] 3)).heap.size = w3.heap.size + 1 + 1 := by simp
    rw [← hX, hrc]
    clear hX hrc
    refine (wpIn_wide (n := 0)).1 ?_
    refine wpIn_rangeFunc_Y (gf := 93) (lb := #[.pointer (some ⟨w3.heap.size + 1 + 1, 0, none⟩)]) (by go_simp) (enters_of Tryz.func93 (by kernel_rfl) rfl) hSE (Nat.le_refl X.heap.size)
      (fun A A' h => h.1.above (by omega) (by omega)) (fun _ => rfl)
      (fun pre A => TwG w3 A bc bk t ∧ SamO A w3.heap.size bt (pre.countP f) pre.length)
      (fun c pre A => False)
      (fun s A A' h ⟨hb, _⟩ => ⟨h.1.below hb (by omega) (by omega) (by omega), h.2.below (hb.mono (by omega))⟩)
      (fun c s A A' h hb => h.elim)
      (fun s A A' h hR => ⟨h.1.step hR.1 hR.2, h.2.lrn hR.1 (by omega) (by omega)⟩)
      (fun s A h => ⟨h.1.town ht3, h.2.fc⟩)
      ⟨ht3.start.below hb0 (Nat.le_refl _) hlo1 hlo2, hO0⟩ ?round ?done ?stop
    case stop =>
      intro D c pre V hD hI hK
      exact hI.elim
    case round =>
      intro l pre x V hl1 hl2 hI hpre
      simp only [encP, psV]
      have hlen := hpre.length_le
      rw [List.length_append, List.length_singleton] at hlen
      have hcl := List.countP_le_length (p := f) (l := pre)
      have HC1 : Hid ((pre ++ [x]).countP f = pre.countP f + if (pAt x.1 a == pAt x.1 b) = true then 1 else 0) := Lib.hid (by rw [List.countP_append, HF0.out]; simp [List.countP_cons])
      have HL1 : Hid ((pre ++ [x]).length = pre.length + 1) := Lib.hid (by simp)
      obtain ⟨xp, xm⟩ := x
      simp only at HC1
      generalize pre.countP f = cs at *
      generalize pre.length = al at *
      gi_wp2
      have hbV : Below V.heap.size V (V.alloc (.cells #[.int .i64 (pAt xp 0), .int .i64 (pAt xp 1), .int .i64 (pAt xp 2), .int .i64 (pAt xp 3), .int .i64 (pAt xp 4), .int .i64 (pAt xp 5)] 109)) := (Below.refl _ _).alloc (Nat.le_refl _) _
      refine ⟨Above.of_below hbV, ⟨hI.1.below (hbV.mono (by omega)) (Nat.le_refl _) hlo1 hlo2, hI.2.below (hbV.mono (by omega))⟩, ?_⟩
      intro Wb hs2 hblk hIb
      obtain ⟨hG1, hO1⟩ := hIb
      have hP1 : Wb.heap[V.heap.size]? = some (.cells (psCells xp) 109 (0, 0)) := (hblk _ (by omega)).trans (alloc_atE _ _ rfl)
      have hz1 : Wb.heap.size = V.heap.size + 1 := by rw [hs2]; simp
      clear hI hblk hs2 hbV
      have r0 := blk_cell 0 hO1.fa rfl
      have rz := lt_of_block hO1.fa
      have rf := blk_free 0 hO1.fa
      simp only [List.getElem_toArray, List.getElem_cons_zero] at r0
      gi_upto_region 8 with (fail)
      obtain ⟨Z, hZ⟩ : ∃ Z : World, Z = Wb.setCell ⟨w3.heap.size + 1, 0, none⟩ (.int .i64 ((al : Int) + 1)) := ⟨_, rfl⟩
      rw [← hZ]
      have hO2 : SamO Z w3.heap.size bt cs (al + 1) := by rw [hZ]; exact hO1.seta (al + 1)
      have hbZ : Below w3.heap.size Wb Z := by rw [hZ]; exact (Below.refl _ _).setCell (by simp) _
      have hAZ : Above X.heap.size Wb Z := by rw [hZ]; exact Above.of_set _ _ _ _ _ (by omega)
      have hP2 : Z.heap[V.heap.size]? = some (.cells (psCells xp) 109 (0, 0)) := by rw [hZ]; exact (Below.heap_setCell _ _ _ _ (fun e => by simp only at e; omega)).trans hP1
      have hG2 := hG1.below hbZ (Nat.le_refl _) hlo1 hlo2
      clear hZ hO1 hbZ hP1 hG1 r0 rz rf
      have hA := HA2.out Z hG2
      have hB := HA3.out Z hG2
      have KZ := Lib.hid (fun (U : World) (h : Below Z.heap.size Z U) => (show Below Z.heap.size Z U ∧ U.cell? ⟨w.heap.size + 1, 0, none⟩ = some (.int .i64 (a : Int)) ∧ U.cell? ⟨w.heap.size + 1 + 1, 0, none⟩ = some (.int .i64 (b : Int)) ∧ U.cell? ⟨V.heap.size, a, none⟩ = some (.int .i64 (pAt xp a)) ∧ U.cell? ⟨V.heap.size, b, none⟩ = some (.int .i64 (pAt xp b)) ∧ w.heap.size + 1 + 1 < U.heap.size ∧ V.heap.size < U.heap.size from by
        have g1 := (h.block _ (lt_of_block hA)).trans hA
        have g2 := (h.block _ (lt_of_block hB)).trans hB
        have g3 := (h.block _ (lt_of_block hP2)).trans hP2
        exact ⟨h, blk_cell 0 g1 rfl, blk_cell 0 g2 rfl, ps_cell g3 a (by omega), ps_cell g3 b (by omega), lt_of_block g2, lt_of_block g3⟩))
      have ha6 : (a : Int) < 6 := by omega
      have hb6 : (b : Int) < 6 := by omega
      have ha0 : (0 : Int) ≤ (a : Int) := by omega
      have hb0' : (0 : Int) ≤ (b : Int) := by omega
      have hZ0 := below_drew' (Below.refl Z.heap.size Z)
      clear hA hB hP2
      apply wpIn_mid _ (fun U => Below Z.heap.size Z U)
      · refine wpIn_region_round (fun U => Below Z.heap.size Z U ∧ U.cell? ⟨w.heap.size + 1, 0, none⟩ = some (.int .i64 (a : Int)) ∧ U.cell? ⟨w.heap.size + 1 + 1, 0, none⟩ = some (.int .i64 (b : Int)) ∧ U.cell? ⟨V.heap.size, a, none⟩ = some (.int .i64 (pAt xp a)) ∧ U.cell? ⟨V.heap.size, b, none⟩ = some (.int .i64 (pAt xp b)) ∧ w.heap.size + 1 + 1 < U.heap.size ∧ V.heap.size < U.heap.size) ?_ (by kernel_rfl) (noDefer_spec (by kernel_rfl)) (KZ.out _ hZ0) (fun hHeld => ?_)
        · intro h
          obtain ⟨_, _, h⟩ := h
          exact h
        (refine wpAnyH_take (i := 0) (v := ?_) rfl (by kernel_rfl) (by kernel_rfl) (by kernel_rfl) (fun _ _ _ h => h) (Or.inl ⟨by kernel_rfl, ?_⟩) (by assumption) ?_; rotate_left 1; (focus (intro w hSw; (try dsimp only at hSw); go_simp; first | done | with_reducible rfl)); simp only [Act.put, List.getElem_toArray, List.getElem_cons_succ, List.getElem_cons_zero, List.setIfInBounds_toArray, List.set_cons_succ, List.set_cons_zero])
        (refine wpAnyH_take (i := 1) (v := ?_) rfl (by kernel_rfl) (by kernel_rfl) (by kernel_rfl) (fun _ _ _ h => h) (Or.inl ⟨by kernel_rfl, ?_⟩) (by assumption) ?_; rotate_left 1; (focus (intro w hSw; (try dsimp only at hSw); go_simp; first | done | with_reducible rfl)); simp only [Act.put, List.getElem_toArray, List.getElem_cons_succ, List.getElem_cons_zero, List.setIfInBounds_toArray, List.set_cons_succ, List.set_cons_zero])
        (refine wpAnyH_take (i := 2) (v := ?_) rfl (by kernel_rfl) (by kernel_rfl) (by kernel_rfl) (fun _ _ _ h => h) (Or.inl ⟨by kernel_rfl, ?_⟩) (by assumption) ?_; rotate_left 1; (focus (intro w hSw; (try dsimp only at hSw); go_simp; first | done | with_reducible rfl)); simp only [Act.put, List.getElem_toArray, List.getElem_cons_succ, List.getElem_cons_zero, List.setIfInBounds_toArray, List.set_cons_succ, List.set_cons_zero])
        (refine wpAnyH_take (i := 3) (v := ?_) rfl (by kernel_rfl) (by kernel_rfl) (by kernel_rfl) (fun _ _ _ h => h) (Or.inl ⟨by kernel_rfl, ?_⟩) (by assumption) ?_; rotate_left 1; (focus (intro w hSw; (try dsimp only at hSw); go_simp; first | done | with_reducible rfl)); simp only [Act.put, List.getElem_toArray, List.getElem_cons_succ, List.getElem_cons_zero, List.setIfInBounds_toArray, List.set_cons_succ, List.set_cons_zero])
        (refine wpAnyH_take (i := 4) (v := ?_) rfl (by kernel_rfl) (by kernel_rfl) (by kernel_rfl) (fun _ _ _ h => h) (Or.inl ⟨by kernel_rfl, ?_⟩) (by assumption) ?_; rotate_left 1; (focus (intro w hSw; (try dsimp only at hSw); go_simp; first | done | with_reducible rfl)); simp only [Act.put, List.getElem_toArray, List.getElem_cons_succ, List.getElem_cons_zero, List.setIfInBounds_toArray, List.set_cons_succ, List.set_cons_zero])
        (refine wpAnyH_take (i := 5) (v := ?_) rfl (by kernel_rfl) (by kernel_rfl) (by kernel_rfl) (fun _ _ _ h => h) (Or.inl ⟨by kernel_rfl, ?_⟩) (by assumption) ?_; rotate_left 1; (focus (intro w hSw; (try dsimp only at hSw); go_simp; first | done | with_reducible rfl)); simp only [Act.put, List.getElem_toArray, List.getElem_cons_succ, List.getElem_cons_zero, List.setIfInBounds_toArray, List.set_cons_succ, List.set_cons_zero])
        (refine wpAnyH_take (i := 6) (v := ?_) rfl (by kernel_rfl) (by kernel_rfl) (by kernel_rfl) (fun _ _ _ h => h) (Or.inl ⟨by kernel_rfl, ?_⟩) (by assumption) ?_; rotate_left 1; (focus (intro w hSw; (try dsimp only at hSw); go_simp; first | done | with_reducible rfl)); simp only [Act.put, List.getElem_toArray, List.getElem_cons_succ, List.getElem_cons_zero, List.setIfInBounds_toArray, List.set_cons_succ, List.set_cons_zero])
        exact wpAnyH_done (by kernel_rfl) ⟨rfl, hZ0⟩ _
      rintro U hU
      clear KZ hZ0 ha6 hb6 ha0 hb0'
      have hO3 := hO2.below (hU.mono (by have := lt_of_block hO2.fc; omega))
      have hG3 := hG2.below hU (hG2.lrn.size) (by have := hG2.lrn.size; omega) (by have := hG2.lrn.size; omega)
      have hA3 := hAZ.trans (Above.of_below hU)
      clear hO2 hG2 hAZ hU
      generalize (pAt xp a == pAt xp b) = eqb at HC1 ⊢
      cases eqb
      · gi_wp2
        exact ⟨hA3, hG3, by rw [HC1.out, HL1.out]; exact hO3⟩
      · have HS := Lib.hid (hO3.sets (cs + 1))
        have HG := Lib.hid (hG3.below ((Below.refl w3.heap.size U).setCell (p := ⟨w3.heap.size, 0, none⟩) (Nat.le_refl _) (.int .i64 ((cs : Int) + 1))) (Nat.le_refl _) hlo1 hlo2)
        have r0 := blk_cell 0 hO3.fs rfl
        have rz := lt_of_block hO3.fs
        have rf := blk_free 0 hO3.fs
        simp only [List.getElem_toArray, List.getElem_cons_zero] at r0
        gi_wp2
        exact ⟨by rw [← hsz]; exact hA3.trans (Above.of_set _ _ _ _ _ (by omega)), HG.out, by rw [HC1.out, HL1.out]; exact HS.out⟩
    case done =>
      intro D V hD hI hK
      obtain ⟨hG1, hO1⟩ := hI
      have HE := Lib.hid (HEND.out _ (hG1.below (below_putP V w3.heap.size D (.deferred none) (by omega)) (Nat.le_refl _) hlo1 hlo2))
      rw [← HS0.out] at hO1
      have ST := Lib.hid (PSettled_any (sameN t a b) (fairL t 0).length V)
      rw [← HSV.out] at ST
      generalize sameN t a b = cs at *
      generalize (fairL t 0).length = al at *
      have r0 := blk_cell 0 hO1.fs rfl
      have r1 := blk_cell 0 hO1.fa rfl
      have rz := lt_of_block hO1.fa
      simp only [List.getElem_toArray, List.getElem_cons_zero] at r0 r1
      clear hG1 hO1
      go_wp2_with (go_at_call 45; go_must ((with_reducible refine ST.out.mono ?_); rintro e w5 ⟨rfl, rfl⟩; dsimp only))
      refine ⟨by simp, .inl ⟨_, _, rfl, run_takeDeferred hK, ?_⟩⟩
      exact ⟨_, results_tmp2 rfl _ _ _, rfl, HE.out⟩
end Go.Proofs.YtklconegomgjaaaGreat
namespace Go.Proofs.YtklconegomgjaaaGreat
open Go Go.RowKit Go.Shelf
attribute [local go_sem] fold_max fold_min
set_option maxRecDepth 100000 in
set_option maxHeartbeats 1000000 in
theorem PWider_any (a b c d : Int) (first : Bool) (w : World) : Calls Tryz.prog 79 #[.agg #[.int .i64 a, .int .i64 b], .agg #[.int .i64 c, .int .i64 d], .bool first] w fun e w' => e = .returned (if first = true then .agg #[.int .i64 c, .int .i64 d] else .agg #[.int .i64 (min a c), .int .i64 (max b d)]) ∧ Below w.heap.size w w' := by
  generalize hr : (if first = true then Value.agg #[.int .i64 c, .int .i64 d] else Value.agg #[.int .i64 (min a c), .int .i64 (max b d)]) = r
  have HR := Lib.hid hr
  clear hr
  cases first
  · have HR2 := Lib.hid (show Value.agg #[.int .i64 (min a c), .int .i64 (max b d)] = r from HR.out)
    clear HR
    go_enter Tryz.func79, Tryz.ntmps79
    go_wp2
    refine bodyPost_ret (v := .agg #[.int .i64 (min a c), .int .i64 (max b d)]) ?_ rfl ⟨by rw [← HR2.out], (((Below.refl _ _).alloc (Nat.le_refl _) _).alloc (by simp) _).alloc (by simp; omega) _⟩
    rw [results_one rfl]
    go_simp
  · have HR2 := Lib.hid (show Value.agg #[.int .i64 c, .int .i64 d] = r from HR.out)
    clear HR
    go_enter Tryz.func79, Tryz.ntmps79
    go_wp2
    refine bodyPost_ret (v := .agg #[.int .i64 c, .int .i64 d]) ?_ rfl ⟨by rw [← HR2.out], (((Below.refl _ _).alloc (Nat.le_refl _) _).alloc (by simp) _).alloc (by simp; omega) _⟩
    rw [results_one rfl]
    go_simp
end Go.Proofs.YtklconegomgjaaaGreat
