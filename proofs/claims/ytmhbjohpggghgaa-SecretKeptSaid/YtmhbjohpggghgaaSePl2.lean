/- What is proved here: the contract of the search for a plan, at its end. Conditions: the search lies in memory. -/
import Derived.Test.YtmhbjohpggghgaaSePlM
import Derived.Deep.OwnRows
set_option linter.unusedVariables false
set_option linter.unusedSimpArgs false
namespace Go.Proofs.Ytmhbjohpggghgaa
open Go Go.RowKit Go.Shelf

/-- What the search leaves of other memory. -/
def Fr (bn : Nat) (W W' : World) : Prop := W.heap.size ≤ W'.heap.size ∧ ∀ b, bn < b → b < W.heap.size → W'.heap[b]? = W.heap[b]?
theorem Fr.refl (bn : Nat) (W : World) : Fr bn W W := ⟨Nat.le_refl _, fun _ _ _ => rfl⟩
theorem Fr.trans {bn : Nat} {A C D : World} (h : Fr bn A C) (k : Fr bn C D) : Fr bn A D := ⟨Nat.le_trans h.1 k.1, fun b h1 h2 => (k.2 b h1 (Nat.lt_of_lt_of_le h2 h.1)).trans (h.2 b h1 h2)⟩
theorem Fr.of_below {bn : Nat} {A C : World} (h : Below A.heap.size A C) : Fr bn A C := ⟨h.size, fun b _ h2 => h.block b h2⟩
theorem Fr.of_grown {bn bo : Nat} {A C : World} (h : A.grownBy C (some bo)) (hb : bo ≤ bn) : Fr bn A C := ⟨h.size, fun b h1 h2 => h.block b h2 (fun e => by have := Option.some.inj e; omega)⟩
theorem Fr.set {bn b j : Nat} (A : World) (v : Value) (hb : b ≤ bn) : Fr bn A (A.setCell ⟨b, j, none⟩ v) := ⟨by simp, fun i h1 _ => Below.heap_setCell _ _ _ _ (fun e => by simp only at e; omega)⟩
def NextPost (w0 W : World) (B : PlB) (a1 a2 a3 a4 a5 : Option Addr) (k1 k2 k3 k4 k5 : Nat) (r : SeRoom) (p : List Int) (best : Option (List Int)) (e : Ending) (W' : World) : Prop :=
  (∃ v, e = .returned v) ∧ (∃ L', PlanC w0 W' B a1 a2 a3 a4 a5 k1 k2 k3 k4 k5 r L' best ∧ L'.take p.length = p) ∧ Fr B.bn W W'
theorem dfs_pruned {r : SeRoom} {T : List (List Int)} {p : List Int} {best : Option (List Int)} (h : noBetter best (waitingOf p) = true) : ∀ j, dfs r T j p best = best
  | 0 => by rw [dfs, if_pos h]
  | j + 1 => by rw [dfs, if_pos h]
theorem blkI_ints {W : World} {b : Nat} {t : TypeId} {L : List Int} (h : BlkI W b t L) : IntsC W (some ⟨b, 0, none⟩) L := fun i hi => ⟨b, 0, rfl, h.lt, by rw [Nat.zero_add]; exact h.cell i hi⟩

set_option maxRecDepth 100000 in
set_option maxHeartbeats 2000000 in
theorem SNext_no {w0 : World} {B : PlB} {a1 a2 a3 a4 a5 : Option Addr} {k1 k2 k3 k4 k5 : Nat} {r : SeRoom} (j : Nat) (p q L : List Int) (W : World) (h : PlanC w0 W B a1 a2 a3 a4 a5 k1 k2 k3 k4 k5 r L (some q)) (hL : L.take p.length = p) (hq : waitingOf q ≤ waitingOf p) :
    Calls Try.prog 95 #[.int .i64 (p.length : Int), .int .i64 (waitingOf p : Int), .pointer (some ⟨B.bf, 0, none⟩), .pointer (some ⟨B.bwt, 0, none⟩), .pointer (some ⟨B.bp, 0, none⟩), .pointer (some ⟨B.bwr, 0, none⟩), .pointer (some ⟨B.bx, 0, none⟩), .pointer (some ⟨B.bmy, 0, none⟩), .pointer (some ⟨B.bn, 0, none⟩)] W (NextPost w0 W B a1 a2 a3 a4 a5 k1 k2 k3 k4 k5 r p (dfs r (seTruths r []) j p (some q))) := by
  rw [dfs_pruned (by simpa [noBetter] using hq)]
  have f0 : W.cell? ⟨B.bf, 0, none⟩ = some (.bool true) := blk_cell 0 h.f rfl
  have t0 : W.cell? ⟨B.bwt, 0, none⟩ = some (.int .i64 (waitingOf q : Int)) := blk_cell 0 h.wt rfl
  have zf := lt_of_cell f0
  have zt := lt_of_cell t0
  have HF := Lib.hid (show NextPost w0 W B a1 a2 a3 a4 a5 k1 k2 k3 k4 k5 r p (some q) (.returned (.tuple #[])) W from ⟨⟨_, rfl⟩, ⟨L, h, hL⟩, Fr.refl _ _⟩)
  generalize waitingOf q = wq at *
  generalize waitingOf p = wp at *
  go_enter Try.func95, Try.ntmps95
  go_wp2
  go_end0
  exact HF.out
set_option maxRecDepth 100000 in
set_option maxHeartbeats 2000000 in
theorem SNext_end {w0 : World} {B : PlB} {a1 a2 a3 a4 a5 : Option Addr} {k1 k2 k3 k4 k5 : Nat} {r : SeRoom} (p L : List Int) (best : Option (List Int)) (W : World) (hm : RoomC w0 a1 a2 a3 a4 a5 k1 k2 k3 k4 k5 r) (hv : SeValid r) (hp : p.length = r.letters.length) (h : PlanC w0 W B a1 a2 a3 a4 a5 k1 k2 k3 k4 k5 r L best) (hL : L.take p.length = p) (hq : noBetter best (waitingOf p) = false) :
    Calls Try.prog 95 #[.int .i64 (p.length : Int), .int .i64 (waitingOf p : Int), .pointer (some ⟨B.bf, 0, none⟩), .pointer (some ⟨B.bwt, 0, none⟩), .pointer (some ⟨B.bp, 0, none⟩), .pointer (some ⟨B.bwr, 0, none⟩), .pointer (some ⟨B.bx, 0, none⟩), .pointer (some ⟨B.bmy, 0, none⟩), .pointer (some ⟨B.bn, 0, none⟩)] W (NextPost w0 W B a1 a2 a3 a4 a5 k1 k2 k3 k4 k5 r p (some p)) := by
  have hLp : L = p := by rw [← hL, hp, ← h.len, List.take_length]
  subst hLp
  have vt := hv.nt
  have f0 : W.cell? ⟨B.bf, 0, none⟩ = some (.bool best.isSome) := blk_cell 0 h.f rfl
  have t0 : W.cell? ⟨B.bwt, 0, none⟩ = some (.int .i64 (waitCell best : Int)) := blk_cell 0 h.wt rfl
  have p0 : W.cell? ⟨B.bp, 0, none⟩ = some (.slice (some ⟨B.pb, 0, none⟩) r.letters.length r.letters.length) := blk_cell 0 h.p rfl
  obtain ⟨v0, hv0, -⟩ := h.wr
  have w0' : W.cell? ⟨B.bwr, 0, none⟩ = some v0 := blk_cell 0 hv0 rfl
  have zf := lt_of_cell f0
  have zt := lt_of_cell t0
  have zp := lt_of_cell p0
  have zw := lt_of_cell w0'
  have gf := blk_free 0 h.f
  have gt := blk_free 0 h.wt
  have gw := blk_free 0 hv0
  have HP := Lib.hid hp
  have ho := h.ok
  unfold PlB.ok at ho
  have n1 : B.bwr ≠ B.bwt := by omega
  have n2 : B.bwt ≠ B.bwr := by omega
  have n3 : B.bwr ≠ B.bf := by omega
  have n4 : B.bf ≠ B.bwr := by omega
  have n5 : B.bf ≠ B.bwt := by omega
  have n6 : B.bwt ≠ B.bf := by omega
  have n7 : B.bp ≠ B.bwr := by omega
  have n8 : B.bp ≠ B.bwt := by omega
  have n9 : B.bp ≠ B.bf := by omega
  clear ho
  have hcase : best.isSome = false ∨ (best.isSome = true ∧ waitingOf L < waitCell best) := by
    cases best with
    | none => exact .inl rfl
    | some q => exact .inr ⟨rfl, by have h2 : ¬ waitingOf q ≤ waitingOf L := of_decide_eq_false hq; show waitingOf L < waitingOf q; omega⟩
  have H := Lib.hid h
  have HPL : Hid ((L.length : Int) = r.letters.length) := Lib.hid (by rw [hp])
  clear hL hq hp
  rw [HPL.out]
  obtain ⟨i, hi, hz, hsz, hby⟩ := info_parts E_int.info
  have hsz1 := Lib.hid (show (Try.prog.info? 3).map (·.size) = some 1 by rw [hi]; simp [hsz])
  rcases hcase with hs | ⟨hs, hlt⟩
  all_goals
    rw [hs] at f0
    clear hs
    generalize waitCell best = wc at *
    generalize hwq : waitingOf L = wp at *
    have HWQ := Lib.hid hwq
    clear hwq
    go_enter Try.func95, Try.ntmps95
    go_upto_region 2 with (fail)
    go_upto_region 3 with (refine wpList_make_row _ rfl (.tmp 25) (.tmp 25) _ rfl 3 i (.int .i64 0) E_int.und hi hz hsz rfl .i64 .i64 r.letters.length rfl rfl (by rw [hby]; omega) (by omega) ?_; go_frame)
    obtain ⟨X, hX⟩ : ∃ X : World, X = (((W.setCell ⟨B.bwr, 0, none⟩ (.slice (some ⟨W.heap.size, 0, none⟩) r.letters.length r.letters.length)).setCell ⟨B.bwt, 0, none⟩ (.int .i64 (wp : Int))).setCell ⟨B.bf, 0, none⟩ (.bool true)).alloc (.cells (madeCells #[Value.int .i64 0] r.letters.length) 3) := ⟨_, rfl⟩
    rw [← hX]
    have hXs : X.heap.size = W.heap.size + 1 := by rw [hX]; simp
    have hXw : X.heap[B.bwr]? = some (.cells #[.slice (some ⟨W.heap.size, 0, none⟩) r.letters.length r.letters.length] 23 (0, 0)) := by rw [hX]; exact (heap_alloc_old _ _ (by simpa using zw)).trans ((Below.heap_setCell _ _ _ _ n3).trans ((Below.heap_setCell _ _ _ _ n1).trans (blk_set 0 _ hv0)))
    have hXt : X.heap[B.bwt]? = some (.cells #[.int .i64 (wp : Int)] 3 (0, 0)) := by rw [hX]; exact (heap_alloc_old _ _ (by simpa using zt)).trans ((Below.heap_setCell _ _ _ _ n6).trans (blk_set 0 _ ((Below.heap_setCell _ _ _ _ n2).trans H.out.wt)))
    have hXf : X.heap[B.bf]? = some (.cells #[.bool true] 4 (0, 0)) := by rw [hX]; exact (heap_alloc_old _ _ (by simpa using zf)).trans (blk_set 0 _ ((Below.heap_setCell _ _ _ _ n5).trans ((Below.heap_setCell _ _ _ _ n4).trans H.out.f)))
    have hXo : ∀ b, b < W.heap.size → b ≠ B.bwr → b ≠ B.bwt → b ≠ B.bf → X.heap[b]? = W.heap[b]? := fun b h1 h2 h3 h4 => by rw [hX]; exact (heap_alloc_old _ _ (by simpa using h1)).trans ((Below.heap_setCell _ _ _ _ h4).trans ((Below.heap_setCell _ _ _ _ h3).trans (Below.heap_setCell _ _ _ _ h2)))
    have hXn : X.heap[W.heap.size]? = some (.cells (madeCells #[Value.int .i64 0] r.letters.length) 3 (0, 0)) := by rw [hX]; exact alloc_at _ _ (by simp)
    have hXe : X.os = W.os ∧ X.tape = W.tape ∧ X.output = W.output := by rw [hX]; exact ⟨rfl, rfl, rfl⟩
    have ho := H.out.ok
    unfold PlB.ok at ho
    have hXp : BlkI X B.pb 3 L := H.out.arr.same (hXo _ H.out.arr.lt (by omega) (by omega) (by omega))
    have q0 : X.cell? ⟨B.bp, 0, none⟩ = some (.slice (some ⟨B.pb, 0, none⟩) r.letters.length r.letters.length) := blk_cell 0 ((hXo _ zp n7 n8 n9).trans H.out.p) rfl
    have q1 : X.cell? ⟨B.bwr, 0, none⟩ = some (.slice (some ⟨W.heap.size, 0, none⟩) r.letters.length r.letters.length) := blk_cell 0 hXw rfl
    have qz0 := lt_of_cell q0
    have qz1 := lt_of_cell q1
    have hcn := Lib.hid (show (L.map (Value.int .i64)).length = Nat.min r.letters.length r.letters.length by rw [List.length_map, HP.out]; exact (Nat.min_self _).symm)
    have hcsrc := Lib.hid (fun (j : Nat) (v : Value) (hj : (L.map (Value.int .i64))[j]? = some v) => show X.cell? ((⟨B.pb, 0, none⟩ : Addr).add j) = some v from by
      rw [Addr.add_lit, Nat.zero_add]
      rw [List.getElem?_map] at hj
      obtain ⟨y, hy, rfl⟩ := Option.map_eq_some_iff.1 hj
      obtain ⟨hlt, rfl⟩ := List.getElem?_eq_some_iff.1 hy
      exact hXp.cell j hlt)
    have hcfit := Lib.hid (show 0 + (L.map (Value.int .i64)).length ≤ (madeCells #[Value.int .i64 0] r.letters.length).size by rw [List.length_map, HP.out, size_madeCells]; omega)
    have hcone := Lib.hid (show ∀ v ∈ L.map (Value.int .i64), v.oneCell' = true from fun v hv => by obtain ⟨y, _, rfl⟩ := List.mem_map.1 hv; rfl)
    have HFIN : Hid (NextPost w0 W B a1 a2 a3 a4 a5 k1 k2 k3 k4 k5 r L (some L) (.returned (.tuple #[])) (X.setRow W.heap.size (List.take 0 (madeCells #[Value.int .i64 0] r.letters.length).toList ++ (List.map (Value.int .i64) L ++ List.drop (0 + (List.map (Value.int .i64) L).length) (madeCells #[Value.int .i64 0] r.letters.length).toList)).toArray)) := Lib.hid (by
      have h4 := setRow_heap X W.heap.size _ (List.take 0 (madeCells #[Value.int .i64 0] r.letters.length).toList ++ (List.map (Value.int .i64) L ++ List.drop (0 + (List.map (Value.int .i64) L).length) (madeCells #[Value.int .i64 0] r.letters.length).toList)).toArray 3 _ hXn
      have e : (List.take 0 (madeCells #[Value.int .i64 0] r.letters.length).toList ++ (List.map (Value.int .i64) L ++ List.drop (0 + (List.map (Value.int .i64) L).length) (madeCells #[Value.int .i64 0] r.letters.length).toList)) = L.map (Value.int .i64) := by
        rw [List.take_zero, List.nil_append, List.drop_eq_nil_of_le (by rw [Array.length_toList, size_madeCells, List.length_map, HP.out]; omega), List.append_nil]
      rw [e] at h4 ⊢
      have hbr := below_setRow (Below.refl W.heap.size X) (Nat.le_refl _) (L.map (Value.int .i64)).toArray
      have hln := H.out.lt
      refine ⟨⟨_, rfl⟩, ⟨L, ?_, List.take_length⟩, ?_⟩
      · refine H.out.found hm HP.out (g := W.heap.size) (Nat.le_refl _) (hbr.os.trans hXe.1) (hbr.tape.trans hXe.2.1) (hbr.output.trans hXe.2.2) (Nat.le_trans (by omega) hbr.size) (fun b h1 h2 h3 h5 => (hbr.block b h1).trans (hXo b h1 h2 h3 h5)) ((hbr.block _ (by omega)).trans hXw) ?_ ((hbr.block _ (by omega)).trans hXf) h4
        rw [HWQ.out]
        exact (hbr.block _ (by omega)).trans hXt
      · exact ⟨Nat.le_trans (by omega) hbr.size, fun b h1 h2 => (hbr.block b h2).trans (hXo b h2 (by omega) (by omega) (by omega))⟩)
    clear hX hXw hXt hXf hXo hXe hXp ho n1 n2 n3 n4 n5 n6 n7 n8 n9 hXs
    have HXn := Lib.hid hXn
    clear hXn
    go_wp2_with (refine wpList_copy_own rfl (.tmp 28) (.tmp 29) _ _ rfl 3 E_int.und hsz1.out W.heap.size 0 r.letters.length r.letters.length ⟨B.pb, 0, none⟩ r.letters.length r.letters.length rfl rfl (madeCells #[Value.int .i64 0] r.letters.length) 3 HXn.out (L.map (Value.int .i64)) hcn.out hcsrc.out hcfit.out hcone.out ?_; go_frame)
    have hfin := HFIN.out
    simp only [List.take_zero, List.nil_append, Nat.zero_add, List.length_map] at hfin
    exact bodyPost_ret (results_none rfl _ _ _) rfl hfin
end Go.Proofs.Ytmhbjohpggghgaa
