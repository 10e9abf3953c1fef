/- What is proved here: the walk of SecretLeak: it returns true, and turns nothing that was there. Conditions: the room lies in memory. -/
import Derived.Test.YtmhbjohpggghgaaSwB
import Derived.Test.YtmhbjohpggghgaaSw3
set_option linter.unusedVariables false
set_option linter.unusedSimpArgs false
namespace Go.Proofs.Ytmhbjohpggghgaa
open Go Go.RowKit
set_option maxRecDepth 100000 in
set_option maxHeartbeats 4000000 in
theorem SecretLeak_walk (a1 a2 a3 a4 a5 : Option Addr) (k1 k2 k3 k4 k5 : Nat) (r : SeRoom) (z0 z1 : Int) (z2 : Bool) (x0 x1 x2 : Nat) (gx0 : x0 ≤ 255) (gx1 : x1 ≤ 255) (gx2 : x2 ≤ 255) (hbig : (r.leaks.length + 1) * 24 ≤ 140737488355328) (w : World) (hm : RoomC w a1 a2 a3 a4 a5 k1 k2 k3 k4 k5 r) : Calls Try.prog 15 #[(.agg #[.slice a1 r.writers.length k1, .slice a2 r.kept.length k2, .slice a3 r.leaks.length k3, .slice a4 r.letters.length k4, .slice a5 r.heard.length k5]), .agg #[.int .i64 z0, .int .i64 z1, .bool z2], .agg #[.int .u8 (x0 : Int), .int .u8 (x1 : Int), .int .u8 (x2 : Int)]] w fun e w' => e = .returned (.bool true) ∧ Below w.heap.size w w' := by
  obtain ⟨X, hX⟩ : ∃ X : World, X = (((w.alloc (.cells #[.slice a1 r.writers.length k1, .slice a2 r.kept.length k2, .slice a3 r.leaks.length k3, .slice a4 r.letters.length k4, .slice a5 r.heard.length k5] 28)).alloc (.cells #[.int .i64 z0, .int .i64 z1, .bool z2] 79)).alloc (.cells #[.int .u8 (x0 : Int), .int .u8 (x1 : Int), .int .u8 (x2 : Int)] 83)) := ⟨_, rfl⟩
  have hwX : Below w.heap.size w X := by rw [hX]; exact (by (repeat' (first | assumption | exact Below.refl _ _ | refine below_drew' ?_ | refine Below.setCell ?_ (by first | omega | (simp <;> omega)) _ | refine Below.alloc ?_ (by first | omega | (simp <;> omega)) _)))
  have g1 : X.heap[w.heap.size]? = some (.cells #[.slice a1 r.writers.length k1, .slice a2 r.kept.length k2, .slice a3 r.leaks.length k3, .slice a4 r.letters.length k4, .slice a5 r.heard.length k5] 28 (0, 0)) := by rw [hX]; (repeat' (first | exact alloc_at _ _ (by simp) | refine (heap_alloc_old _ _ (by first | omega | (simp <;> omega))).trans ?_))
  have g2 : X.heap[w.heap.size + 1]? = some (.cells #[.int .i64 z0, .int .i64 z1, .bool z2] 79 (0, 0)) := by rw [hX]; (repeat' (first | exact alloc_at _ _ (by simp) | refine (heap_alloc_old _ _ (by first | omega | (simp <;> omega))).trans ?_))
  have g3 : X.heap[w.heap.size + 1 + 1]? = some (.cells #[.int .u8 (x0 : Int), .int .u8 (x1 : Int), .int .u8 (x2 : Int)] 83 (0, 0)) := by rw [hX]; (repeat' (first | exact alloc_at _ _ (by simp) | refine (heap_alloc_old _ _ (by first | omega | (simp <;> omega))).trans ?_))
  have M := Lib.hid (fun (V : World) (h : Below X.heap.size X V) => (hm.mono hwX).mono h)
  have hQ := Below.refl X.heap.size X
  have zX : w.heap.size + 1 + 1 < X.heap.size := lt_of_block g3
  have q4 : X.cell? ⟨w.heap.size, 4, none⟩ = some (.slice a5 r.heard.length k5) := blk_cell 4 g1 rfl
  have f4 := blk_free 4 g1
  go_enter Try.func15, Try.ntmps15
  go_upto_region 1 with (fail)
  rw [← hX]
  clear hX
  go_upto_region 2 with (fail)
  obtain ⟨Y, hY⟩ : ∃ Y : World, Y = X.setCell ⟨w.heap.size, 4, none⟩ (.slice none 0 0) := ⟨_, rfl⟩
  rw [← hY]
  have hYs : Y.heap.size = X.heap.size := by rw [hY]; simp
  have hwY : Below w.heap.size w Y := by rw [hY]; exact hwX.setCell (Nat.le_refl _) _
  have h1 : Y.heap[w.heap.size]? = some (.cells #[.slice a1 r.writers.length k1, .slice a2 r.kept.length k2, .slice a3 r.leaks.length k3, .slice a4 r.letters.length k4, .slice none 0 0] 28 (0, 0)) := by rw [hY]; exact blk_set 4 _ g1
  have h2 : Y.heap[w.heap.size + 1]? = some (.cells #[.int .i64 z0, .int .i64 z1, .bool z2] 79 (0, 0)) := by rw [hY]; exact (Below.heap_setCell _ _ _ _ (by simp)).trans g2
  have h3 : Y.heap[w.heap.size + 1 + 1]? = some (.cells #[.int .u8 (x0 : Int), .int .u8 (x1 : Int), .int .u8 (x2 : Int)] 83 (0, 0)) := by rw [hY]; exact (Below.heap_setCell _ _ _ _ (by simp; omega)).trans g3
  clear hY g1 g2 g3 q4 f4 hwX hQ
  have b0 : Y.cell? ⟨w.heap.size, 0, none⟩ = some (.slice a1 r.writers.length k1) := blk_cell 0 h1 rfl
  have b1 : Y.cell? ⟨w.heap.size, 1, none⟩ = some (.slice a2 r.kept.length k2) := blk_cell 1 h1 rfl
  have b2 : Y.cell? ⟨w.heap.size, 2, none⟩ = some (.slice a3 r.leaks.length k3) := blk_cell 2 h1 rfl
  have b3 : Y.cell? ⟨w.heap.size, 3, none⟩ = some (.slice a4 r.letters.length k4) := blk_cell 3 h1 rfl
  have b4 : Y.cell? ⟨w.heap.size, 4, none⟩ = some (.slice none 0 0) := blk_cell 4 h1 rfl
  have zY := lt_of_block h1
  go_upto_region 3 with (fail)
  obtain ⟨V, hV⟩ : ∃ V : World, V = Y.alloc (.cells #[.slice a1 r.writers.length k1, .slice a2 r.kept.length k2, .slice a3 r.leaks.length k3, .slice a4 r.letters.length k4, .slice none 0 0] 28) := ⟨_, rfl⟩
  rw [← hV]
  (try rw [hYs])
  have hYV : Below Y.heap.size Y V := by rw [hV]; exact al_on _ _
  have hVo : V.heap[X.heap.size]? = some (.cells #[.slice a1 r.writers.length k1, .slice a2 r.kept.length k2, .slice a3 r.leaks.length k3, .slice a4 r.letters.length k4, .slice none 0 0] 28 (0, 0)) := by rw [hV, ← hYs]; exact alloc_at _ _ rfl
  replace h1 := (hYV.block _ (lt_of_block h1)).trans h1
  replace h2 := (hYV.block _ (lt_of_block h2)).trans h2
  replace h3 := (hYV.block _ (lt_of_block h3)).trans h3
  have hwV : Below w.heap.size w V := hwY.trans (hYV.mono hwY.size)
  have zwX : w.heap.size < X.heap.size := by omega
  clear hV hYV hYs hwY b0 b1 b2 b3 b4 zY
  go_cut [] (fun W => ∃ a9 c9, W.heap[X.heap.size]? = some (.cells #[.slice a1 r.writers.length k1, .slice a2 r.kept.length k2, .slice a9 (leakRoom r ⟨z0, z1, z2⟩).leaks.length c9, .slice a4 r.letters.length k4, .slice none 0 0] 28 (0, 0)) ∧ RoomC W a1 a2 a9 a4 none k1 k2 c9 k4 0 (leakRoom r ⟨z0, z1, z2⟩) ∧ Below X.heap.size V W)
  case first =>
    obtain ⟨L1, hL1⟩ : ∃ L1, L1 = r.leaks := ⟨_, rfl⟩
    obtain ⟨L2, hL2⟩ : ∃ L2, L2 = L1 ++ [(⟨z0, z1, z2⟩ : SeLeak)] := ⟨_, rfl⟩
    have htk := Lib.hid hL2
    have hK2 : Hid ((leakRoom r ⟨z0, z1, z2⟩).leaks = L2) := Lib.hid (by rw [hL2, hL1]; rfl)
    have hsz : SlOk a3 L1.length k3 := by rw [hL1]; exact hm.ok3
    have hzV : LeaksC V a3 L1 := by rw [hL1]; exact hm.leaks.mono hwV
    have hll := hsz.len
    have hbb : (L1.length + 1) * 24 ≤ 140737488355328 := by rw [hL1]; exact hbig
    rw [← hL1] at hVo h1
    have SF : Hid (∀ W, Below V.heap.size V W → (fun W => Below V.heap.size V W ∧ W.cell? ⟨w.heap.size, 2, none⟩ = some (.slice a3 L1.length k3) ∧ W.cell? ⟨w.heap.size + 1, 0, none⟩ = some (.int .i64 z0) ∧ W.cell? ⟨w.heap.size + 1, 1, none⟩ = some (.int .i64 z1) ∧ W.cell? ⟨w.heap.size + 1, 2, none⟩ = some (.bool z2) ∧ w.heap.size < W.heap.size ∧ w.heap.size + 1 < W.heap.size ∧ X.heap.size < W.heap.size) W) := Lib.hid (fun W h => by
      have k1 := (h.block _ (lt_of_block h1)).trans h1
      have k2 := (h.block _ (lt_of_block h2)).trans h2
      exact ⟨h, blk_cell 2 k1 rfl, blk_cell 0 k2 rfl, blk_cell 1 k2 rfl, blk_cell 2 k2 rfl, lt_of_block k1, lt_of_block k2, Nat.lt_of_lt_of_le (lt_of_block hVo) h.size⟩)
    have zoV := lt_of_block hVo
    clear hbig hL1 hL2 h1 h2 h3
    refine wp_region_z (fun W => Below V.heap.size V W ∧ W.cell? ⟨w.heap.size, 2, none⟩ = some (.slice a3 L1.length k3) ∧ W.cell? ⟨w.heap.size + 1, 0, none⟩ = some (.int .i64 z0) ∧ W.cell? ⟨w.heap.size + 1, 1, none⟩ = some (.int .i64 z1) ∧ W.cell? ⟨w.heap.size + 1, 2, none⟩ = some (.bool z2) ∧ w.heap.size < W.heap.size ∧ w.heap.size + 1 < W.heap.size ∧ X.heap.size < W.heap.size) 8 (by kernel_rfl) (SF.out V.drew (by (repeat' (first | assumption | exact Below.refl _ _ | refine Below.drew ?_ | refine Below.alloc ?_ (by first | omega | (simp <;> omega)) _)))) (fun hHeld => ?_)
    (refine wpZ_take (i := 1) (v := ?_) rfl (by kernel_rfl) (by kernel_rfl) (by kernel_rfl) (by kernel_rfl) (fun _ _ _ h => h) (Or.inl ⟨by kernel_rfl, ?_⟩) (by assumption) ?_; rotate_left 1; (focus (intro w hSw; (try dsimp only at hSw); go_simp; first | done | with_reducible rfl)); simp only [Act.put, List.getElem_toArray, List.getElem_cons_succ, List.getElem_cons_zero, List.setIfInBounds_toArray, List.set_cons_succ, List.set_cons_zero])
    (refine wpZ_take (i := 2) (v := ?_) rfl (by kernel_rfl) (by kernel_rfl) (by kernel_rfl) (by kernel_rfl) (fun _ _ _ h => h) (Or.inl ⟨by kernel_rfl, ?_⟩) (by assumption) ?_; rotate_left 1; (focus (intro w hSw; (try dsimp only at hSw); go_simp; first | done | with_reducible rfl)); simp only [Act.put, List.getElem_toArray, List.getElem_cons_succ, List.getElem_cons_zero, List.setIfInBounds_toArray, List.set_cons_succ, List.set_cons_zero])
    (refine wpZ_take (i := 4) (v := ?_) rfl (by kernel_rfl) (by kernel_rfl) (by kernel_rfl) (by kernel_rfl) (fun _ _ _ h => h) (Or.inl ⟨by kernel_rfl, ?_⟩) (by assumption) ?_; rotate_left 1; (focus (intro w hSw; (try dsimp only at hSw); go_simp; first | done | with_reducible rfl)); simp only [Act.put, List.getElem_toArray, List.getElem_cons_succ, List.getElem_cons_zero, List.setIfInBounds_toArray, List.set_cons_succ, List.set_cons_zero])
    refine wpZ_ready (rs := [0, 5]) (by kernel_rfl) (by simp) (AllZ.cons rfl (fun K hK => ?_) (AllZ.cons rfl (fun K hK => ?_) AllZ.nil)); (focus ((go_simp; refine hK.out _ _ (fun _ => SF.out _ (by (repeat' (first | assumption | exact Below.refl _ _ | refine Below.drew ?_ | refine Below.alloc ?_ (by first | omega | (simp <;> omega)) _)))) ?_; (try simp only [Act.put, List.getElem_toArray, List.getElem_cons_succ, List.getElem_cons_zero, List.setIfInBounds_toArray, List.set_cons_succ, List.set_cons_zero]); clear hK); refine wpZ_ready (rs := [3, 5]) (by kernel_rfl) (by simp) (AllZ.cons rfl (fun K hK => ?_) (AllZ.cons rfl (fun K hK => ?_) AllZ.nil)); (focus (have hm0 : ((V.alloc (.cells #[] 79)).drew).ownsRow V.heap.size 79 3 (.slice (some ⟨V.heap.size, 0, none⟩) 0 0) 0 [] := (made_row2 (Nat.le_refl _) _ _).drew; refine step_app2 (.tmp 23) (.tmp 25) (v := .slice (some ⟨V.heap.size, 0, none⟩) 0 0) E_leak (by rfl) (by rfl) (by rfl) (by rfl) V.heap.size 0 L1.length [] (flatC leakCells L1) hm0 (SrcAt.leaks hsz.2.2 (hzV.mono (by (repeat' (first | assumption | exact Below.refl _ _ | refine Below.drew ?_ | refine Below.alloc ?_ (by first | omega | (simp <;> omega)) _))))) (by omega) (by omega) (by first | omega | (simp [drew_heap] <;> omega)) ?_; intro v1 V1 ho1 hg1 _; (have hB1 : Below V.heap.size V V1 := app_grown (by (repeat' (first | assumption | exact Below.refl _ _ | refine Below.drew ?_ | refine Below.alloc ?_ (by first | omega | (simp <;> omega)) _))) hm0 hg1); (rw [Nat.zero_add, List.nil_append] at ho1); have hz1v := hB1.size; refine hK.out _ _ (fun _ => SF.out _ hB1) ?_; (try simp only [Act.put, List.getElem_toArray, List.getElem_cons_succ, List.getElem_cons_zero, List.setIfInBounds_toArray, List.set_cons_succ, List.set_cons_zero]); clear hK; refine wpZ_ready (rs := [5]) (by kernel_rfl) (by simp) (AllZ.cons rfl (fun K hK => ?_) AllZ.nil); (go_simp; refine hK.out _ _ (fun _ => SF.out _ (by (repeat' (first | assumption | exact Below.refl _ _ | refine Below.drew ?_ | refine Below.alloc ?_ (by first | omega | (simp <;> omega)) _)))) ?_; (try simp only [Act.put, List.getElem_toArray, List.getElem_cons_succ, List.getElem_cons_zero, List.setIfInBounds_toArray, List.set_cons_succ, List.set_cons_zero]); clear hK); have hs2 := SrcAt.leak1 V1 z0 z1 z2 79; refine wpZ_ready (rs := [6]) (by kernel_rfl) (by simp) (AllZ.cons rfl (fun K hK => ?_) AllZ.nil); refine step_app2 (.tmp 26) (.tmp 28) (v := v1) E_leak (by rfl) (by rfl) (by rfl) (by rfl) V.heap.size L1.length 1 (flatC leakCells L1) [.int .i64 z0, .int .i64 z1, .bool z2] (by first | exact ho1 | exact ho1.alloc _) hs2 (by omega) (by omega) (by first | omega | (simp [drew_heap] <;> omega)) ?_; intro v2 V2 ho2 hg2 _; (have hB2 : Below V.heap.size V V2 := app_grown (by (repeat' (first | assumption | exact Below.refl _ _ | refine Below.drew ?_ | refine Below.alloc ?_ (by first | omega | (simp <;> omega)) _))) (by first | exact ho1 | exact ho1.alloc _) hg2); (rw [leak_snoc, ← htk.out] at ho2); (have e2 : L1.length + 1 = L2.length := by rw [htk.out]; simp); (rw [e2] at ho2); clear e2; (obtain ⟨-, a9, c9, rfl, hs9, -⟩ := leaks_own ho2); (have hc2 : V2.heap[X.heap.size]? = _ := (hB2.block _ zoV).trans hVo); have hHeld2 := SF.out _ hB2; refine hK.out _ _ (fun _ => hHeld2) ?_; (try simp only [Act.put, List.getElem_toArray, List.getElem_cons_succ, List.getElem_cons_zero, List.setIfInBounds_toArray, List.set_cons_succ, List.set_cons_zero]); clear hK; (refine wpZ_take (i := 7) (v := ?_) rfl (by kernel_rfl) (by kernel_rfl) (by kernel_rfl) (by kernel_rfl) (fun _ _ _ h => h) (Or.inl ⟨by kernel_rfl, ?_⟩) (by assumption) ?_; rotate_left 1; (focus (intro w hSw; (try dsimp only at hSw); go_simp; first | done | with_reducible rfl)); simp only [Act.put, List.getElem_toArray, List.getElem_cons_succ, List.getElem_cons_zero, List.setIfInBounds_toArray, List.set_cons_succ, List.set_cons_zero]); have k2 : V2.cell? ⟨X.heap.size, 2, none⟩ = some (.slice a3 L1.length k3) := blk_cell 2 hc2 rfl; have k3 := blk_free 2 hc2; have zo2 := lt_of_block hc2; refine wpZ_ready (rs := [8]) (by kernel_rfl) (by simp) (AllZ.cons rfl (fun K hK => ?_) AllZ.nil); (go_simp; refine hK.out _ _ (fun h => absurd rfl h) ?_; (try simp only [Act.put, List.getElem_toArray, List.getElem_cons_succ, List.getElem_cons_zero, List.setIfInBounds_toArray, List.set_cons_succ, List.set_cons_zero]); clear hK; refine wpZ_done (by kernel_rfl) ?_ _))); rotate_left 1; (focus ((go_simp; refine hK.out _ _ (fun _ => SF.out _ (by (repeat' (first | assumption | exact Below.refl _ _ | refine Below.drew ?_ | refine Below.alloc ?_ (by first | omega | (simp <;> omega)) _)))) ?_; (try simp only [Act.put, List.getElem_toArray, List.getElem_cons_succ, List.getElem_cons_zero, List.setIfInBounds_toArray, List.set_cons_succ, List.set_cons_zero]); clear hK); refine wpZ_ready (rs := [3]) (by kernel_rfl) (by simp) (AllZ.cons rfl (fun K hK => ?_) AllZ.nil); have hm0 : (((V.alloc (.cells #[] 79)).alloc (.cells #[.int .i64 z0, .int .i64 z1, .bool z2] 79)).drew).ownsRow V.heap.size 79 3 (.slice (some ⟨V.heap.size, 0, none⟩) 0 0) 0 [] := ((made_row2 (Nat.le_refl _) _ _).alloc _).drew; have hsr : SrcAt (((V.alloc (.cells #[] 79)).alloc (.cells #[.int .i64 z0, .int .i64 z1, .bool z2] 79)).drew) (.slice (some ⟨V.heap.size + 1, 0, none⟩) 1 1) 1 3 [.int .i64 z0, .int .i64 z1, .bool z2] := (by have h := (SrcAt.leak1 (V.alloc (.cells #[] 79)) z0 z1 z2 79).below (below_drew' (Below.refl _ _)); rwa [show (V.alloc (.cells #[] 79)).heap.size = V.heap.size + 1 from by simp] at h); refine step_app2 (.tmp 23) (.tmp 25) (v := .slice (some ⟨V.heap.size, 0, none⟩) 0 0) E_leak (by rfl) (by rfl) (by rfl) (by rfl) V.heap.size 0 L1.length [] (flatC leakCells L1) hm0 (SrcAt.leaks hsz.2.2 (hzV.mono (by (repeat' (first | assumption | exact Below.refl _ _ | refine Below.drew ?_ | refine Below.alloc ?_ (by first | omega | (simp <;> omega)) _))))) (by omega) (by omega) (by first | omega | (simp [drew_heap] <;> omega)) ?_; intro v1 V1 ho1 hg1 _; (have hB1 : Below V.heap.size V V1 := app_grown (by (repeat' (first | assumption | exact Below.refl _ _ | refine Below.drew ?_ | refine Below.alloc ?_ (by first | omega | (simp <;> omega)) _))) hm0 hg1); (rw [Nat.zero_add, List.nil_append] at ho1); have hz1v := hB1.size; refine hK.out _ _ (fun _ => SF.out _ hB1) ?_; (try simp only [Act.put, List.getElem_toArray, List.getElem_cons_succ, List.getElem_cons_zero, List.setIfInBounds_toArray, List.set_cons_succ, List.set_cons_zero]); clear hK; have hs2 := src_grown hsr hg1 (by simp [Value.ownBlock]); refine wpZ_ready (rs := [6]) (by kernel_rfl) (by simp) (AllZ.cons rfl (fun K hK => ?_) AllZ.nil); refine step_app2 (.tmp 26) (.tmp 28) (v := v1) E_leak (by rfl) (by rfl) (by rfl) (by rfl) V.heap.size L1.length 1 (flatC leakCells L1) [.int .i64 z0, .int .i64 z1, .bool z2] (by first | exact ho1 | exact ho1.alloc _) hs2 (by omega) (by omega) (by first | omega | (simp [drew_heap] <;> omega)) ?_; intro v2 V2 ho2 hg2 _; (have hB2 : Below V.heap.size V V2 := app_grown (by (repeat' (first | assumption | exact Below.refl _ _ | refine Below.drew ?_ | refine Below.alloc ?_ (by first | omega | (simp <;> omega)) _))) (by first | exact ho1 | exact ho1.alloc _) hg2); (rw [leak_snoc, ← htk.out] at ho2); (have e2 : L1.length + 1 = L2.length := by rw [htk.out]; simp); (rw [e2] at ho2); clear e2; (obtain ⟨-, a9, c9, rfl, hs9, -⟩ := leaks_own ho2); (have hc2 : V2.heap[X.heap.size]? = _ := (hB2.block _ zoV).trans hVo); have hHeld2 := SF.out _ hB2; refine hK.out _ _ (fun _ => hHeld2) ?_; (try simp only [Act.put, List.getElem_toArray, List.getElem_cons_succ, List.getElem_cons_zero, List.setIfInBounds_toArray, List.set_cons_succ, List.set_cons_zero]); clear hK; (refine wpZ_take (i := 7) (v := ?_) rfl (by kernel_rfl) (by kernel_rfl) (by kernel_rfl) (by kernel_rfl) (fun _ _ _ h => h) (Or.inl ⟨by kernel_rfl, ?_⟩) (by assumption) ?_; rotate_left 1; (focus (intro w hSw; (try dsimp only at hSw); go_simp; first | done | with_reducible rfl)); simp only [Act.put, List.getElem_toArray, List.getElem_cons_succ, List.getElem_cons_zero, List.setIfInBounds_toArray, List.set_cons_succ, List.set_cons_zero]); have k2 : V2.cell? ⟨X.heap.size, 2, none⟩ = some (.slice a3 L1.length k3) := blk_cell 2 hc2 rfl; have k3 := blk_free 2 hc2; have zo2 := lt_of_block hc2; refine wpZ_ready (rs := [8]) (by kernel_rfl) (by simp) (AllZ.cons rfl (fun K hK => ?_) AllZ.nil); (go_simp; refine hK.out _ _ (fun h => absurd rfl h) ?_; (try simp only [Act.put, List.getElem_toArray, List.getElem_cons_succ, List.getElem_cons_zero, List.setIfInBounds_toArray, List.set_cons_succ, List.set_cons_zero]); clear hK; refine wpZ_done (by kernel_rfl) ?_ _))))); rotate_left 2; (focus ((go_simp; refine hK.out _ _ (fun _ => SF.out _ (by (repeat' (first | assumption | exact Below.refl _ _ | refine Below.drew ?_ | refine Below.alloc ?_ (by first | omega | (simp <;> omega)) _)))) ?_; (try simp only [Act.put, List.getElem_toArray, List.getElem_cons_succ, List.getElem_cons_zero, List.setIfInBounds_toArray, List.set_cons_succ, List.set_cons_zero]); clear hK); refine wpZ_ready (rs := [0]) (by kernel_rfl) (by simp) (AllZ.cons rfl (fun K hK => ?_) AllZ.nil); (go_simp; refine hK.out _ _ (fun _ => SF.out _ (by (repeat' (first | assumption | exact Below.refl _ _ | refine Below.drew ?_ | refine Below.alloc ?_ (by first | omega | (simp <;> omega)) _)))) ?_; (try simp only [Act.put, List.getElem_toArray, List.getElem_cons_succ, List.getElem_cons_zero, List.setIfInBounds_toArray, List.set_cons_succ, List.set_cons_zero]); clear hK); refine wpZ_ready (rs := [3]) (by kernel_rfl) (by simp) (AllZ.cons rfl (fun K hK => ?_) AllZ.nil); have hm0 : (((V.alloc (.cells #[.int .i64 z0, .int .i64 z1, .bool z2] 79)).alloc (.cells #[] 79)).drew).ownsRow V.heap.size 79 3 (.slice (some ⟨V.heap.size + 1, 0, none⟩) 0 0) 0 [] := (by have h := (made_row2 (B := V.heap.size) (W := V.alloc (.cells #[.int .i64 z0, .int .i64 z1, .bool z2] 79)) (by simp) 79 3).drew; rwa [show (V.alloc (.cells #[.int .i64 z0, .int .i64 z1, .bool z2] 79)).heap.size = V.heap.size + 1 from by simp] at h); have hsr : SrcAt (((V.alloc (.cells #[.int .i64 z0, .int .i64 z1, .bool z2] 79)).alloc (.cells #[] 79)).drew) (.slice (some ⟨V.heap.size, 0, none⟩) 1 1) 1 3 [.int .i64 z0, .int .i64 z1, .bool z2] := (SrcAt.leak1 V z0 z1 z2 79).below (below_drew' (al_on _ _)); refine step_app2 (.tmp 23) (.tmp 25) (v := .slice (some ⟨V.heap.size + 1, 0, none⟩) 0 0) E_leak (by rfl) (by rfl) (by rfl) (by rfl) V.heap.size 0 L1.length [] (flatC leakCells L1) hm0 (SrcAt.leaks hsz.2.2 (hzV.mono (by (repeat' (first | assumption | exact Below.refl _ _ | refine Below.drew ?_ | refine Below.alloc ?_ (by first | omega | (simp <;> omega)) _))))) (by omega) (by omega) (by first | omega | (simp [drew_heap] <;> omega)) ?_; intro v1 V1 ho1 hg1 _; (have hB1 : Below V.heap.size V V1 := app_grown (by (repeat' (first | assumption | exact Below.refl _ _ | refine Below.drew ?_ | refine Below.alloc ?_ (by first | omega | (simp <;> omega)) _))) hm0 hg1); (rw [Nat.zero_add, List.nil_append] at ho1); have hz1v := hB1.size; refine hK.out _ _ (fun _ => SF.out _ hB1) ?_; (try simp only [Act.put, List.getElem_toArray, List.getElem_cons_succ, List.getElem_cons_zero, List.setIfInBounds_toArray, List.set_cons_succ, List.set_cons_zero]); clear hK; have hs2 := src_grown hsr hg1 (by simp [Value.ownBlock]); refine wpZ_ready (rs := [6]) (by kernel_rfl) (by simp) (AllZ.cons rfl (fun K hK => ?_) AllZ.nil); refine step_app2 (.tmp 26) (.tmp 28) (v := v1) E_leak (by rfl) (by rfl) (by rfl) (by rfl) V.heap.size L1.length 1 (flatC leakCells L1) [.int .i64 z0, .int .i64 z1, .bool z2] (by first | exact ho1 | exact ho1.alloc _) hs2 (by omega) (by omega) (by first | omega | (simp [drew_heap] <;> omega)) ?_; intro v2 V2 ho2 hg2 _; (have hB2 : Below V.heap.size V V2 := app_grown (by (repeat' (first | assumption | exact Below.refl _ _ | refine Below.drew ?_ | refine Below.alloc ?_ (by first | omega | (simp <;> omega)) _))) (by first | exact ho1 | exact ho1.alloc _) hg2); (rw [leak_snoc, ← htk.out] at ho2); (have e2 : L1.length + 1 = L2.length := by rw [htk.out]; simp); (rw [e2] at ho2); clear e2; (obtain ⟨-, a9, c9, rfl, hs9, -⟩ := leaks_own ho2); (have hc2 : V2.heap[X.heap.size]? = _ := (hB2.block _ zoV).trans hVo); have hHeld2 := SF.out _ hB2; refine hK.out _ _ (fun _ => hHeld2) ?_; (try simp only [Act.put, List.getElem_toArray, List.getElem_cons_succ, List.getElem_cons_zero, List.setIfInBounds_toArray, List.set_cons_succ, List.set_cons_zero]); clear hK; (refine wpZ_take (i := 7) (v := ?_) rfl (by kernel_rfl) (by kernel_rfl) (by kernel_rfl) (by kernel_rfl) (fun _ _ _ h => h) (Or.inl ⟨by kernel_rfl, ?_⟩) (by assumption) ?_; rotate_left 1; (focus (intro w hSw; (try dsimp only at hSw); go_simp; first | done | with_reducible rfl)); simp only [Act.put, List.getElem_toArray, List.getElem_cons_succ, List.getElem_cons_zero, List.setIfInBounds_toArray, List.set_cons_succ, List.set_cons_zero]); have k2 : V2.cell? ⟨X.heap.size, 2, none⟩ = some (.slice a3 L1.length k3) := blk_cell 2 hc2 rfl; have k3 := blk_free 2 hc2; have zo2 := lt_of_block hc2; refine wpZ_ready (rs := [8]) (by kernel_rfl) (by simp) (AllZ.cons rfl (fun K hK => ?_) AllZ.nil); (go_simp; refine hK.out _ _ (fun h => absurd rfl h) ?_; (try simp only [Act.put, List.getElem_toArray, List.getElem_cons_succ, List.getElem_cons_zero, List.setIfInBounds_toArray, List.set_cons_succ, List.set_cons_zero]); clear hK; refine wpZ_done (by kernel_rfl) ?_ _)))
    all_goals
      go_wp2
      go_meet
      case rel =>
        rw [hK2.out]
        have hbX : Below X.heap.size V (V2.setCell ⟨X.heap.size, 2, none⟩ (.slice a9 L2.length c9)) := (hB2.mono (Nat.le_of_lt zoV)).setCell (Nat.le_refl _) _
        have h := ownsRow_setCell_other ho2 (a := ⟨X.heap.size, 2, none⟩) (fun e => by have h1 := (ho2.lt _ e).1; simp only at h1; omega) (.slice a9 L2.length c9)
        obtain ⟨_, a8, c8, e8, hs8, hw8⟩ := leaks_own h
        cases e8
        have hM := hm.mono (hwV.trans (hbX.mono (Nat.le_of_lt zwX)))
        refine ⟨a9, c9, blk_set 2 _ hc2, ⟨hM.ok1, hM.ok2, ?_, hM.ok4, ⟨Nat.le_refl _, by omega, fun _ => rfl⟩, hM.writers, hM.kept, ?_, hM.letters, fun i hi => absurd hi (Nat.not_lt_zero i), hM.wsize⟩, hbX⟩
        · rw [hK2.out]; exact hs8
        · rw [hK2.out]; exact hw8
  case rest =>
    obtain ⟨a9, c9, hVm, MK, hXc⟩ := hcut
    obtain ⟨K, hK⟩ : ∃ K, K = leakRoom r ⟨z0, z1, z2⟩ := ⟨_, rfl⟩
    obtain ⟨r0, hr0⟩ : ∃ r0, r0 = withHeard r [] := ⟨_, rfl⟩
    have hL : Lens K r.writers.length r.kept.length K.leaks.length r.letters.length 0 := by rw [hK]; exact ⟨rfl, rfl, rfl, rfl, rfl⟩
    have hL0 : Lens r0 r.writers.length r.kept.length r.leaks.length r.letters.length 0 := by rw [hr0]; exact ⟨rfl, rfl, rfl, rfl, rfl⟩
    rw [← hK] at hVm MK
    replace h1 := (hXc.block _ (by omega)).trans h1
    replace h2 := (hXc.block _ (by omega)).trans h2
    replace h3 := (hXc.block _ (by omega)).trans h3
    have HD : Hid (∀ V, Below wc.heap.size wc V → (V.cell? ⟨w.heap.size, 0, none⟩ = some (.slice a1 r.writers.length k1) ∧ V.cell? ⟨w.heap.size, 1, none⟩ = some (.slice a2 r.kept.length k2) ∧ V.cell? ⟨w.heap.size, 2, none⟩ = some (.slice a3 r.leaks.length k3) ∧ V.cell? ⟨w.heap.size, 3, none⟩ = some (.slice a4 r.letters.length k4) ∧ V.cell? ⟨w.heap.size, 4, none⟩ = some (.slice none 0 0) ∧ w.heap.size < V.heap.size ∧ V.cell? ⟨w.heap.size + 1, 0, none⟩ = some (.int .i64 z0) ∧ V.cell? ⟨w.heap.size + 1, 1, none⟩ = some (.int .i64 z1) ∧ V.cell? ⟨w.heap.size + 1, 2, none⟩ = some (.bool z2) ∧ w.heap.size + 1 < V.heap.size ∧ V.cell? ⟨w.heap.size + 1 + 1, 0, none⟩ = some (.int .u8 (x0 : Int)) ∧ V.cell? ⟨w.heap.size + 1 + 1, 1, none⟩ = some (.int .u8 (x1 : Int)) ∧ V.cell? ⟨w.heap.size + 1 + 1, 2, none⟩ = some (.int .u8 (x2 : Int)) ∧ w.heap.size + 1 + 1 < V.heap.size ∧ V.cell? ⟨X.heap.size, 0, none⟩ = some (.slice a1 r.writers.length k1) ∧ V.cell? ⟨X.heap.size, 1, none⟩ = some (.slice a2 r.kept.length k2) ∧ V.cell? ⟨X.heap.size, 2, none⟩ = some (.slice a9 K.leaks.length c9) ∧ V.cell? ⟨X.heap.size, 3, none⟩ = some (.slice a4 r.letters.length k4) ∧ V.cell? ⟨X.heap.size, 4, none⟩ = some (.slice none 0 0) ∧ X.heap.size < V.heap.size)) := Lib.hid (fun V h => by
      have v1 := (h.block _ (lt_of_block h1)).trans h1
      have v2 := (h.block _ (lt_of_block h2)).trans h2
      have v3 := (h.block _ (lt_of_block h3)).trans h3
      have v4 := (h.block _ (lt_of_block hVm)).trans hVm
      exact ⟨blk_cell 0 v1 rfl, blk_cell 1 v1 rfl, blk_cell 2 v1 rfl, blk_cell 3 v1 rfl, blk_cell 4 v1 rfl, lt_of_block v1, blk_cell 0 v2 rfl, blk_cell 1 v2 rfl, blk_cell 2 v2 rfl, lt_of_block v2, blk_cell 0 v3 rfl, blk_cell 1 v3 rfl, blk_cell 2 v3 rfl, lt_of_block v3, blk_cell 0 v4 rfl, blk_cell 1 v4 rfl, blk_cell 2 v4 rfl, blk_cell 3 v4 rfl, blk_cell 4 v4 rfl, lt_of_block v4⟩)
    have hwc : Below w.heap.size w wc := hwV.trans (hXc.mono (Nat.le_of_lt zwX))
    have MR : RoomC wc a1 a2 a3 a4 none k1 k2 k3 k4 0 r0 := by
      have hM := hm.mono hwc
      rw [hr0]
      exact ⟨hM.ok1, hM.ok2, hM.ok3, hM.ok4, ⟨Nat.le_refl _, by omega, fun _ => rfl⟩, hM.writers, hM.kept, hM.leaks, hM.letters, fun i hi => absurd hi (Nat.not_lt_zero i), hM.wsize⟩
    replace M := Lib.hid (fun (V : World) (h : Below wc.heap.size wc V) => MR.mono h)
    have N := Lib.hid (fun (V : World) (h : Below wc.heap.size wc V) => MK.mono h)
    clear h1 h2 h3 hVm MK MR hXc hwV hVo zwX zX
    have hQ := Below.refl wc.heap.size wc
    have hx := HD.out _ hQ
    by_cases hv0 : seErr r0 = 0
    · have hv := Lib.hid (decide_eq_true hv0)
      by_cases ht0 : seErr K = 0
      · have ht := Lib.hid (decide_eq_true ht0)
        rw [hK] at ht0
        rw [hr0] at hv0
        have l1 := hm.ok1.len
        have l2 := hm.ok2.len
        have l3 := hm.ok3.len
        have l4 := hm.ok4.len
        have hw0 := leak_writers ht0
        have LM := Lib.hid (fun i (hi : i < r.letters.length) => leak_may hv0 ht0 hi)
        have LS := Lib.hid (fun u s (hu : u < r.writers.length) (hs : s < r.kept.length) => leak_since hv0 ht0 hu hs)
        rw [← hr0, ← hK] at LM LS
        clear hr0 hK hv0 ht0
        go_upto_region 6 with (first
          | (go_at_call 37; (with_reducible refine (C_Valid _ _ _ _ _ _ _ _ _ _ _ _ _ _ _ K hL true ht.out _ (N.out _ hQ)).mono ?_); rintro e w4 ⟨rfl, hb⟩; replace hQ := q_on hQ hb; replace hx := HD.out _ hQ; dsimp only)
          | (go_at_call 37; (with_reducible refine (C_Valid _ _ _ _ _ _ _ _ _ _ _ _ _ _ _ r0 hL0 true hv.out _ (M.out _ hQ)).mono ?_); rintro e w3 ⟨rfl, hb⟩; replace hQ := q_on hQ hb; replace hx := HD.out _ hQ; dsimp only))
        have hw1 : ((r.writers.length : Int) == 0) = false := eqi_f (by omega)
        by_cases hk0 : r.kept.length = 0
        · have q6 : decide ((0 : Int) < (r.kept.length : Int)) = false := decide_eq_false (by omega)
          have q7 : decide (0 < r.kept.length) = false := decide_eq_false (by omega)
          clear hk0 LS
          by_cases hz4 : r.letters.length = 0
          · have q4 : ((r.letters.length : Int) == 0) = true := eqi_t (by omega)
            clear hz4
            go_wp2_with (go_at_call 22; (with_reducible refine (Awake_any _).mono ?_); rintro e w11 ⟨rfl, hb⟩; replace hQ := q_on hQ hb; replace hx := HD.out _ hQ; dsimp only)
            go_ret
            exact ⟨rfl, hwc.trans (hQ.mono hwc.size)⟩
          · have q4 : ((r.letters.length : Int) == 0) = false := eqi_f (by omega)
            obtain ⟨t, ht9⟩ : ∃ t : Nat, t = x2 % r.letters.length := ⟨_, rfl⟩
            have htl : t < r.letters.length := by rw [ht9]; exact Nat.mod_lt _ (by omega)
            have f4 : (x2 : Int) % (r.letters.length : Int) = (t : Int) := by rw [ht9]; exact (Int.natCast_emod _ _).symm
            clear ht9 hz4
            obtain ⟨la, lb, m1, m2, hsub, hla, hlb⟩ := LM.out t htl
            replace m1 := Lib.hid m1
            replace m2 := Lib.hid m2
            replace hsub := Lib.hid hsub
            clear LM
            go_wp2_with (first
              | (go_at_call 22; (with_reducible refine (Awake_any _).mono ?_); rintro e w13 ⟨rfl, hb⟩; replace hQ := q_on hQ hb; replace hx := HD.out _ hQ; dsimp only)
              | (go_at_call 51; (with_reducible refine (Subset_yes _ _ _ _ _ _ _ hsub.out o2 o1 i2 i1).mono ?_); rintro e w99 ⟨rfl, rfl⟩; dsimp only)
              | (go_at_call 28; (with_reducible refine (C_May _ _ _ _ _ _ _ _ _ _ _ _ _ _ _ K hL (t : Int) lb 0 m2.out _ (N.out _ hQ)).mono ?_); rintro e w12 ⟨b2, c2, rfl, o2, i2, hb⟩; replace i1 := i1.mono hb; replace hQ := q_on hQ hb; replace hx := HD.out _ hQ; dsimp only)
              | (go_at_call 28; (with_reducible refine (C_May _ _ _ _ _ _ _ _ _ _ _ _ _ _ _ r0 hL0 (t : Int) la 0 m1.out _ (M.out _ hQ)).mono ?_); rintro e w11 ⟨b1, c1, rfl, o1, i1, hb⟩; replace hQ := q_on hQ hb; replace hx := HD.out _ hQ; dsimp only))
            go_ret
            exact ⟨rfl, hwc.trans (hQ.mono hwc.size)⟩
        · have q6 : decide ((0 : Int) < (r.kept.length : Int)) = true := decide_eq_true (by omega)
          have q7 : decide (0 < r.kept.length) = true := decide_eq_true (by omega)
          have hk1 : ((r.kept.length : Int) == 0) = false := eqi_f (by omega)
          obtain ⟨u, hu⟩ : ∃ u : Nat, u = x0 % r.writers.length := ⟨_, rfl⟩
          obtain ⟨s, hsn⟩ : ∃ s : Nat, s = x1 % r.kept.length := ⟨_, rfl⟩
          have hul : u < r.writers.length := by rw [hu]; exact Nat.mod_lt _ (by omega)
          have hsl : s < r.kept.length := by rw [hsn]; exact Nat.mod_lt _ (by omega)
          have f0 : (x0 : Int) % (r.writers.length : Int) = (u : Int) := by rw [hu]; exact (Int.natCast_emod _ _).symm
          have f1 : (x1 : Int) % (r.kept.length : Int) = (s : Int) := by rw [hsn]; exact (Int.natCast_emod _ _).symm
          clear hu hsn
          obtain ⟨lo, hi, m, lo2, hi2, n, e1, e2, hm1, hm2⟩ := LS.out u s hul hsl
          have hm3 := since_lit _ _ _ e1
          have hn3 := since_lit _ _ _ e2
          replace e1 := Lib.hid e1
          replace e2 := Lib.hid e2
          replace hm1 := Lib.hid hm1
          replace hm2 := Lib.hid hm2
          clear LS hul hsl
          go_upto_region 7 with (fail)
          clear q6 q7
          go_quiet (fail); replace hQ := q_on hQ (below_draws _ _ nq); generalize World.drewN w4 nq = V1 at hQ ⊢; clear nq; replace hx := HD.out _ hQ
          simp only [f0, f1]
          clear f0 f1
          go_upto_region 10 with (first
            | (go_at_call 18; (with_reducible refine (C_Since _ _ _ _ _ _ _ _ _ _ _ _ _ _ _ K hL (u : Int) (s : Int) lo2 hi2 n 0 e2.out _ (N.out _ hQ)).mono ?_); rintro e w6 ⟨rfl, hb⟩; replace s1 := sp_on s1 hb; replace hQ := q_on hQ hb; have s2 := sp_new w6 lo2 hi2 34; replace hb := al_on w6 (.cells #[.int .i64 lo2, .int .i64 hi2] 34); replace s1 := sp_on s1 hb; replace hQ := q_on hQ hb; replace hx := HD.out _ hQ; dsimp only)
            | (go_at_call 18; (with_reducible refine (C_Since _ _ _ _ _ _ _ _ _ _ _ _ _ _ _ r0 hL0 (u : Int) (s : Int) lo hi m 0 e1.out _ (M.out _ hQ)).mono ?_); rintro e w5 ⟨rfl, hb⟩; replace hQ := q_on hQ hb; have s1 := sp_new w5 lo hi 34; replace hb := al_on w5 (.cells #[.int .i64 lo, .int .i64 hi] 34); replace hQ := q_on hQ hb; replace hx := HD.out _ hQ; dsimp only))
          obtain ⟨t1, t2, t3⟩ := s1
          obtain ⟨t4, t5, t6⟩ := s2
          obtain ⟨U, hU⟩ : ∃ U : World, U = w6.alloc (.cells #[.int .i64 lo2, .int .i64 hi2] 34) := ⟨_, rfl⟩
          rw [← hU] at hQ hx t1 t2 t3 t4 t5 t6 ⊢
          clear hU hb e1 e2
          go_cut [102] from 74 to 102 (fun v W => v = .bool false ∧ W = U)
          case first =>
            rcases hm3 with rfl | rfl | rfl <;> rcases hn3 with rfl | rfl | rfl
            all_goals
              first
                | (exact absurd (hm1.out rfl) (by decide))
                | (exact absurd rfl (hm2.out (by decide)).1)
                | (have hlo := (hm2.out (by decide)).2
                   have hlo2 : decide (lo < lo2) = false := decide_eq_false (by omega)
                   clear hm1 hm2
                   go_wp2
                   go_meet
                   case rel => exact ⟨rfl, rfl⟩)
                | (clear hm1 hm2
                   go_wp2
                   go_meet
                   case rel => exact ⟨rfl, rfl⟩)
          case rest =>
            obtain ⟨rfl, rfl⟩ := hcut
            clear hm1 hm2 hm3 hn3 t1 t2 t3 t4 t5 t6
            by_cases hz4 : r.letters.length = 0
            · have q4 : ((r.letters.length : Int) == 0) = true := eqi_t (by omega)
              clear hz4
              go_wp2_with (go_at_call 22; (with_reducible refine (Awake_any _).mono ?_); rintro e w11 ⟨rfl, hb⟩; replace hQ := q_on hQ hb; replace hx := HD.out _ hQ; dsimp only)
              go_ret
              exact ⟨rfl, hwc.trans (hQ.mono hwc.size)⟩
            · have q4 : ((r.letters.length : Int) == 0) = false := eqi_f (by omega)
              obtain ⟨t, ht9⟩ : ∃ t : Nat, t = x2 % r.letters.length := ⟨_, rfl⟩
              have htl : t < r.letters.length := by rw [ht9]; exact Nat.mod_lt _ (by omega)
              have f4 : (x2 : Int) % (r.letters.length : Int) = (t : Int) := by rw [ht9]; exact (Int.natCast_emod _ _).symm
              clear ht9 hz4
              obtain ⟨la, lb, m1, m2, hsub, hla, hlb⟩ := LM.out t htl
              replace m1 := Lib.hid m1
              replace m2 := Lib.hid m2
              replace hsub := Lib.hid hsub
              clear LM
              go_wp2_with (first
                | (go_at_call 22; (with_reducible refine (Awake_any _).mono ?_); rintro e w13 ⟨rfl, hb⟩; replace hQ := q_on hQ hb; replace hx := HD.out _ hQ; dsimp only)
                | (go_at_call 51; (with_reducible refine (Subset_yes _ _ _ _ _ _ _ hsub.out o2 o1 i2 i1).mono ?_); rintro e w99 ⟨rfl, rfl⟩; dsimp only)
                | (go_at_call 28; (with_reducible refine (C_May _ _ _ _ _ _ _ _ _ _ _ _ _ _ _ K hL (t : Int) lb 0 m2.out _ (N.out _ hQ)).mono ?_); rintro e w12 ⟨b2, c2, rfl, o2, i2, hb⟩; replace i1 := i1.mono hb; replace hQ := q_on hQ hb; replace hx := HD.out _ hQ; dsimp only)
                | (go_at_call 28; (with_reducible refine (C_May _ _ _ _ _ _ _ _ _ _ _ _ _ _ _ r0 hL0 (t : Int) la 0 m1.out _ (M.out _ hQ)).mono ?_); rintro e w11 ⟨b1, c1, rfl, o1, i1, hb⟩; replace hQ := q_on hQ hb; replace hx := HD.out _ hQ; dsimp only))
              go_ret
              exact ⟨rfl, hwc.trans (hQ.mono hwc.size)⟩
      · have ht := Lib.hid (decide_eq_false ht0)
        clear hK hr0 ht0
        go_wp2_with (first
          | (go_at_call 22; (with_reducible refine (Awake_any _).mono ?_); rintro e w5 ⟨rfl, hb⟩; replace hQ := q_on hQ hb; replace hx := HD.out _ hQ; dsimp only)
          | (go_at_call 37; (with_reducible refine (C_Valid _ _ _ _ _ _ _ _ _ _ _ _ _ _ _ K hL false ht.out _ (N.out _ hQ)).mono ?_); rintro e w4 ⟨rfl, hb⟩; replace hQ := q_on hQ hb; replace hx := HD.out _ hQ; dsimp only)
          | (go_at_call 37; (with_reducible refine (C_Valid _ _ _ _ _ _ _ _ _ _ _ _ _ _ _ r0 hL0 true hv.out _ (M.out _ hQ)).mono ?_); rintro e w3 ⟨rfl, hb⟩; replace hQ := q_on hQ hb; replace hx := HD.out _ hQ; dsimp only))
        go_ret
        exact ⟨rfl, hwc.trans (hQ.mono hwc.size)⟩
    · have hv := Lib.hid (decide_eq_false hv0)
      clear hK hr0 hv0
      go_wp2_with (first
        | (go_at_call 22; (with_reducible refine (Awake_any _).mono ?_); rintro e w4 ⟨rfl, hb⟩; replace hQ := q_on hQ hb; replace hx := HD.out _ hQ; dsimp only)
        | (go_at_call 37; (with_reducible refine (C_Valid _ _ _ _ _ _ _ _ _ _ _ _ _ _ _ r0 hL0 false hv.out _ (M.out _ hQ)).mono ?_); rintro e w3 ⟨rfl, hb⟩; replace hQ := q_on hQ hb; replace hx := HD.out _ hQ; dsimp only))
      go_ret
      exact ⟨rfl, hwc.trans (hQ.mono hwc.size)⟩
end Go.Proofs.Ytmhbjohpggghgaa
