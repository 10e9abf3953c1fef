/- What is proved here: the walk of SecretMore: it returns true, and turns nothing that was there. Conditions: the room lies in memory. -/
import Derived.Test.YtmhbjohpggghgaaSwB
import Derived.Test.YtmhbjohpggghgaaSw3
set_option linter.unusedVariables false
set_option linter.unusedSimpArgs false
namespace Go.Proofs.Ytmhbjohpggghgaa
open Go Go.RowKit
set_option maxRecDepth 100000 in
set_option maxHeartbeats 4000000 in
theorem SecretMore_walk (a1 a2 a3 a4 a5 : Option Addr) (k1 k2 k3 k4 k5 : Nat) (r : SeRoom) (z0 z1 z2 : Int) (z3 : Bool) (x0 x1 x2 x3 : Nat) (g0 : x0 ≤ 255) (g1 : x1 ≤ 255) (g2 : x2 ≤ 255) (g3 : x3 ≤ 255) (hbig : (r.heard.length + 1) * 32 ≤ 140737488355328) (w : World) (hm : RoomC w a1 a2 a3 a4 a5 k1 k2 k3 k4 k5 r) : Calls Try.prog 11 #[(.agg #[.slice a1 r.writers.length k1, .slice a2 r.kept.length k2, .slice a3 r.leaks.length k3, .slice a4 r.letters.length k4, .slice a5 r.heard.length k5]), .agg #[.int .i64 z0, .int .i64 z1, .int .i64 z2, .bool z3], .agg #[.int .u8 (x0 : Int), .int .u8 (x1 : Int), .int .u8 (x2 : Int), .int .u8 (x3 : Int)]] w fun e w' => e = .returned (.bool true) ∧ Below w.heap.size w w' := by
  obtain ⟨X, hX⟩ : ∃ X : World, X = (((w.alloc (.cells #[.slice a1 r.writers.length k1, .slice a2 r.kept.length k2, .slice a3 r.leaks.length k3, .slice a4 r.letters.length k4, .slice a5 r.heard.length k5] 28)).alloc (.cells #[.int .i64 z0, .int .i64 z1, .int .i64 z2, .bool z3] 74)).alloc (.cells #[.int .u8 (x0 : Int), .int .u8 (x1 : Int), .int .u8 (x2 : Int), .int .u8 (x3 : Int)] 75)) := ⟨_, rfl⟩
  have hwX : Below w.heap.size w X := by rw [hX]; exact (by (repeat' (first | assumption | exact Below.refl _ _ | refine below_drew' ?_ | refine Below.setCell ?_ (by first | omega | (simp <;> omega)) _ | refine Below.alloc ?_ (by first | omega | (simp <;> omega)) _)))
  have g1 : X.heap[w.heap.size]? = some (.cells #[.slice a1 r.writers.length k1, .slice a2 r.kept.length k2, .slice a3 r.leaks.length k3, .slice a4 r.letters.length k4, .slice a5 r.heard.length k5] 28 (0, 0)) := by rw [hX]; (repeat' (first | exact alloc_at _ _ (by simp) | refine (heap_alloc_old _ _ (by first | omega | (simp <;> omega))).trans ?_))
  have g2 : X.heap[w.heap.size + 1]? = some (.cells #[.int .i64 z0, .int .i64 z1, .int .i64 z2, .bool z3] 74 (0, 0)) := by rw [hX]; (repeat' (first | exact alloc_at _ _ (by simp) | refine (heap_alloc_old _ _ (by first | omega | (simp <;> omega))).trans ?_))
  have g3 : X.heap[w.heap.size + 1 + 1]? = some (.cells #[.int .u8 (x0 : Int), .int .u8 (x1 : Int), .int .u8 (x2 : Int), .int .u8 (x3 : Int)] 75 (0, 0)) := by rw [hX]; (repeat' (first | exact alloc_at _ _ (by simp) | refine (heap_alloc_old _ _ (by first | omega | (simp <;> omega))).trans ?_))
  replace g1 := fun (V : World) (h : Below X.heap.size X V) => (h.block _ (lt_of_block g1)).trans g1
  replace g2 := fun (V : World) (h : Below X.heap.size X V) => (h.block _ (lt_of_block g2)).trans g2
  replace g3 := fun (V : World) (h : Below X.heap.size X V) => (h.block _ (lt_of_block g3)).trans g3
  have HC : Hid (∀ V, Below X.heap.size X V → (V.cell? ⟨w.heap.size, 0, none⟩ = some (.slice a1 r.writers.length k1) ∧ V.cell? ⟨w.heap.size, 1, none⟩ = some (.slice a2 r.kept.length k2) ∧ V.cell? ⟨w.heap.size, 2, none⟩ = some (.slice a3 r.leaks.length k3) ∧ V.cell? ⟨w.heap.size, 3, none⟩ = some (.slice a4 r.letters.length k4) ∧ V.cell? ⟨w.heap.size, 4, none⟩ = some (.slice a5 r.heard.length k5) ∧ V.cell? ⟨w.heap.size + 1, 0, none⟩ = some (.int .i64 z0) ∧ V.cell? ⟨w.heap.size + 1, 1, none⟩ = some (.int .i64 z1) ∧ V.cell? ⟨w.heap.size + 1, 2, none⟩ = some (.int .i64 z2) ∧ V.cell? ⟨w.heap.size + 1, 3, none⟩ = some (.bool z3) ∧ V.cell? ⟨w.heap.size + 1 + 1, 0, none⟩ = some (.int .u8 (x0 : Int)) ∧ V.cell? ⟨w.heap.size + 1 + 1, 1, none⟩ = some (.int .u8 (x1 : Int)) ∧ V.cell? ⟨w.heap.size + 1 + 1, 2, none⟩ = some (.int .u8 (x2 : Int)) ∧ V.cell? ⟨w.heap.size + 1 + 1, 3, none⟩ = some (.int .u8 (x3 : Int)) ∧ w.heap.size < V.heap.size ∧ w.heap.size + 1 < V.heap.size ∧ w.heap.size + 1 + 1 < V.heap.size)) := Lib.hid (fun V h => ⟨blk_cell 0 (g1 V h) rfl, blk_cell 1 (g1 V h) rfl, blk_cell 2 (g1 V h) rfl, blk_cell 3 (g1 V h) rfl, blk_cell 4 (g1 V h) rfl, blk_cell 0 (g2 V h) rfl, blk_cell 1 (g2 V h) rfl, blk_cell 2 (g2 V h) rfl, blk_cell 3 (g2 V h) rfl, blk_cell 0 (g3 V h) rfl, blk_cell 1 (g3 V h) rfl, blk_cell 2 (g3 V h) rfl, blk_cell 3 (g3 V h) rfl, lt_of_block (g1 V h), lt_of_block (g2 V h), lt_of_block (g3 V h)⟩)
  have M := Lib.hid (fun (V : World) (h : Below X.heap.size X V) => (hm.mono hwX).mono h)
  clear g1 g2 g3
  have hQ := Below.refl X.heap.size X
  have hx := HC.out _ hQ
  go_enter Try.func11, Try.ntmps11
  go_upto_region 1 with (fail)
  rw [← hX]
  clear hX
  go_upto_region 2 with (fail)
  obtain ⟨V, hV⟩ : ∃ V : World, V = X.alloc (.cells #[.slice a1 r.writers.length k1, .slice a2 r.kept.length k2, .slice a3 r.leaks.length k3, .slice a4 r.letters.length k4, .slice a5 r.heard.length k5] 28) := ⟨_, rfl⟩
  rw [← hV]
  have hXV : Below X.heap.size X V := by rw [hV]; exact al_on _ _
  have hVo : V.heap[X.heap.size]? = some (.cells #[.slice a1 r.writers.length k1, .slice a2 r.kept.length k2, .slice a3 r.leaks.length k3, .slice a4 r.letters.length k4, .slice a5 r.heard.length k5] 28 (0, 0)) := by rw [hV]; exact alloc_at _ _ rfl
  clear hV hx
  go_cut [] (fun W => ∃ a9 c9, W.heap[X.heap.size]? = some (.cells #[.slice a1 r.writers.length k1, .slice a2 r.kept.length k2, .slice a3 r.leaks.length k3, .slice a4 r.letters.length k4, .slice a9 (moreRoom r ⟨z0, z1, z2, z3⟩).heard.length c9] 28 (0, 0)) ∧ RoomC W a1 a2 a3 a4 a9 k1 k2 k3 k4 c9 (moreRoom r ⟨z0, z1, z2, z3⟩) ∧ Below X.heap.size X W)
  case first =>
    obtain ⟨L1, hL1⟩ : ∃ L1, L1 = r.heard := ⟨_, rfl⟩
    obtain ⟨L2, hL2⟩ : ∃ L2, L2 = L1 ++ [(⟨z0, z1, z2, z3⟩ : SeHeard)] := ⟨_, rfl⟩
    have htk := Lib.hid hL2
    have hK2 : Hid ((moreRoom r ⟨z0, z1, z2, z3⟩).heard = L2) := Lib.hid (by rw [hL2, hL1]; rfl)
    have hsz : SlOk a5 L1.length k5 := by rw [hL1]; exact hm.ok5
    have hzV : HeardC V a5 L1 := by rw [hL1]; exact (hm.heard.mono hwX).mono hXV
    have hll := hsz.len
    have hbb : (L1.length + 1) * 32 ≤ 140737488355328 := by rw [hL1]; exact hbig
    rw [← hL1] at hVo
    have hx := HC.out _ hXV
    rw [← hL1] at hx
    have SF : Hid (∀ W, Below V.heap.size V W → (fun W => Below V.heap.size V W ∧ W.cell? ⟨w.heap.size, 4, none⟩ = some (.slice a5 L1.length k5) ∧ W.cell? ⟨w.heap.size + 1, 0, none⟩ = some (.int .i64 z0) ∧ W.cell? ⟨w.heap.size + 1, 1, none⟩ = some (.int .i64 z1) ∧ W.cell? ⟨w.heap.size + 1, 2, none⟩ = some (.int .i64 z2) ∧ W.cell? ⟨w.heap.size + 1, 3, none⟩ = some (.bool z3) ∧ w.heap.size < W.heap.size ∧ w.heap.size + 1 < W.heap.size ∧ X.heap.size < W.heap.size) W) := Lib.hid (fun W h => by
      have h2 := HC.out _ (q_on hXV h)
      rw [← hL1] at h2
      exact ⟨h, by simp only [h2], by simp only [h2], by simp only [h2], by simp only [h2], by simp only [h2], by simp only [h2], by simp only [h2], Nat.lt_of_lt_of_le (lt_of_block hVo) h.size⟩)
    have zoV := lt_of_block hVo
    clear hbig hL1 hL2 hx
    refine wp_region_z (fun W => Below V.heap.size V W ∧ W.cell? ⟨w.heap.size, 4, none⟩ = some (.slice a5 L1.length k5) ∧ W.cell? ⟨w.heap.size + 1, 0, none⟩ = some (.int .i64 z0) ∧ W.cell? ⟨w.heap.size + 1, 1, none⟩ = some (.int .i64 z1) ∧ W.cell? ⟨w.heap.size + 1, 2, none⟩ = some (.int .i64 z2) ∧ W.cell? ⟨w.heap.size + 1, 3, none⟩ = some (.bool z3) ∧ w.heap.size < W.heap.size ∧ w.heap.size + 1 < W.heap.size ∧ X.heap.size < W.heap.size) 8 (by kernel_rfl) (SF.out V.drew (by (repeat' (first | assumption | exact Below.refl _ _ | refine Below.drew ?_ | refine Below.alloc ?_ (by first | omega | (simp <;> omega)) _)))) (fun hHeld => ?_)
    (refine wpZ_take (i := 1) (v := ?_) rfl (by kernel_rfl) (by kernel_rfl) (by kernel_rfl) (by kernel_rfl) (fun _ _ _ h => h) (Or.inl ⟨by kernel_rfl, ?_⟩) (by assumption) ?_; rotate_left 1; (focus (intro w hSw; (try dsimp only at hSw); go_simp; first | done | with_reducible rfl)); simp only [Act.put, List.getElem_toArray, List.getElem_cons_succ, List.getElem_cons_zero, List.setIfInBounds_toArray, List.set_cons_succ, List.set_cons_zero])
    (refine wpZ_take (i := 2) (v := ?_) rfl (by kernel_rfl) (by kernel_rfl) (by kernel_rfl) (by kernel_rfl) (fun _ _ _ h => h) (Or.inl ⟨by kernel_rfl, ?_⟩) (by assumption) ?_; rotate_left 1; (focus (intro w hSw; (try dsimp only at hSw); go_simp; first | done | with_reducible rfl)); simp only [Act.put, List.getElem_toArray, List.getElem_cons_succ, List.getElem_cons_zero, List.setIfInBounds_toArray, List.set_cons_succ, List.set_cons_zero])
    (refine wpZ_take (i := 4) (v := ?_) rfl (by kernel_rfl) (by kernel_rfl) (by kernel_rfl) (by kernel_rfl) (fun _ _ _ h => h) (Or.inl ⟨by kernel_rfl, ?_⟩) (by assumption) ?_; rotate_left 1; (focus (intro w hSw; (try dsimp only at hSw); go_simp; first | done | with_reducible rfl)); simp only [Act.put, List.getElem_toArray, List.getElem_cons_succ, List.getElem_cons_zero, List.setIfInBounds_toArray, List.set_cons_succ, List.set_cons_zero])
    refine wpZ_ready (rs := [0, 5]) (by kernel_rfl) (by simp) (AllZ.cons rfl (fun K hK => ?_) (AllZ.cons rfl (fun K hK => ?_) AllZ.nil)); (focus ((go_simp; refine hK.out _ _ (fun _ => SF.out _ (by (repeat' (first | assumption | exact Below.refl _ _ | refine Below.drew ?_ | refine Below.alloc ?_ (by first | omega | (simp <;> omega)) _)))) ?_; (try simp only [Act.put, List.getElem_toArray, List.getElem_cons_succ, List.getElem_cons_zero, List.setIfInBounds_toArray, List.set_cons_succ, List.set_cons_zero]); clear hK); refine wpZ_ready (rs := [3, 5]) (by kernel_rfl) (by simp) (AllZ.cons rfl (fun K hK => ?_) (AllZ.cons rfl (fun K hK => ?_) AllZ.nil)); (focus (have hm0 : ((V.alloc (.cells #[] 74)).drew).ownsRow V.heap.size 74 4 (.slice (some ⟨V.heap.size, 0, none⟩) 0 0) 0 [] := (made_row2 (Nat.le_refl _) _ _).drew; refine step_app2 (.tmp 28) (.tmp 30) (v := .slice (some ⟨V.heap.size, 0, none⟩) 0 0) E_heard (by rfl) (by rfl) (by rfl) (by rfl) V.heap.size 0 L1.length [] (flatC heardCells L1) hm0 (SrcAt.heard hsz.2.2 (hzV.mono (by (repeat' (first | assumption | exact Below.refl _ _ | refine Below.drew ?_ | refine Below.alloc ?_ (by first | omega | (simp <;> omega)) _))))) (by omega) (by omega) (by first | omega | (simp [drew_heap] <;> omega)) ?_; intro v1 V1 ho1 hg1 _; (have hB1 : Below V.heap.size V V1 := app_grown (by (repeat' (first | assumption | exact Below.refl _ _ | refine Below.drew ?_ | refine Below.alloc ?_ (by first | omega | (simp <;> omega)) _))) hm0 hg1); (rw [Nat.zero_add, List.nil_append] at ho1); have hz1v := hB1.size; refine hK.out _ _ (fun _ => SF.out _ hB1) ?_; (try simp only [Act.put, List.getElem_toArray, List.getElem_cons_succ, List.getElem_cons_zero, List.setIfInBounds_toArray, List.set_cons_succ, List.set_cons_zero]); clear hK; refine wpZ_ready (rs := [5]) (by kernel_rfl) (by simp) (AllZ.cons rfl (fun K hK => ?_) AllZ.nil); (go_simp; refine hK.out _ _ (fun _ => SF.out _ (by (repeat' (first | assumption | exact Below.refl _ _ | refine Below.drew ?_ | refine Below.alloc ?_ (by first | omega | (simp <;> omega)) _)))) ?_; (try simp only [Act.put, List.getElem_toArray, List.getElem_cons_succ, List.getElem_cons_zero, List.setIfInBounds_toArray, List.set_cons_succ, List.set_cons_zero]); clear hK); have hs2 := SrcAt.heard1 V1 z0 z1 z2 z3 74; refine wpZ_ready (rs := [6]) (by kernel_rfl) (by simp) (AllZ.cons rfl (fun K hK => ?_) AllZ.nil); refine step_app2 (.tmp 31) (.tmp 33) (v := v1) E_heard (by rfl) (by rfl) (by rfl) (by rfl) V.heap.size L1.length 1 (flatC heardCells L1) [.int .i64 z0, .int .i64 z1, .int .i64 z2, .bool z3] (by first | exact ho1 | exact ho1.alloc _) hs2 (by omega) (by omega) (by first | omega | (simp [drew_heap] <;> omega)) ?_; intro v2 V2 ho2 hg2 _; (have hB2 : Below V.heap.size V V2 := app_grown (by (repeat' (first | assumption | exact Below.refl _ _ | refine Below.drew ?_ | refine Below.alloc ?_ (by first | omega | (simp <;> omega)) _))) (by first | exact ho1 | exact ho1.alloc _) hg2); (rw [heard_snoc, ← htk.out] at ho2); (have e2 : L1.length + 1 = L2.length := by rw [htk.out]; simp); (rw [e2] at ho2); clear e2; (obtain ⟨-, a9, c9, rfl, hs9, -⟩ := heard_own ho2); (have hc2 : V2.heap[X.heap.size]? = _ := (hB2.block _ zoV).trans hVo); have hHeld2 := SF.out _ hB2; refine hK.out _ _ (fun _ => hHeld2) ?_; (try simp only [Act.put, List.getElem_toArray, List.getElem_cons_succ, List.getElem_cons_zero, List.setIfInBounds_toArray, List.set_cons_succ, List.set_cons_zero]); clear hK; (refine wpZ_take (i := 7) (v := ?_) rfl (by kernel_rfl) (by kernel_rfl) (by kernel_rfl) (by kernel_rfl) (fun _ _ _ h => h) (Or.inl ⟨by kernel_rfl, ?_⟩) (by assumption) ?_; rotate_left 1; (focus (intro w hSw; (try dsimp only at hSw); go_simp; first | done | with_reducible rfl)); simp only [Act.put, List.getElem_toArray, List.getElem_cons_succ, List.getElem_cons_zero, List.setIfInBounds_toArray, List.set_cons_succ, List.set_cons_zero]); have k2 : V2.cell? ⟨X.heap.size, 4, none⟩ = some (.slice a5 L1.length k5) := blk_cell 4 hc2 rfl; have k3 := blk_free 4 hc2; have zo2 := lt_of_block hc2; refine wpZ_ready (rs := [8]) (by kernel_rfl) (by simp) (AllZ.cons rfl (fun K hK => ?_) AllZ.nil); (go_simp; refine hK.out _ _ (fun h => absurd rfl h) ?_; (try simp only [Act.put, List.getElem_toArray, List.getElem_cons_succ, List.getElem_cons_zero, List.setIfInBounds_toArray, List.set_cons_succ, List.set_cons_zero]); clear hK; refine wpZ_done (by kernel_rfl) ?_ _))); rotate_left 1; (focus ((go_simp; refine hK.out _ _ (fun _ => SF.out _ (by (repeat' (first | assumption | exact Below.refl _ _ | refine Below.drew ?_ | refine Below.alloc ?_ (by first | omega | (simp <;> omega)) _)))) ?_; (try simp only [Act.put, List.getElem_toArray, List.getElem_cons_succ, List.getElem_cons_zero, List.setIfInBounds_toArray, List.set_cons_succ, List.set_cons_zero]); clear hK); refine wpZ_ready (rs := [3]) (by kernel_rfl) (by simp) (AllZ.cons rfl (fun K hK => ?_) AllZ.nil); have hm0 : (((V.alloc (.cells #[] 74)).alloc (.cells #[.int .i64 z0, .int .i64 z1, .int .i64 z2, .bool z3] 74)).drew).ownsRow V.heap.size 74 4 (.slice (some ⟨V.heap.size, 0, none⟩) 0 0) 0 [] := ((made_row2 (Nat.le_refl _) _ _).alloc _).drew; have hsr : SrcAt (((V.alloc (.cells #[] 74)).alloc (.cells #[.int .i64 z0, .int .i64 z1, .int .i64 z2, .bool z3] 74)).drew) (.slice (some ⟨V.heap.size + 1, 0, none⟩) 1 1) 1 4 [.int .i64 z0, .int .i64 z1, .int .i64 z2, .bool z3] := (by have h := (SrcAt.heard1 (V.alloc (.cells #[] 74)) z0 z1 z2 z3 74).below (below_drew' (Below.refl _ _)); rwa [show (V.alloc (.cells #[] 74)).heap.size = V.heap.size + 1 from by simp] at h); refine step_app2 (.tmp 28) (.tmp 30) (v := .slice (some ⟨V.heap.size, 0, none⟩) 0 0) E_heard (by rfl) (by rfl) (by rfl) (by rfl) V.heap.size 0 L1.length [] (flatC heardCells L1) hm0 (SrcAt.heard hsz.2.2 (hzV.mono (by (repeat' (first | assumption | exact Below.refl _ _ | refine Below.drew ?_ | refine Below.alloc ?_ (by first | omega | (simp <;> omega)) _))))) (by omega) (by omega) (by first | omega | (simp [drew_heap] <;> omega)) ?_; intro v1 V1 ho1 hg1 _; (have hB1 : Below V.heap.size V V1 := app_grown (by (repeat' (first | assumption | exact Below.refl _ _ | refine Below.drew ?_ | refine Below.alloc ?_ (by first | omega | (simp <;> omega)) _))) hm0 hg1); (rw [Nat.zero_add, List.nil_append] at ho1); have hz1v := hB1.size; refine hK.out _ _ (fun _ => SF.out _ hB1) ?_; (try simp only [Act.put, List.getElem_toArray, List.getElem_cons_succ, List.getElem_cons_zero, List.setIfInBounds_toArray, List.set_cons_succ, List.set_cons_zero]); clear hK; have hs2 := src_grown hsr hg1 (by simp [Value.ownBlock]); refine wpZ_ready (rs := [6]) (by kernel_rfl) (by simp) (AllZ.cons rfl (fun K hK => ?_) AllZ.nil); refine step_app2 (.tmp 31) (.tmp 33) (v := v1) E_heard (by rfl) (by rfl) (by rfl) (by rfl) V.heap.size L1.length 1 (flatC heardCells L1) [.int .i64 z0, .int .i64 z1, .int .i64 z2, .bool z3] (by first | exact ho1 | exact ho1.alloc _) hs2 (by omega) (by omega) (by first | omega | (simp [drew_heap] <;> omega)) ?_; intro v2 V2 ho2 hg2 _; (have hB2 : Below V.heap.size V V2 := app_grown (by (repeat' (first | assumption | exact Below.refl _ _ | refine Below.drew ?_ | refine Below.alloc ?_ (by first | omega | (simp <;> omega)) _))) (by first | exact ho1 | exact ho1.alloc _) hg2); (rw [heard_snoc, ← htk.out] at ho2); (have e2 : L1.length + 1 = L2.length := by rw [htk.out]; simp); (rw [e2] at ho2); clear e2; (obtain ⟨-, a9, c9, rfl, hs9, -⟩ := heard_own ho2); (have hc2 : V2.heap[X.heap.size]? = _ := (hB2.block _ zoV).trans hVo); have hHeld2 := SF.out _ hB2; refine hK.out _ _ (fun _ => hHeld2) ?_; (try simp only [Act.put, List.getElem_toArray, List.getElem_cons_succ, List.getElem_cons_zero, List.setIfInBounds_toArray, List.set_cons_succ, List.set_cons_zero]); clear hK; (refine wpZ_take (i := 7) (v := ?_) rfl (by kernel_rfl) (by kernel_rfl) (by kernel_rfl) (by kernel_rfl) (fun _ _ _ h => h) (Or.inl ⟨by kernel_rfl, ?_⟩) (by assumption) ?_; rotate_left 1; (focus (intro w hSw; (try dsimp only at hSw); go_simp; first | done | with_reducible rfl)); simp only [Act.put, List.getElem_toArray, List.getElem_cons_succ, List.getElem_cons_zero, List.setIfInBounds_toArray, List.set_cons_succ, List.set_cons_zero]); have k2 : V2.cell? ⟨X.heap.size, 4, none⟩ = some (.slice a5 L1.length k5) := blk_cell 4 hc2 rfl; have k3 := blk_free 4 hc2; have zo2 := lt_of_block hc2; refine wpZ_ready (rs := [8]) (by kernel_rfl) (by simp) (AllZ.cons rfl (fun K hK => ?_) AllZ.nil); (go_simp; refine hK.out _ _ (fun h => absurd rfl h) ?_; (try simp only [Act.put, List.getElem_toArray, List.getElem_cons_succ, List.getElem_cons_zero, List.setIfInBounds_toArray, List.set_cons_succ, List.set_cons_zero]); clear hK; refine wpZ_done (by kernel_rfl) ?_ _))))); rotate_left 2; (focus ((go_simp; refine hK.out _ _ (fun _ => SF.out _ (by (repeat' (first | assumption | exact Below.refl _ _ | refine Below.drew ?_ | refine Below.alloc ?_ (by first | omega | (simp <;> omega)) _)))) ?_; (try simp only [Act.put, List.getElem_toArray, List.getElem_cons_succ, List.getElem_cons_zero, List.setIfInBounds_toArray, List.set_cons_succ, List.set_cons_zero]); clear hK); refine wpZ_ready (rs := [0]) (by kernel_rfl) (by simp) (AllZ.cons rfl (fun K hK => ?_) AllZ.nil); (go_simp; refine hK.out _ _ (fun _ => SF.out _ (by (repeat' (first | assumption | exact Below.refl _ _ | refine Below.drew ?_ | refine Below.alloc ?_ (by first | omega | (simp <;> omega)) _)))) ?_; (try simp only [Act.put, List.getElem_toArray, List.getElem_cons_succ, List.getElem_cons_zero, List.setIfInBounds_toArray, List.set_cons_succ, List.set_cons_zero]); clear hK); refine wpZ_ready (rs := [3]) (by kernel_rfl) (by simp) (AllZ.cons rfl (fun K hK => ?_) AllZ.nil); have hm0 : (((V.alloc (.cells #[.int .i64 z0, .int .i64 z1, .int .i64 z2, .bool z3] 74)).alloc (.cells #[] 74)).drew).ownsRow V.heap.size 74 4 (.slice (some ⟨V.heap.size + 1, 0, none⟩) 0 0) 0 [] := (by have h := (made_row2 (B := V.heap.size) (W := V.alloc (.cells #[.int .i64 z0, .int .i64 z1, .int .i64 z2, .bool z3] 74)) (by simp) 74 4).drew; rwa [show (V.alloc (.cells #[.int .i64 z0, .int .i64 z1, .int .i64 z2, .bool z3] 74)).heap.size = V.heap.size + 1 from by simp] at h); have hsr : SrcAt (((V.alloc (.cells #[.int .i64 z0, .int .i64 z1, .int .i64 z2, .bool z3] 74)).alloc (.cells #[] 74)).drew) (.slice (some ⟨V.heap.size, 0, none⟩) 1 1) 1 4 [.int .i64 z0, .int .i64 z1, .int .i64 z2, .bool z3] := (SrcAt.heard1 V z0 z1 z2 z3 74).below (below_drew' (al_on _ _)); refine step_app2 (.tmp 28) (.tmp 30) (v := .slice (some ⟨V.heap.size + 1, 0, none⟩) 0 0) E_heard (by rfl) (by rfl) (by rfl) (by rfl) V.heap.size 0 L1.length [] (flatC heardCells L1) hm0 (SrcAt.heard hsz.2.2 (hzV.mono (by (repeat' (first | assumption | exact Below.refl _ _ | refine Below.drew ?_ | refine Below.alloc ?_ (by first | omega | (simp <;> omega)) _))))) (by omega) (by omega) (by first | omega | (simp [drew_heap] <;> omega)) ?_; intro v1 V1 ho1 hg1 _; (have hB1 : Below V.heap.size V V1 := app_grown (by (repeat' (first | assumption | exact Below.refl _ _ | refine Below.drew ?_ | refine Below.alloc ?_ (by first | omega | (simp <;> omega)) _))) hm0 hg1); (rw [Nat.zero_add, List.nil_append] at ho1); have hz1v := hB1.size; refine hK.out _ _ (fun _ => SF.out _ hB1) ?_; (try simp only [Act.put, List.getElem_toArray, List.getElem_cons_succ, List.getElem_cons_zero, List.setIfInBounds_toArray, List.set_cons_succ, List.set_cons_zero]); clear hK; have hs2 := src_grown hsr hg1 (by simp [Value.ownBlock]); refine wpZ_ready (rs := [6]) (by kernel_rfl) (by simp) (AllZ.cons rfl (fun K hK => ?_) AllZ.nil); refine step_app2 (.tmp 31) (.tmp 33) (v := v1) E_heard (by rfl) (by rfl) (by rfl) (by rfl) V.heap.size L1.length 1 (flatC heardCells L1) [.int .i64 z0, .int .i64 z1, .int .i64 z2, .bool z3] (by first | exact ho1 | exact ho1.alloc _) hs2 (by omega) (by omega) (by first | omega | (simp [drew_heap] <;> omega)) ?_; intro v2 V2 ho2 hg2 _; (have hB2 : Below V.heap.size V V2 := app_grown (by (repeat' (first | assumption | exact Below.refl _ _ | refine Below.drew ?_ | refine Below.alloc ?_ (by first | omega | (simp <;> omega)) _))) (by first | exact ho1 | exact ho1.alloc _) hg2); (rw [heard_snoc, ← htk.out] at ho2); (have e2 : L1.length + 1 = L2.length := by rw [htk.out]; simp); (rw [e2] at ho2); clear e2; (obtain ⟨-, a9, c9, rfl, hs9, -⟩ := heard_own ho2); (have hc2 : V2.heap[X.heap.size]? = _ := (hB2.block _ zoV).trans hVo); have hHeld2 := SF.out _ hB2; refine hK.out _ _ (fun _ => hHeld2) ?_; (try simp only [Act.put, List.getElem_toArray, List.getElem_cons_succ, List.getElem_cons_zero, List.setIfInBounds_toArray, List.set_cons_succ, List.set_cons_zero]); clear hK; (refine wpZ_take (i := 7) (v := ?_) rfl (by kernel_rfl) (by kernel_rfl) (by kernel_rfl) (by kernel_rfl) (fun _ _ _ h => h) (Or.inl ⟨by kernel_rfl, ?_⟩) (by assumption) ?_; rotate_left 1; (focus (intro w hSw; (try dsimp only at hSw); go_simp; first | done | with_reducible rfl)); simp only [Act.put, List.getElem_toArray, List.getElem_cons_succ, List.getElem_cons_zero, List.setIfInBounds_toArray, List.set_cons_succ, List.set_cons_zero]); have k2 : V2.cell? ⟨X.heap.size, 4, none⟩ = some (.slice a5 L1.length k5) := blk_cell 4 hc2 rfl; have k3 := blk_free 4 hc2; have zo2 := lt_of_block hc2; refine wpZ_ready (rs := [8]) (by kernel_rfl) (by simp) (AllZ.cons rfl (fun K hK => ?_) AllZ.nil); (go_simp; refine hK.out _ _ (fun h => absurd rfl h) ?_; (try simp only [Act.put, List.getElem_toArray, List.getElem_cons_succ, List.getElem_cons_zero, List.setIfInBounds_toArray, List.set_cons_succ, List.set_cons_zero]); clear hK; refine wpZ_done (by kernel_rfl) ?_ _)))
    all_goals
      go_wp2
      go_meet
      case rel =>
        rw [hK2.out]
        have hbX : Below X.heap.size X (V2.setCell ⟨X.heap.size, 4, none⟩ (.slice a9 L2.length c9)) := (hXV.trans (hB2.mono hXV.size)).setCell (Nat.le_refl _) _
        have h := ownsRow_setCell_other ho2 (a := ⟨X.heap.size, 4, none⟩) (fun e => by have h1 := (ho2.lt _ e).1; simp only at h1; omega) (.slice a9 L2.length c9)
        obtain ⟨_, a8, c8, e8, hs8, hw8⟩ := heard_own h
        cases e8
        have hM := (hm.mono hwX).mono hbX
        refine ⟨a9, c9, blk_set 4 _ hc2, ⟨hM.ok1, hM.ok2, hM.ok3, hM.ok4, ?_, hM.writers, hM.kept, hM.leaks, hM.letters, ?_, hM.wsize⟩, hbX⟩
        · rw [hK2.out]; exact hs8
        · rw [hK2.out]; exact hw8
  case rest =>
    obtain ⟨a9, c9, hVm, MK, hXc⟩ := hcut
    obtain ⟨K, hK⟩ : ∃ K, K = moreRoom r ⟨z0, z1, z2, z3⟩ := ⟨_, rfl⟩
    have hL : Lens K r.writers.length r.kept.length r.leaks.length r.letters.length K.heard.length := by rw [hK]; exact ⟨rfl, rfl, rfl, rfl, rfl⟩
    rw [← hK] at hVm MK
    have HD : Hid (∀ V, Below wc.heap.size wc V → (V.cell? ⟨w.heap.size, 0, none⟩ = some (.slice a1 r.writers.length k1) ∧ V.cell? ⟨w.heap.size, 1, none⟩ = some (.slice a2 r.kept.length k2) ∧ V.cell? ⟨w.heap.size, 2, none⟩ = some (.slice a3 r.leaks.length k3) ∧ V.cell? ⟨w.heap.size, 3, none⟩ = some (.slice a4 r.letters.length k4) ∧ V.cell? ⟨w.heap.size, 4, none⟩ = some (.slice a5 r.heard.length k5) ∧ V.cell? ⟨w.heap.size + 1, 0, none⟩ = some (.int .i64 z0) ∧ V.cell? ⟨w.heap.size + 1, 1, none⟩ = some (.int .i64 z1) ∧ V.cell? ⟨w.heap.size + 1, 2, none⟩ = some (.int .i64 z2) ∧ V.cell? ⟨w.heap.size + 1, 3, none⟩ = some (.bool z3) ∧ V.cell? ⟨w.heap.size + 1 + 1, 0, none⟩ = some (.int .u8 (x0 : Int)) ∧ V.cell? ⟨w.heap.size + 1 + 1, 1, none⟩ = some (.int .u8 (x1 : Int)) ∧ V.cell? ⟨w.heap.size + 1 + 1, 2, none⟩ = some (.int .u8 (x2 : Int)) ∧ V.cell? ⟨w.heap.size + 1 + 1, 3, none⟩ = some (.int .u8 (x3 : Int)) ∧ w.heap.size < V.heap.size ∧ w.heap.size + 1 < V.heap.size ∧ w.heap.size + 1 + 1 < V.heap.size ∧ V.cell? ⟨X.heap.size, 0, none⟩ = some (.slice a1 r.writers.length k1) ∧ V.cell? ⟨X.heap.size, 1, none⟩ = some (.slice a2 r.kept.length k2) ∧ V.cell? ⟨X.heap.size, 2, none⟩ = some (.slice a3 r.leaks.length k3) ∧ V.cell? ⟨X.heap.size, 3, none⟩ = some (.slice a4 r.letters.length k4) ∧ V.cell? ⟨X.heap.size, 4, none⟩ = some (.slice a9 K.heard.length c9) ∧ X.heap.size < V.heap.size)) := Lib.hid (fun V h => by
      obtain ⟨q0, q1, q2, q3, q4, q5, q6, q7, q8, q9, q10, q11, q12, q13, q14, q15⟩ := HC.out _ (q_on hXc h)
      have hv := (h.block _ (lt_of_block hVm)).trans hVm
      exact ⟨q0, q1, q2, q3, q4, q5, q6, q7, q8, q9, q10, q11, q12, q13, q14, q15, blk_cell 0 hv rfl, blk_cell 1 hv rfl, blk_cell 2 hv rfl, blk_cell 3 hv rfl, blk_cell 4 hv rfl, lt_of_block hv⟩)
    replace M := Lib.hid (fun (V : World) (h : Below wc.heap.size wc V) => M.out V (q_on hXc h))
    have N := Lib.hid (fun (V : World) (h : Below wc.heap.size wc V) => MK.mono h)
    have hwc := hwX.trans (hXc.mono hwX.size)
    clear HC hVm MK hXc hQ hwX hVo hXV
    have hQ := Below.refl wc.heap.size wc
    have hx := HD.out _ hQ
    rcases Bool.eq_false_or_eq_true (someB r) with hs | hs
    · rcases Bool.eq_false_or_eq_true (someB K) with ht | ht
      · have ht0 := ht
        rw [hK] at ht0
        have hs0 := hs
        replace hs := Lib.hid hs
        replace ht := Lib.hid ht
        obtain ⟨hw0, hk0⟩ := more_writers ht0
        have l1 := hm.ok1.len
        have l2 := hm.ok2.len
        have l3 := hm.ok3.len
        have l4 := hm.ok4.len
        obtain ⟨u, hu⟩ : ∃ u : Nat, u = x0 % r.writers.length := ⟨_, rfl⟩
        obtain ⟨s, hsn⟩ : ∃ s : Nat, s = x1 % r.kept.length := ⟨_, rfl⟩
        obtain ⟨d, hd⟩ : ∃ d : Nat, d = x3 % 10 := ⟨_, rfl⟩
        have hul : u < r.writers.length := by rw [hu]; exact Nat.mod_lt _ (by omega)
        have hsl : s < r.kept.length := by rw [hsn]; exact Nat.mod_lt _ (by omega)
        have hd9 : d ≤ 9 := by omega
        have f0 : (x0 : Int) % (r.writers.length : Int) = (u : Int) := by rw [hu]; exact (Int.natCast_emod _ _).symm
        have f1 : (x1 : Int) % (r.kept.length : Int) = (s : Int) := by rw [hsn]; exact (Int.natCast_emod _ _).symm
        have f2 : (x3 : Int) % 10 = (d : Int) := by omega
        have hw1 : ((r.writers.length : Int) == 0) = false := eqi_f (by omega)
        have hk1 : ((r.kept.length : Int) == 0) = false := eqi_f (by omega)
        clear hu hsn hd
        obtain ⟨m, n, e1, e2, hmn⟩ := more_knows hs0 ht0 hul hsl hd9
        have hm3 := knows_lit _ _ _ _ e1
        have hn3 := knows_lit _ _ _ _ e2
        have TL := Lib.hid (fun i (hi : i < r.leaks.length) => more_told hs0 ht0 hi)
        have ML := Lib.hid (fun i (hi : i < r.letters.length) => more_may hs0 ht0 hi)
        obtain ⟨pl, pa, pg, pk, pb, pi, p1, p2, hpp, hpl1, hpl2⟩ := more_plan hs0 ht0
        rw [← hK] at e2 p2 TL ML
        replace e1 := Lib.hid e1
        replace e2 := Lib.hid e2
        replace p1 := Lib.hid p1
        replace p2 := Lib.hid p2
        replace hmn := Lib.hid hmn
        replace hpp := Lib.hid hpp
        clear hs0 ht0 hK
        go_upto_region 5 with (first
          | (go_at_call 43; (with_reducible refine (C_Some _ _ _ _ _ _ _ _ _ _ _ _ _ _ _ K hL true ht.out _ (N.out _ hQ)).mono ?_); rintro e w4 ⟨rfl, hb⟩; replace hQ := q_on hQ hb; replace hx := HD.out _ hQ; dsimp only)
          | (go_at_call 43; (with_reducible refine (Some_is _ _ _ _ _ _ _ _ _ _ r true hs.out _ (M.out _ hQ)).mono ?_); rintro e w3 ⟨rfl, hb⟩; replace hQ := q_on hQ hb; replace hx := HD.out _ hQ; dsimp only))
        go_quiet (fail); replace hQ := q_on hQ (below_draws _ _ nq); generalize World.drewN w4 nq = V1 at hQ ⊢; clear nq; replace hx := HD.out _ hQ
        simp only [f0, f1, f2]
        clear f0 f1 f2
        go_upto_region 8 with (first
          | (go_at_call 20; (with_reducible refine (C_Knows _ _ _ _ _ _ _ _ _ _ _ _ _ _ _ K hL (u : Int) (s : Int) (d : Int) n 0 e2.out _ (N.out _ hQ)).mono ?_); rintro e w6 ⟨rfl, hb⟩; replace hQ := q_on hQ hb; replace hx := HD.out _ hQ; dsimp only)
          | (go_at_call 20; (with_reducible refine (A_Knows _ _ _ _ _ _ _ _ _ _ r (u : Int) (s : Int) (d : Int) m 0 e1.out _ (M.out _ hQ)).mono ?_); rintro e w5 ⟨rfl, hb⟩; replace hQ := q_on hQ hb; replace hx := HD.out _ hQ; dsimp only))
        clear hul hsl hd9 e1 e2 hw1 hk1
        go_cut [93] from 79 to 93 (fun v W => v = .bool false ∧ W = w6)
        case first =>
          rcases hm3 with rfl | rfl | rfl <;> rcases hn3 with rfl | rfl | rfl
          all_goals
            first
              | (exact absurd (hmn.out (by decide)) (by decide))
              | (clear hmn
                 go_wp2
                 go_meet
                 case rel => exact ⟨rfl, rfl⟩)
        case rest =>
          obtain ⟨rfl, rfl⟩ := hcut
          rename World => U
          clear hmn hm3 hn3
          go_wp2
          go_loopw [11, 12, 13, 14, 15] (fun v1 v2 v3 v4 i wr => ∃ k : Nat, k ≤ r.leaks.length ∧ i = .int .i64 k ∧ Below U.heap.size U wr) (fun _ _ _ _ i _ => r.leaks.length - (intOf i).toNat)
          case atStart => exact ⟨0, Nat.zero_le _, rfl, Below.refl _ _⟩
          case round =>
            obtain ⟨k, hk, rfl, hB⟩ := hrel
            replace hQ := q_on hQ hB
            have hx := HD.out _ hQ
            by_cases hlt : k < r.leaks.length
            · obtain ⟨m, n, e1, e2, hmn⟩ := TL.out k hlt
              have hm3 := told_lit _ _ e1
              have hn3 := told_lit _ _ e2
              replace e1 := Lib.hid e1
              replace e2 := Lib.hid e2
              replace hmn := Lib.hid hmn
              rcases hm3 with rfl | rfl | rfl <;> rcases hn3 with rfl | rfl | rfl
              all_goals
                first
                  | (exact absurd (hmn.out (by decide)) (by decide))
                  | (clear hmn
                     go_wp2_with (first
                       | (go_at_call 23; (with_reducible refine (C_Told _ _ _ _ _ _ _ _ _ _ _ _ _ _ _ K hL (k : Int) _ 0 e2.out _ (N.out _ hQ)).mono ?_); rintro e w8 ⟨rfl, hb⟩; replace hB := q_on hB hb; replace hQ := q_on hQ hb; replace hx := HD.out _ hQ; dsimp only)
                       | (go_at_call 23; (with_reducible refine (A_Told _ _ _ _ _ _ _ _ _ _ r (k : Int) _ 0 e1.out _ (M.out _ hQ)).mono ?_); rintro e w7 ⟨rfl, hb⟩; replace hB := q_on hB hb; replace hQ := q_on hQ hb; replace hx := HD.out _ hQ; dsimp only))
                     go_roundw
                     case rel => exact ⟨k + 1, by omega, by go_num, hB⟩
                     case measure => simp [intOf]; omega)
            · obtain rfl : k = r.leaks.length := by omega
              clear hk TL
              go_upto_region 19 with (first
                | (go_at_call 30; (with_reducible refine (C_Plan _ _ _ _ _ _ _ _ _ _ _ _ _ _ _ K hL pk pb pi p2.out _ (N.out _ hQ)).mono ?_); rintro e w10 ⟨aq, cq, rfl, oq, iq, hb⟩; replace hQ := q_on hQ hb; replace hx := HD.out _ hQ; dsimp only)
                | (go_at_call 30; (with_reducible refine (A_Plan _ _ _ _ _ _ _ _ _ _ r pl pa pg p1.out _ (M.out _ hQ)).mono ?_); rintro e w9 ⟨ap, cp, rfl, op, ip, hb⟩; replace hQ := q_on hQ hb; replace hx := HD.out _ hQ; dsimp only))
              go_cut [150] from 140 to 150 (fun v W => v = .bool false ∧ W = w10)
              case first =>
                by_cases hg0 : pg = 0
                · obtain ⟨hi0, hba⟩ := hpp.out hg0
                  subst hg0
                  subst hi0
                  have hba2 : ¬ (pa < pb) := by omega
                  clear hpp hba
                  go_wp2
                  go_meet
                  case rel => exact ⟨rfl, rfl⟩
                · have hg1 := eqi_f hg0
                  clear hpp
                  go_wp2
                  go_meet
                  case rel => exact ⟨rfl, rfl⟩
              case rest =>
                obtain ⟨rfl, rfl⟩ := hcut
                rename World => U2
                clear hpp p1 p2 op ip oq iq
                by_cases hz4 : r.letters.length = 0
                · have q4 : ((r.letters.length : Int) == 0) = true := eqi_t (by omega)
                  clear hz4
                  go_wp2_with ((go_at_call 22; (with_reducible refine (Awake_any _).mono ?_); rintro e w11 ⟨rfl, hb⟩; replace hQ := q_on hQ hb; replace hx := HD.out _ hQ; dsimp only))
                  go_ret
                  exact ⟨rfl, hwc.trans (hQ.mono hwc.size)⟩
                · have q4 : ((r.letters.length : Int) == 0) = false := eqi_f (by omega)
                  obtain ⟨t, ht0⟩ : ∃ t : Nat, t = x2 % r.letters.length := ⟨_, rfl⟩
                  have htl : t < r.letters.length := by rw [ht0]; exact Nat.mod_lt _ (by omega)
                  have f4 : (x2 : Int) % (r.letters.length : Int) = (t : Int) := by rw [ht0]; exact (Int.natCast_emod _ _).symm
                  clear ht0 hz4
                  obtain ⟨la, lb, m1, m2, hsub, hla, hlb⟩ := ML.out t htl
                  replace m1 := Lib.hid m1
                  replace m2 := Lib.hid m2
                  replace hsub := Lib.hid hsub
                  clear ML
                  go_wp2_with (first
                    | (go_at_call 22; (with_reducible refine (Awake_any _).mono ?_); rintro e w13 ⟨rfl, hb⟩; replace hQ := q_on hQ hb; replace hx := HD.out _ hQ; dsimp only)
                    | (go_at_call 51; (with_reducible refine (Subset_yes _ _ _ _ _ _ _ hsub.out o1 o2 i1 i2).mono ?_); rintro e w99 ⟨rfl, rfl⟩; dsimp only)
                    | (go_at_call 28; (with_reducible refine (C_May _ _ _ _ _ _ _ _ _ _ _ _ _ _ _ K hL (t : Int) lb 0 m2.out _ (N.out _ hQ)).mono ?_); rintro e w12 ⟨b2, c2, rfl, o2, i2, hb⟩; replace i1 := i1.mono hb; replace hQ := q_on hQ hb; replace hx := HD.out _ hQ; dsimp only)
                    | (go_at_call 28; (with_reducible refine (A_May _ _ _ _ _ _ _ _ _ _ r (t : Int) la 0 m1.out _ (M.out _ hQ)).mono ?_); rintro e w11 ⟨b1, c1, rfl, o1, i1, hb⟩; replace hQ := q_on hQ hb; replace hx := HD.out _ hQ; dsimp only))
                  go_ret
                  exact ⟨rfl, hwc.trans (hQ.mono hwc.size)⟩
      · replace hs := Lib.hid hs
        replace ht := Lib.hid ht
        clear hK
        go_wp2_with (first
          | (go_at_call 22; (with_reducible refine (Awake_any _).mono ?_); rintro e w5 ⟨rfl, hb⟩; replace hQ := q_on hQ hb; replace hx := HD.out _ hQ; dsimp only)
          | (go_at_call 43; (with_reducible refine (C_Some _ _ _ _ _ _ _ _ _ _ _ _ _ _ _ K hL false ht.out _ (N.out _ hQ)).mono ?_); rintro e w4 ⟨rfl, hb⟩; replace hQ := q_on hQ hb; replace hx := HD.out _ hQ; dsimp only)
          | (go_at_call 43; (with_reducible refine (Some_is _ _ _ _ _ _ _ _ _ _ r true hs.out _ (M.out _ hQ)).mono ?_); rintro e w3 ⟨rfl, hb⟩; replace hQ := q_on hQ hb; replace hx := HD.out _ hQ; dsimp only))
        go_ret
        exact ⟨rfl, hwc.trans (hQ.mono hwc.size)⟩
    · replace hs := Lib.hid hs
      clear hK
      go_wp2_with (first
        | (go_at_call 22; (with_reducible refine (Awake_any _).mono ?_); rintro e w4 ⟨rfl, hb⟩; replace hQ := q_on hQ hb; replace hx := HD.out _ hQ; dsimp only)
        | (go_at_call 43; (with_reducible refine (Some_is _ _ _ _ _ _ _ _ _ _ r false hs.out _ (M.out _ hQ)).mono ?_); rintro e w3 ⟨rfl, hb⟩; replace hQ := q_on hQ hb; replace hx := HD.out _ hQ; dsimp only))
      go_ret
      exact ⟨rfl, hwc.trans (hQ.mono hwc.size)⟩
end Go.Proofs.Ytmhbjohpggghgaa
