/- What is proved here: the contract of Wrong. Conditions: the room lies in memory. -/
import Derived.Test.YtmhbjohpggghgaaSeKeep
set_option linter.unusedVariables false
set_option linter.unusedSimpArgs false
namespace Go.Proofs.Ytmhbjohpggghgaa
open Go Go.RowKit Go.Shelf

set_option maxRecDepth 100000 in
set_option maxHeartbeats 1000000 in
theorem SWrong1_any (a1 a2 a3 a4 a5 : Option Addr) (k1 k2 k3 k4 k5 : Nat) (r : SeRoom) (set b : Nat) (w : World) (hm : RoomC w a1 a2 a3 a4 a5 k1 k2 k3 k4 k5 r) (hv : SeValid r) (hs : set < 64)
    (x0 : w.cell? ⟨b, 0, none⟩ = some (.slice a1 r.writers.length k1)) (x1 : w.cell? ⟨b, 1, none⟩ = some (.slice a2 r.kept.length k2)) (x2 : w.cell? ⟨b, 2, none⟩ = some (.slice a3 r.leaks.length k3)) (x3 : w.cell? ⟨b, 3, none⟩ = some (.slice a4 r.letters.length k4)) (x4 : w.cell? ⟨b, 4, none⟩ = some (.slice a5 r.heard.length k5)) :
    Calls Try.prog 88 #[.int .i64 (set : Int), .pointer (some ⟨b, 0, none⟩)] w fun e w' => e = .returned (.bool (decide (0 < (truthsP r set).length))) ∧ Below w.heap.size w w' := by
  have LK := Lib.hid (SLook_any _ _ _ _ _ _ _ _ _ _ r set w hm hv)
  have xz := lt_of_cell x0
  have SM := Lib.hid (fun (bm bo : Nat) (W : World) (h : RoomW W bm bo a1 a2 a3 a4 a5 k1 k2 k3 k4 k5 r set) => SSome_any _ _ _ _ _ _ _ _ _ _ r bm bo set W h hv hs)
  obtain ⟨res, hr⟩ : ∃ res, res = decide (0 < (truthsP r set).length) := ⟨_, rfl⟩
  rw [← hr] at SM ⊢
  clear hr
  go_enter Try.func88, Try.ntmps88
  go_wp2_with (first
    | (go_at_call 90; go_must (refine (SM.out _ _ _ hR2).mono ?_; rintro e w3 ⟨rfl, hg3, hR3⟩; dsimp only))
    | (go_at_call 89; go_must (refine LK.out.mono ?_; rintro e w2 ⟨bm, bo, rfl, hR2, hb2, hbo⟩; dsimp only)))
  go_ret
  exact ⟨rfl, hb2.grown hg3 hb2.size (fun k e => by have := Option.some.inj e; omega)⟩

set_option maxRecDepth 100000 in
set_option maxHeartbeats 1000000 in
theorem SWrong_any (a1 a2 a3 a4 a5 : Option Addr) (k1 k2 k3 k4 k5 : Nat) (r : SeRoom) (w : World) (hm : RoomC w a1 a2 a3 a4 a5 k1 k2 k3 k4 k5 r) :
    Calls Try.prog 25 #[(.agg #[.slice a1 r.writers.length k1, .slice a2 r.kept.length k2, .slice a3 r.leaks.length k3, .slice a4 r.letters.length k4, .slice a5 r.heard.length k5])] w fun e w' => ∃ v, e = .returned (.tuple #[v, .int .i64 (seWrongOf r).2]) ∧ IntsV w' v (seWrongOf r).1 ∧ Below w.heap.size w w' := by
  have hQ := Below.refl (w.heap.size + 1) (w.alloc (.cells #[.slice a1 r.writers.length k1, .slice a2 r.kept.length k2, .slice a3 r.leaks.length k3, .slice a4 r.letters.length k4, .slice a5 r.heard.length k5] 28))
  have HC : Hid (seErr r = (seCheck r).2.2) := rfl
  have C := fun (W : World) (h : Below w.heap.size w W) => SCheck_any _ _ _ _ _ _ _ _ _ _ r W (hm.mono h)
  generalize seCheck r = ck at C HC
  obtain ⟨p1, p2, ce⟩ := ck
  simp only at C HC
  have C := Lib.hid C
  have x0 := box_cell hQ 0 _ rfl
  have x1 := box_cell hQ 1 _ rfl
  have x2 := box_cell hQ 2 _ rfl
  have x3 := box_cell hQ 3 _ rfl
  have x4 := box_cell hQ 4 _ rfl
  have xz := box_size hQ
  by_cases hce : ce = 0
  · have g1 := nei_f hce
    have h0 := HC.out.trans hce
    have hv := seValid_of h0
    have vh := hv.nh
    have HF := Lib.hid (fun (best : List Int) (found : Bool) hf => seWrong_found h0 (best := best) (found := found) hf)
    generalize seWrongOf r = res at HF ⊢
    clear hce HC h0
    go_enter Try.func25, Try.ntmps25
    go_upto_region 4 with (go_at_call 16; go_must (refine (C.out _ (box_old hQ)).mono ?_; rintro e w2 ⟨rfl, hb2⟩; have hQ2 := hQ.trans (hb2.mono (by simp)); dsimp only))
    have FW := MFewest_any r.heard.length 88 (by omega) #[.pointer (some ⟨w.heap.size, 0, none⟩)] (fun s => decide (0 < (truthsP r s).length)) w2 (enters_of Try.func88 (by kernel_rfl) rfl) (fun s W hs hW => by
      have hQW := box_on hQ2 hW
      refine SWrong1_any a1 a2 a3 a4 a5 k1 k2 k3 k4 k5 r s w.heap.size W (hm.mono (box_old hQW)) hv ?_ (box_cell hQW 0 _ rfl) (box_cell hQW 1 _ rfl) (box_cell hQW 2 _ rfl) (box_cell hQW 3 _ rfl) (box_cell hQW 4 _ rfl)
      have := two_pow_le r.heard.length (by omega)
      omega)
    have FW := Lib.hid FW
    clear x0 x1 x2 x3 x4 xz
    have x0 := box_cell hQ2 0 _ rfl
    have x1 := box_cell hQ2 1 _ rfl
    have x2 := box_cell hQ2 2 _ rfl
    have x3 := box_cell hQ2 3 _ rfl
    have x4 := box_cell hQ2 4 _ rfl
    have xz := box_size hQ2
    go_wp2_with (go_at_call 87; go_must (refine FW.out.mono ?_; rintro e w3 ⟨v, best, found, rfl, hv3, hf3, hb3⟩; dsimp only))
    go_ret2
    have hr := HF.out best found hf3.out
    subst hr
    exact ⟨v, rfl, hv3, (box_old hQ2).trans (hb3.mono (box_old hQ2).size)⟩
  · have g1 := nei_t hce
    have HR := Lib.hid (seWrong_no (r := r) (by rw [HC.out]; exact hce))
    rw [HC.out] at HR
    generalize seWrongOf r = res at HR ⊢
    clear hce HC
    go_enter Try.func25, Try.ntmps25
    go_wp2_with (go_at_call 16; go_must (refine (C.out _ (box_old hQ)).mono ?_; rintro e w2 ⟨rfl, hb2⟩; dsimp only))
    go_ret2
    have hr := HR.out
    subst hr
    exact ⟨_, rfl, ⟨none, 0, rfl, ⟨by simp, by omega, fun _ => rfl⟩, IntsC.nil _ _⟩, box_old (hQ.trans (hb2.mono (by simp)))⟩
end Go.Proofs.Ytmhbjohpggghgaa
