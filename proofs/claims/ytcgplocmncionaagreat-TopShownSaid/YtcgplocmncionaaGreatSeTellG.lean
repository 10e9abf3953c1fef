/- What is proved here: the contracts of Told, Knows and Since. Conditions: the room lies in memory. -/
/- What is proved here: the contract of Knows. Conditions: the room lies in memory. -/
import Derived.Test.YtcgplocmncionaaGreatSeEnterG
set_option linter.unusedVariables false
set_option linter.unusedSimpArgs false
namespace Go.Proofs.YtcgplocmncionaaGreat
open Go Go.RowKit Go.Shelf

theorem two_intsC (w : World) (a b : Int) (t : TypeId) : IntsC (w.alloc (.cells #[.int .i64 a, .int .i64 b] t)) (some ⟨w.heap.size, 0, none⟩) [a, b] := fun i hi => by
  have e : i = 0 ∨ i = 1 := by simp at hi; omega
  rcases e with rfl | rfl
  · exact ⟨_, 0, rfl, by simp, blk_cell 0 (alloc_at w _ rfl) rfl⟩
  · exact ⟨_, 0, rfl, by simp, blk_cell 1 (alloc_at w _ rfl) rfl⟩
theorem four_intsC (w : World) (a b c d : Int) (t : TypeId) : IntsC (w.alloc (.cells #[.int .i64 a, .int .i64 b, .int .i64 c, .int .i64 d] t)) (some ⟨w.heap.size, 0, none⟩) [a, b, c, d] := fun i hi => by
  have e : i = 0 ∨ i = 1 ∨ i = 2 ∨ i = 3 := by simp at hi; omega
  rcases e with rfl | rfl | rfl | rfl
  · exact ⟨_, 0, rfl, by simp, blk_cell 0 (alloc_at w _ rfl) rfl⟩
  · exact ⟨_, 0, rfl, by simp, blk_cell 1 (alloc_at w _ rfl) rfl⟩
  · exact ⟨_, 0, rfl, by simp, blk_cell 2 (alloc_at w _ rfl) rfl⟩
  · exact ⟨_, 0, rfl, by simp, blk_cell 3 (alloc_at w _ rfl) rfl⟩
theorem enterErr_none (r : SeRoom) : enterErr r 0 [] = knownErr r (seErr r) := by
  unfold enterErr knownErr numsOk
  rw [truths_len0]
  simp
theorem enterErr_one (r : SeRoom) (n below : Int) : enterErr r 0 [n, below] = knownErr r (indexErr r n below) := by
  unfold enterErr knownErr indexErr
  rw [truths_len0]
  by_cases h : seErr r = 0
  · cases hi : inB n 0 (below - 1) <;> simp [h, numsOk, hi]
  · simp [h]
theorem enterErr_two (r : SeRoom) (other who s : Int) : enterErr r other [who, r.writers.length, s, r.kept.length] = knownErr r (if whoErr r who s = 0 then other else whoErr r who s) := by
  unfold enterErr knownErr whoErr indexErr
  rw [truths_len0]
  by_cases h : seErr r = 0
  · cases hi : inB who 0 ((r.writers.length : Int) - 1) <;> cases hk : inB s 0 ((r.kept.length : Int) - 1) <;> simp [h, numsOk, hi, hk]
  · simp [h]
/-- A room that is looked at, made since w. -/
def KeepN (w W : World) (bm bo : Nat) (a1 a2 a3 a4 a5 : Option Addr) (k1 k2 k3 k4 k5 : Nat) (r : SeRoom) : Prop := RoomW W bm bo a1 a2 a3 a4 a5 k1 k2 k3 k4 k5 r 0 ∧ Below w.heap.size w W
theorem KeepN.belowB {w A A' : World} {bm bo B : Nat} {a1 a2 a3 a4 a5 : Option Addr} {k1 k2 k3 k4 k5 : Nat} {r : SeRoom} (hm : RoomC w a1 a2 a3 a4 a5 k1 k2 k3 k4 k5 r) (h : KeepN w A bm bo a1 a2 a3 a4 a5 k1 k2 k3 k4 k5 r) (hb : Below B A A') (hw : w.heap.size ≤ B) (h1 : bm < B) (h2 : bo < B) : KeepN w A' bm bo a1 a2 a3 a4 a5 k1 k2 k3 k4 k5 r := by
  obtain ⟨T, hT, hM⟩ := h.1.map
  have h3 := h.2.trans (hb.mono hw)
  exact ⟨⟨hm.mono h3, h.1.blk.same (hb.block _ h1), T, hT.below hb h2, hM⟩, h3⟩
theorem KeepN.step {w A A' : World} {bm bo : Nat} {a1 a2 a3 a4 a5 : Option Addr} {k1 k2 k3 k4 k5 : Nat} {r : SeRoom} (h : KeepN w A bm bo a1 a2 a3 a4 a5 k1 k2 k3 k4 k5 r) (hg : A.grownBy A' (some bo)) (hR : RoomW A' bm bo a1 a2 a3 a4 a5 k1 k2 k3 k4 k5 r 0) (hbo : w.heap.size ≤ bo) : KeepN w A' bm bo a1 a2 a3 a4 a5 k1 k2 k3 k4 k5 r :=
  ⟨hR, h.2.grown hg h.2.size (fun k e => by have := Option.some.inj e; omega)⟩
theorem KeepN.dayw {w A A' : World} {bm bo pf pd : Nat} {a1 a2 a3 a4 a5 : Option Addr} {k1 k2 k3 k4 k5 : Nat} {r : SeRoom} (hm : RoomC w a1 a2 a3 a4 a5 k1 k2 k3 k4 k5 r) (h : KeepN w A bm bo a1 a2 a3 a4 a5 k1 k2 k3 k4 k5 r) (hd : DayW A A' pf pd) (h1 : w.heap.size ≤ pf) (h2 : w.heap.size ≤ pd) (h3 : bm ≠ pf) (h4 : bm ≠ pd) (h5 : bo ≠ pf) (h6 : bo ≠ pd) : KeepN w A' bm bo a1 a2 a3 a4 a5 k1 k2 k3 k4 k5 r := by
  obtain ⟨T, hT, hM⟩ := h.1.map
  have hb : Below w.heap.size w A' := ⟨hd.os.trans h.2.os, hd.tape.trans h.2.tape, hd.output.trans h.2.output, by rw [hd.size]; exact h.2.size, fun b hlt => (hd.other b (by omega) (by omega)).trans (h.2.block b hlt)⟩
  exact ⟨⟨hm.mono hb, h.1.blk.same (hd.other _ h3 h4), T, hT.same (hd.other _ h5 h6), hM⟩, hb⟩
theorem told_hid (r : SeRoom) (n : Int) : toldOf r n = if toldErr r n = 0 then (settled ((truthsP r 0).countP fun x => x.testBit n.toNat) (truthsP r 0).length, 0) else (0, toldErr r n) := by
  unfold toldOf
  by_cases h : toldErr r n = 0
  · rw [if_pos h, if_pos h, truths_count, truths_len0]
    congr 3
    have hn : 0 ≤ n ∧ n < r.leaks.length := by
      unfold toldErr knownErr indexErr at h
      cases hi : inB n 0 ((r.leaks.length : Int) - 1)
      · rw [hi] at h
        by_cases h2 : seErr r = 0 <;> simp [h2] at h
      · have := inB_iff.1 hi; omega
    obtain ⟨m, rfl⟩ : ∃ m : Nat, n = m := ⟨n.toNat, by omega⟩
    funext x
    rw [hasB_bits _ _ _ (by omega)]
    simp
  · rw [if_neg h, if_neg h]
theorem told_valid {r : SeRoom} {n : Int} (h : toldErr r n = 0) : SeValid r ∧ 0 ≤ n ∧ n < r.leaks.length := by
  unfold toldErr knownErr indexErr at h
  by_cases h2 : seErr r = 0
  · cases hi : inB n 0 ((r.leaks.length : Int) - 1)
    · rw [hi] at h; simp [h2] at h
    · have := inB_iff.1 hi; exact ⟨seValid_of h2, by omega, by omega⟩
  · simp [h2] at h

set_option maxRecDepth 100000 in
set_option maxHeartbeats 2000000 in
theorem STold_any (a1 a2 a3 a4 a5 : Option Addr) (k1 k2 k3 k4 k5 : Nat) (r : SeRoom) (n : Int) (w : World) (hm : RoomC w a1 a2 a3 a4 a5 k1 k2 k3 k4 k5 r) :
    Calls Tryz.prog 35 #[(.agg #[.slice a1 r.writers.length k1, .slice a2 r.kept.length k2, .slice a3 r.leaks.length k3, .slice a4 r.letters.length k4, .slice a5 r.heard.length k5]), .int .i64 n] w fun e w' => e = .returned (.tuple #[.int .i64 (toldOf r n).1, .int .i64 (toldOf r n).2]) ∧ Below w.heap.size w w' := by
  have HT := Lib.hid (told_hid r n)
  have HV := Lib.hid (fun h : toldErr r n = 0 => told_valid h)
  have l3 := hm.ok3.len
  have hQ := Below.refl (w.heap.size + 1) (w.alloc (.cells #[.slice a1 r.writers.length k1, .slice a2 r.kept.length k2, .slice a3 r.leaks.length k3, .slice a4 r.letters.length k4, .slice a5 r.heard.length k5] 28))
  have hb3 : Below w.heap.size w (((w.alloc (.cells #[.slice a1 r.writers.length k1, .slice a2 r.kept.length k2, .slice a3 r.leaks.length k3, .slice a4 r.letters.length k4, .slice a5 r.heard.length k5] 28)).alloc (.cells #[.int .i64 n] 3)).alloc (.cells #[.int .i64 n, .int .i64 r.leaks.length] 3)) := ((box_old hQ).alloc (by simp) _).alloc (by first | omega | (simp <;> omega)) _
  have hN3 : (((w.alloc (.cells #[.slice a1 r.writers.length k1, .slice a2 r.kept.length k2, .slice a3 r.leaks.length k3, .slice a4 r.letters.length k4, .slice a5 r.heard.length k5] 28)).alloc (.cells #[.int .i64 n] 3)).alloc (.cells #[.int .i64 n, .int .i64 r.leaks.length] 3)).heap[w.heap.size + 1]? = some (.cells #[.int .i64 n] 3 (0, 0)) := (heap_alloc_old _ _ (by simp)).trans (alloc_at _ _ (by simp))
  have hI3 : IntsC (((w.alloc (.cells #[.slice a1 r.writers.length k1, .slice a2 r.kept.length k2, .slice a3 r.leaks.length k3, .slice a4 r.letters.length k4, .slice a5 r.heard.length k5] 28)).alloc (.cells #[.int .i64 n] 3)).alloc (.cells #[.int .i64 n, .int .i64 r.leaks.length] 3)) (some ⟨w.heap.size + 1 + 1, 0, none⟩) [n, r.leaks.length] := by
    have := two_intsC ((w.alloc (.cells #[.slice a1 r.writers.length k1, .slice a2 r.kept.length k2, .slice a3 r.leaks.length k3, .slice a4 r.letters.length k4, .slice a5 r.heard.length k5] 28)).alloc (.cells #[.int .i64 n] 3)) n r.leaks.length 3
    rwa [show ((w.alloc (.cells #[.slice a1 r.writers.length k1, .slice a2 r.kept.length k2, .slice a3 r.leaks.length k3, .slice a4 r.letters.length k4, .slice a5 r.heard.length k5] 28)).alloc (.cells #[.int .i64 n] 3)).heap.size = w.heap.size + 1 + 1 by simp] at this
  have EN := SEnter_any a1 a2 a3 a4 a5 k1 k2 k3 k4 k5 r 0 (some ⟨w.heap.size + 1 + 1, 0, none⟩) [n, r.leaks.length] 2 _ (hm.mono hb3) ⟨by simp, by omega, by simp⟩ hI3 (by simp) (by simp) (fun j h h1 => by
    have e : j = 1 := by simp at h; omega
    subst e
    exact ⟨by simp, by simp only [List.getElem_cons_succ, List.getElem_cons_zero]; omega⟩)
  rw [enterErr_one] at EN
  change Calls _ _ _ _ (fun e w' => ∃ v, e = .returned (.tuple #[v, .int .i64 (toldErr r n)]) ∧ EnterV _ w' v (toldErr r n) a1 a2 a3 a4 a5 k1 k2 k3 k4 k5 r ∧ Below _ _ w') at EN
  generalize toldErr r n = er at HT HV EN
  generalize toldOf r n = res at HT ⊢
  have EN := Lib.hid EN
  clear hI3
  have x2 := box_cell hQ 2 _ rfl
  have xz := box_size hQ
  by_cases her : er = 0
  · replace HT := Lib.hid (HT.out.trans (if_pos her))
    obtain ⟨hv, hn0, hn1⟩ := HV.out her
    obtain ⟨m, rfl⟩ : ∃ m : Nat, n = m := ⟨n.toNat, by omega⟩
    have HER := Lib.hid her
    have g1 := nei_f her
    clear her HV
    have v3 := hv.nl
    go_enter Tryz.func35, Tryz.ntmps35
    go_wp2_with (go_at_call 23; go_must (refine EN.out.mono ?_; rintro e w2 ⟨v2, rfl, h2, hb2⟩; obtain ⟨bm, bo, rfl, hR, hbo⟩ := h2.1 HER.out; dsimp only))
    have hzz := hb3.size
    have hz2 := hb2.size
    have hKN : KeepN w w2 bm bo a1 a2 a3 a4 a5 k1 k2 k3 k4 k5 r := ⟨hR, hb3.trans (hb2.mono hb3.size)⟩
    have hN2 := (hb2.block _ (lt_of_block hN3)).trans hN3
    have hnl := lt_of_block hN2
    have hbml := hR.bm_lt
    have hbol := hR.bo_lt
    have AK := SAsk_any a1 a2 a3 a4 a5 k1 k2 k3 k4 k5 r bm bo 66 #[.pointer (some ⟨w.heap.size + 1, 0, none⟩)] (fun x => x.testBit m) w2 hv hbol (enters_of Tryz.func66 (by kernel_rfl) rfl)
      (fun _ W => KeepN w W bm bo a1 a2 a3 a4 a5 k1 k2 k3 k4 k5 r ∧ W.heap[w.heap.size + 1]? = some (.cells #[.int .i64 (m : Int)] 3 (0, 0)))
      (fun s A A' h hb => ⟨h.1.belowB hm hb (by omega) hbml hbol, (hb.block _ hnl).trans h.2⟩)
      (fun s A A' h hg hR' => ⟨h.1.step hg hR' (by omega), grown_keep hg h.2 (h.1.1.other h.2)⟩)
      (fun s A h => h.1.1) ⟨hKN, hN2⟩
      (fun pre x W h hp hz => (STold1_any x m (w.heap.size + 1) W (by have := truthsP_lt (r := r) (but := 0) (s := x) (hp.subset (by simp)); have := two_pow_le4 r.leaks.length v3; omega) (by omega) (blk_cell 0 h.2 rfl)).mono fun e W' h' => ⟨h'.1, by rw [← h'.2]; exact h, by rw [← h'.2]; exact Above.refl _ _⟩)
    have HS : Hid (res = (settled ((truthsP r 0).countP fun x => x.testBit m) (truthsP r 0).length, 0)) := Lib.hid (by rw [HT.out]; simp)
    generalize settled ((truthsP r 0).countP fun x => x.testBit m) (truthsP r 0).length = cnt at AK HS
    have AK := Lib.hid AK
    go_wp2_with (go_at_call 24; go_must (refine AK.out.mono ?_; rintro e w3 ⟨rfl, hK3, -⟩; dsimp only))
    go_ret2
    have hr := HS.out
    subst hr
    exact ⟨rfl, hK3.2⟩
  · replace HT := Lib.hid (HT.out.trans (if_neg her))
    have g1 := nei_t her
    clear her HV
    go_enter Tryz.func35, Tryz.ntmps35
    go_wp2_with (go_at_call 23; go_must (refine EN.out.mono ?_; rintro e w2 ⟨v2, rfl, h2, hb2⟩; dsimp only))
    go_ret2
    have hr := HT.out
    subst hr
    exact ⟨rfl, hb3.trans (hb2.mono hb3.size)⟩
end Go.Proofs.YtcgplocmncionaaGreat
namespace Go.Proofs.YtcgplocmncionaaGreat
open Go Go.RowKit Go.Shelf

theorem SEnter4_any (a1 a2 a3 a4 a5 : Option Addr) (k1 k2 k3 k4 k5 : Nat) (r : SeRoom) (other who s : Int) (W : World) (hm : RoomC W a1 a2 a3 a4 a5 k1 k2 k3 k4 k5 r) :
    Calls Tryz.prog 23 #[(.agg #[.slice a1 r.writers.length k1, .slice a2 r.kept.length k2, .slice a3 r.leaks.length k3, .slice a4 r.letters.length k4, .slice a5 r.heard.length k5]), .int .i64 other, .slice (some ⟨W.heap.size, 0, none⟩) 4 4] (W.alloc (.cells #[.int .i64 who, .int .i64 r.writers.length, .int .i64 s, .int .i64 r.kept.length] 3)) fun e w' => ∃ v, e = .returned (.tuple #[v, .int .i64 (knownErr r (if whoErr r who s = 0 then other else whoErr r who s))]) ∧ EnterV W w' v (knownErr r (if whoErr r who s = 0 then other else whoErr r who s)) a1 a2 a3 a4 a5 k1 k2 k3 k4 k5 r ∧ Below W.heap.size W w' := by
  have l1 := hm.ok1.len
  have l2 := hm.ok2.len
  have hb := (Below.refl _ W).alloc (Nat.le_refl _) (.cells #[.int .i64 who, .int .i64 r.writers.length, .int .i64 s, .int .i64 r.kept.length] 3)
  have EN := SEnter_any a1 a2 a3 a4 a5 k1 k2 k3 k4 k5 r other (some ⟨W.heap.size, 0, none⟩) [who, r.writers.length, s, r.kept.length] 4 _ (hm.mono hb) ⟨by simp, by omega, by simp⟩ (four_intsC W who r.writers.length s r.kept.length 3) (by simp) (by simp) (fun j h h1 => by
    have e : j = 1 ∨ j = 3 := by simp at h; omega
    rcases e with rfl | rfl
    · exact ⟨by simp, by simp only [List.getElem_cons_succ, List.getElem_cons_zero]; omega⟩
    · exact ⟨by simp, by simp only [List.getElem_cons_succ, List.getElem_cons_zero]; omega⟩)
  rw [enterErr_two] at EN
  exact EN.mono fun e w' ⟨v, h1, h2, h3⟩ => ⟨v, h1, ⟨fun h => by obtain ⟨bm, bo, g1, g2, g3⟩ := h2.1 h; exact ⟨bm, bo, g1, g2, by simp at g3; omega⟩, h2.2⟩, hb.trans (h3.mono hb.size)⟩
theorem knows_hid (r : SeRoom) (who s day : Int) : knowsOf r who s day = if knowsErr r who s day = 0 then (settled ((truthsP r 0).countP fun x => leI (sinceP r x s.toNat who.toNat) day) (truthsP r 0).length, 0) else (0, knowsErr r who s day) := by
  unfold knowsOf
  by_cases h : knowsErr r who s day = 0
  · rw [if_pos h, if_pos h, truths_count, truths_len0]
    have hv : SeValid r := by
      unfold knowsErr knownErr whoErr indexErr at h
      by_cases h2 : seErr r = 0
      · exact seValid_of h2
      · simp [h2] at h
    congr 3
    funext x
    rw [dayOf_bits hv]
    rfl
  · rw [if_neg h, if_neg h]
theorem who_valid {r : SeRoom} {who s other : Int} (h : knownErr r (if whoErr r who s = 0 then other else whoErr r who s) = 0) : SeValid r ∧ 0 ≤ who ∧ who < r.writers.length ∧ 0 ≤ s ∧ s < r.kept.length := by
  unfold knownErr whoErr indexErr at h
  by_cases h2 : seErr r = 0
  · cases hi : inB who 0 ((r.writers.length : Int) - 1)
    · rw [hi] at h; simp [h2] at h
    · cases hk : inB s 0 ((r.kept.length : Int) - 1)
      · rw [hi, hk] at h; simp [h2] at h
      · have := inB_iff.1 hi; have := inB_iff.1 hk; exact ⟨seValid_of h2, by omega, by omega, by omega, by omega⟩
  · simp [h2] at h

set_option maxRecDepth 100000 in
set_option maxHeartbeats 2000000 in
theorem SKnows_any (a1 a2 a3 a4 a5 : Option Addr) (k1 k2 k3 k4 k5 : Nat) (r : SeRoom) (who s day : Int) (w : World) (hm : RoomC w a1 a2 a3 a4 a5 k1 k2 k3 k4 k5 r) :
    Calls Tryz.prog 5 #[(.agg #[.slice a1 r.writers.length k1, .slice a2 r.kept.length k2, .slice a3 r.leaks.length k3, .slice a4 r.letters.length k4, .slice a5 r.heard.length k5]), .int .i64 who, .int .i64 s, .int .i64 day] w fun e w' => e = .returned (.tuple #[.int .i64 (knowsOf r who s day).1, .int .i64 (knowsOf r who s day).2]) ∧ Below w.heap.size w w' := by
  have HT := Lib.hid (knows_hid r who s day)
  have l1 := hm.ok1.len
  have l2 := hm.ok2.len
  have HV := Lib.hid (fun h : knowsErr r who s day = 0 => who_valid h)
  have hQ := Below.refl (w.heap.size + 1) (w.alloc (.cells #[.slice a1 r.writers.length k1, .slice a2 r.kept.length k2, .slice a3 r.leaks.length k3, .slice a4 r.letters.length k4, .slice a5 r.heard.length k5] 28))
  obtain ⟨Y, hY⟩ : ∃ Y : World, Y = (((w.alloc (.cells #[.slice a1 r.writers.length k1, .slice a2 r.kept.length k2, .slice a3 r.leaks.length k3, .slice a4 r.letters.length k4, .slice a5 r.heard.length k5] 28)).alloc (.cells #[.int .i64 who] 3)).alloc (.cells #[.int .i64 s] 3)).alloc (.cells #[.int .i64 day] 3) := ⟨_, rfl⟩
  have hYs : Y.heap.size = w.heap.size + 1 + 1 + 1 + 1 := by rw [hY]; simp
  have hQY : Below (w.heap.size + 1) (w.alloc (.cells #[.slice a1 r.writers.length k1, .slice a2 r.kept.length k2, .slice a3 r.leaks.length k3, .slice a4 r.letters.length k4, .slice a5 r.heard.length k5] 28)) Y := by rw [hY]; exact ((hQ.alloc (by simp) _).alloc (by first | omega | (simp <;> omega)) _).alloc (by first | omega | (simp <;> omega)) _
  have hA1 : Y.heap[w.heap.size + 1]? = some (.cells #[.int .i64 who] 3 (0, 0)) := by rw [hY]; exact (heap_alloc_old _ _ (by first | omega | (simp <;> omega))).trans ((heap_alloc_old _ _ (by first | omega | (simp <;> omega))).trans (alloc_at _ _ (by simp)))
  have hA2 : Y.heap[w.heap.size + 1 + 1]? = some (.cells #[.int .i64 s] 3 (0, 0)) := by rw [hY]; exact (heap_alloc_old _ _ (by first | omega | (simp <;> omega))).trans (alloc_at _ _ (by simp))
  have hA3 : Y.heap[w.heap.size + 1 + 1 + 1]? = some (.cells #[.int .i64 day] 3 (0, 0)) := by rw [hY]; exact alloc_at _ _ (by simp)
  have EN := fun (other : Int) (W : World) (h : Below w.heap.size w W) => SEnter4_any a1 a2 a3 a4 a5 k1 k2 k3 k4 k5 r other who s W (hm.mono h)
  have HK : Hid (knowsErr r who s day = knownErr r (if whoErr r who s = 0 then (if inB day 0 9 then 0 else 7) else whoErr r who s)) := rfl
  have B1 := fun (a : Nat) (W : World) (h : W.cell? ⟨a, 0, none⟩ = some (.int .i64 day)) => MBeyondOne_any day 0 9 a W h
  generalize knowsErr r who s day = er at HT HV HK
  generalize knowsOf r who s day = res at HT ⊢
  obtain ⟨oth, hoth⟩ : ∃ oth : Int, oth = if inB day 0 9 then 0 else 7 := ⟨_, rfl⟩
  rw [← hoth] at HK
  replace EN := EN oth
  rw [← HK.out] at EN
  clear HK
  have EN := Lib.hid EN
  have HO := Lib.hid hoth
  clear hoth
  generalize inB day 0 9 = ok at B1 HO
  have B1 := Lib.hid B1
  cases ok
  all_goals
    have ho := HO.out
    simp only [Bool.false_eq_true, if_false, if_true] at ho
    subst ho
    clear HO
    go_enter Tryz.func5, Tryz.ntmps5
    go_upto_region 2 with (fail)
    rw [← hY]
    clear hY
    replace hYs := Lib.hid hYs
    have y3 := blk_cell 0 hA3 rfl
    simp only [List.getElem_toArray, List.getElem_cons_zero] at y3
    have z3 := lt_of_block hA3
    go_upto_region 4 with (go_at_call 22; go_must (refine (B1.out _ _ ?_).mono ?_; (simp); rintro e w2 ⟨rfl, hb2⟩; have hB2 := ((Below.refl _ Y).alloc (Nat.le_refl _) (.cells #[.int .i64 day] 3)).trans (hb2.mono (by simp)); dsimp only))
    have hQ2 := box_on hQY hB2
    replace hA1 := (hB2.block _ (lt_of_block hA1)).trans hA1
    replace hA2 := (hB2.block _ (lt_of_block hA2)).trans hA2
    replace hA3 := (hB2.block _ (lt_of_block hA3)).trans hA3
    have EN2 := EN.out w2 (box_old hQ2)
    have x0 := box_cell hQ2 0 _ rfl
    have x1 := box_cell hQ2 1 _ rfl
    have x2 := box_cell hQ2 2 _ rfl
    have x3 := box_cell hQ2 3 _ rfl
    have x4 := box_cell hQ2 4 _ rfl
    have xz := box_size hQ2
    have y1 := blk_cell 0 hA1 rfl
    have y2 := blk_cell 0 hA2 rfl
    have y3 := blk_cell 0 hA3 rfl
    simp only [List.getElem_toArray, List.getElem_cons_zero] at y1 y2 y3
    have z1 := lt_of_block hA1
    have z2 := lt_of_block hA2
    have z3 := lt_of_block hA3
    have hw2 := (box_old hQ2).size
    clear hb2 hB2
    have EN2 := Lib.hid EN2
    by_cases her : er = 0
    · replace HT := Lib.hid (HT.out.trans (if_pos her))
      obtain ⟨hv, hn0, hn1, hs0, hs1⟩ := HV.out her
      obtain ⟨u, rfl⟩ : ∃ u : Nat, who = u := ⟨who.toNat, by omega⟩
      obtain ⟨sc, rfl⟩ : ∃ sc : Nat, s = sc := ⟨s.toNat, by omega⟩
      have HER := Lib.hid her
      have g1 := nei_f her
      have vw := hv.nw
      have vk := hv.nk
      have v3 := hv.nl
      clear her HV
      go_upto_region 7 with (go_at_call 23; go_must (refine EN2.out.mono ?_; rintro e w3 ⟨v3, rfl, h3, hb3⟩; obtain ⟨bm, bo, rfl, hR, hbo⟩ := h3.1 HER.out; dsimp only))
      obtain ⟨Z, hZ⟩ : ∃ Z : World, Z = w3.alloc (.cells #[.pointer (some ⟨bm, 0, none⟩)] 62) := ⟨_, rfl⟩
      rw [← hZ]
      have hB3 : Below w2.heap.size w2 Z := by rw [hZ]; exact hb3.alloc hb3.size _
      have hKN : KeepN w Z bm bo a1 a2 a3 a4 a5 k1 k2 k3 k4 k5 r := ⟨by rw [hZ]; exact hR.below ((Below.refl _ _).alloc (Nat.le_refl _) _), (box_old hQ2).trans (hB3.mono hw2)⟩
      have hA0 : Z.heap[w3.heap.size]? = some (.cells #[.pointer (some ⟨bm, 0, none⟩)] 62 (0, 0)) := by rw [hZ]; exact alloc_at _ _ rfl
      clear hZ
      replace hA1 := (hB3.block _ (lt_of_block hA1)).trans hA1
      replace hA2 := (hB3.block _ (lt_of_block hA2)).trans hA2
      replace hA3 := (hB3.block _ (lt_of_block hA3)).trans hA3
      have hl0 := lt_of_block hA0
      have hl1 := lt_of_block hA1
      have hl2 := lt_of_block hA2
      have hl3 := lt_of_block hA3
      have hbml := hKN.1.bm_lt
      have hbol := hKN.1.bo_lt
      have hw3 := hKN.2.size
      have AK := SAsk_any a1 a2 a3 a4 a5 k1 k2 k3 k4 k5 r bm bo 25 #[.pointer (some ⟨w3.heap.size, 0, none⟩), .pointer (some ⟨w.heap.size + 1 + 1, 0, none⟩), .pointer (some ⟨w.heap.size + 1, 0, none⟩), .pointer (some ⟨w.heap.size + 1 + 1 + 1, 0, none⟩)] (fun x => leI (sinceP r x sc u) day) Z hv hbol (enters_of Tryz.func25 (by kernel_rfl) rfl)
        (fun _ W => KeepN w W bm bo a1 a2 a3 a4 a5 k1 k2 k3 k4 k5 r ∧ W.heap[w3.heap.size]? = some (.cells #[.pointer (some ⟨bm, 0, none⟩)] 62 (0, 0)) ∧ W.heap[w.heap.size + 1]? = some (.cells #[.int .i64 (u : Int)] 3 (0, 0)) ∧ W.heap[w.heap.size + 1 + 1]? = some (.cells #[.int .i64 (sc : Int)] 3 (0, 0)) ∧ W.heap[w.heap.size + 1 + 1 + 1]? = some (.cells #[.int .i64 day] 3 (0, 0)))
        (fun s A A' h hb => ⟨h.1.belowB hm hb (by omega) hbml hbol, (hb.block _ hl0).trans h.2.1, (hb.block _ hl1).trans h.2.2.1, (hb.block _ hl2).trans h.2.2.2.1, (hb.block _ hl3).trans h.2.2.2.2⟩)
        (fun s A A' h hg hR' => ⟨h.1.step hg hR' (by omega), grown_keep hg h.2.1 (h.1.1.other h.2.1), grown_keep hg h.2.2.1 (h.1.1.other h.2.2.1), grown_keep hg h.2.2.2.1 (h.1.1.other h.2.2.2.1), grown_keep hg h.2.2.2.2 (h.1.1.other h.2.2.2.2)⟩)
        (fun s A h => h.1.1) ⟨hKN, hA0, hA1, hA2, hA3⟩
        (fun pre x W h hp hz => (SKnows1_any _ _ _ _ _ _ _ _ _ _ r bm bo 0 x sc u w3.heap.size (w.heap.size + 1 + 1) (w.heap.size + 1) (w.heap.size + 1 + 1 + 1) day W h.1.1 hv (by have := truthsP_lt (r := r) (but := 0) (s := x) (hp.subset (by simp)); have := two_pow_le4 r.leaks.length v3; omega) (by omega) (by omega) (blk_cell 0 h.2.1 rfl) (blk_cell 0 h.2.2.2.1 rfl) (blk_cell 0 h.2.2.1 rfl) (blk_cell 0 h.2.2.2.2 rfl)).mono fun e W' h' => ⟨h'.1, ⟨h.1.step h'.2.1 h'.2.2 (by omega), grown_keep h'.2.1 h.2.1 (h.1.1.other h.2.1), grown_keep h'.2.1 h.2.2.1 (h.1.1.other h.2.2.1), grown_keep h'.2.1 h.2.2.2.1 (h.1.1.other h.2.2.2.1), grown_keep h'.2.1 h.2.2.2.2 (h.1.1.other h.2.2.2.2)⟩, Above.of_grown h'.2.1 (fun q e => by have := Option.some.inj e; omega)⟩)
      have HS : Hid (res = (settled ((truthsP r 0).countP fun x => leI (sinceP r x sc u) day) (truthsP r 0).length, 0)) := Lib.hid (by rw [HT.out]; simp)
      generalize settled ((truthsP r 0).countP fun x => leI (sinceP r x sc u) day) (truthsP r 0).length = cnt at AK HS
      have AK := Lib.hid AK
      have y0 := blk_cell 0 hA0 rfl
      simp only [List.getElem_toArray, List.getElem_cons_zero] at y0
      go_wp2_with (go_at_call 24; go_must (refine AK.out.mono ?_; rintro e w5 ⟨rfl, hK3, -⟩; dsimp only))
      go_ret2
      have hr := HS.out
      subst hr
      exact ⟨rfl, hK3.2⟩
    · replace HT := Lib.hid (HT.out.trans (if_neg her))
      have g1 := nei_t her
      have HER := Lib.hid her
      clear her HV
      go_wp2_with (go_at_call 23; go_must (refine EN2.out.mono ?_; rintro e w3 ⟨v3, rfl, h3, hb3⟩; obtain rfl := h3.2 HER.out; dsimp only))
      go_ret2
      have hr := HT.out
      subst hr
      exact ⟨rfl, ((box_old hQ2).trans (hb3.mono hw2)).alloc (Nat.le_trans hw2 hb3.size) _⟩
end Go.Proofs.YtcgplocmncionaaGreat
