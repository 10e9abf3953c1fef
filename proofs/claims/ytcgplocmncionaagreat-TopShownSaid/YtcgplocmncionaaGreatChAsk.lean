/- What is proved here: the contracts of Find and Knows of layer 10, at a chest in which nothing is wrong and numbers that are in order. Conditions: they lie in memory. -/
import Derived.Test.YtcgplocmncionaaGreatChLookG
import Derived.Test.YtcgplocmncionaaGreatChFindG
import Derived.Test.YtcgplocmncionaaGreatSeTellG
set_option linter.unusedVariables false
set_option linter.unusedSimpArgs false
namespace Go.Proofs.YtcgplocmncionaaGreat
open Go Go.RowKit Go.Shelf

set_option maxRecDepth 100000 in
set_option maxHeartbeats 2000000 in
theorem CFind_any (ap ac ar : Option Addr) (kp kc kr : Nat) (c : ChH) (p : Nat) (ad : Option Addr) (ws : List Int) (cp nw : Nat) (w : World) (hm : ChestC w ap ac ar kp kc kr c) (hv : ChValid c) (hp : p < c.people.length) (hnw : c.words = nw) (hs : SlOk ad ws.length cp) (hi : IntsC w ad ws) (hr : Rises ws nw) :
    Calls Tryz.prog 10 #[(.agg #[.int .i64 c.words, .int .i64 c.facts, .slice ap c.people.length kp, .int .i64 c.last, .slice ac c.copies.length kc, .slice ar c.rules.length kr]), .int .i64 (p : Int), .slice ad ws.length cp] w fun e w' => ∃ v, e = .returned (.tuple #[v, .int .i64 0]) ∧ IntsN w.heap.size w' v (numI (findN c p (setTo ws ws.length))) ∧ Below w.heap.size w w' := by
  have l1 := hm.okp.len
  have np3 := hv.np
  have hw5 : nw ≤ 5 := by have := hv.words; omega
  have hQ := Below.refl (w.heap.size + 1) (w.alloc (.cells #[.int .i64 c.words, .int .i64 c.facts, .slice ap c.people.length kp, .int .i64 c.last, .slice ac c.copies.length kc, .slice ar c.rules.length kr] 41))
  have hb3 : Below w.heap.size w ((w.alloc (.cells #[.int .i64 c.words, .int .i64 c.facts, .slice ap c.people.length kp, .int .i64 c.last, .slice ac c.copies.length kc, .slice ar c.rules.length kr] 41)).alloc (.cells #[.int .i64 (p : Int), .int .i64 c.people.length] 3)) := (box_old hQ).alloc (by simp) _
  have hQ3 := hQ.alloc (by simp) (.cells #[.int .i64 (p : Int), .int .i64 c.people.length] 3)
  have hI3 : IntsC ((w.alloc (.cells #[.int .i64 c.words, .int .i64 c.facts, .slice ap c.people.length kp, .int .i64 c.last, .slice ac c.copies.length kc, .slice ar c.rules.length kr] 41)).alloc (.cells #[.int .i64 (p : Int), .int .i64 c.people.length] 3)) (some ⟨w.heap.size + 1, 0, none⟩) [(p : Int), c.people.length] := by
    have := two_intsC (w.alloc (.cells #[.int .i64 c.words, .int .i64 c.facts, .slice ap c.people.length kp, .int .i64 c.last, .slice ac c.copies.length kc, .slice ar c.rules.length kr] 41)) p c.people.length 3
    rwa [show (w.alloc (.cells #[.int .i64 c.words, .int .i64 c.facts, .slice ap c.people.length kp, .int .i64 c.last, .slice ac c.copies.length kc, .slice ar c.rules.length kr] 41)).heap.size = w.heap.size + 1 by simp] at this
  have EN := Lib.hid (CEnter_any ap ac ar kp kc kr c (some ⟨w.heap.size + 1, 0, none⟩) [(p : Int), c.people.length] 2 _ (hm.mono hb3) hv ⟨by simp, by omega, by simp⟩ hI3 (by simp) (by simp) (fun j h _ => by
    have e : j = 0 := by simp at h; omega
    subst e
    simp only [List.getElem_cons_succ, List.getElem_cons_zero]
    omega))
  clear hI3
  have BI := fun (W : World) (h : Below w.heap.size w W) => CBits_any ad ws cp nw (by omega) W hs (hi.mono h) hr
  have hset : setTo ws ws.length < 64 := Nat.lt_of_lt_of_le (setTo_lt ws nw (fun x hx => by obtain ⟨i, hlt, rfl⟩ := List.getElem_of_mem hx; have := hr.1 i hlt; omega) _ (Nat.le_refl _)) (pow_six (by omega))
  have HNW := Lib.hid hnw
  clear hnw hr
  generalize setTo ws ws.length = st at BI hset ⊢
  replace BI := Lib.hid BI
  have hfl : findN c p st < 64 := maskTo_lt6 _ hv.nc
  have FI := Lib.hid (fun (W : World) (bm bo : Nat) (h : ChestW W bm bo ap ac ar kp kc kr c) => CFindN_any ap ac ar kp kc kr c bm bo p st W h hv hp hset)
  generalize findN c p st = fn at FI hfl ⊢
  have LI := Lib.hid (fun (W : World) => CList_any fn hfl W)
  obtain ⟨x0, x1, x2, x3, x4, x5, xz⟩ := box_chest hQ
  go_enter Tryz.func10, Tryz.ntmps10
  go_upto_region 4 with (go_at_call 40; go_must (refine EN.out.mono ?_; rintro e w2 ⟨bm, bo, rfl, hR, hb2, hbo⟩; dsimp only))
  have hQ2 := hQ3.trans (hb2.mono (by simp))
  clear x0 x1 x2 x3 x4 x5 xz hQ hQ3
  obtain ⟨x0, x1, x2, x3, x4, x5, xz⟩ := box_chest hQ2
  rw [HNW.out] at x0
  go_upto_region 7 with (go_at_call 41; go_must (refine (BI.out _ (box_old hQ2)).mono ?_; rintro e w3 ⟨rfl, hb3'⟩; dsimp only))
  have hR3 := hR.below hb3'
  have hQ4 := box_on hQ2 hb3'
  clear x0 x1 x2 x3 x4 x5 xz hR hQ2 hb2 hb3'
  go_wp2_with (first
    | (go_at_call 42; go_must (refine (LI.out _).mono ?_; rintro e w5 ⟨v, rfl, hv5, hb5⟩; dsimp only))
    | (go_at_call 43; go_must (refine (FI.out _ _ _ hR3).mono ?_; rintro e w4 ⟨rfl, hw4⟩; obtain rfl := hw4.symm; dsimp only)))
  go_ret2
  have hz := (box_old hQ4).size
  obtain ⟨a, cc, e, k1, k2, k3⟩ := hv5
  exact ⟨_, rfl, ⟨a, cc, e, k1, k2, fun ad e2 => by have := k3 ad e2; omega⟩, (box_old hQ4).trans (hb5.mono hz)⟩
set_option maxRecDepth 100000 in
set_option maxHeartbeats 2000000 in
theorem CKnows_any (ap ac ar : Option Addr) (kp kc kr : Nat) (c : ChH) (ad : Option Addr) (ws : List Int) (cp : Nat) (w : World) (hm : ChestC w ap ac ar kp kc kr c) (hv : ChValid c) (hs : SlOk ad ws.length cp) (hi : IntsC w ad ws) (hr : Rises ws c.copies.length) :
    Calls Tryz.prog 11 #[(.agg #[.int .i64 c.words, .int .i64 c.facts, .slice ap c.people.length kp, .int .i64 c.last, .slice ac c.copies.length kc, .slice ar c.rules.length kr]), .slice ad ws.length cp] w fun e w' => ∃ v, e = .returned (.tuple #[v, .int .i64 0]) ∧ IntsN w.heap.size w' v (numI (tellN c (setTo ws ws.length))) ∧ Below w.heap.size w w' := by
  have l2 := hm.okc.len
  have nc6 := hv.nc
  have hQ := Below.refl (w.heap.size + 1) (w.alloc (.cells #[.int .i64 c.words, .int .i64 c.facts, .slice ap c.people.length kp, .int .i64 c.last, .slice ac c.copies.length kc, .slice ar c.rules.length kr] 41))
  have EN := Lib.hid (CEnter_any ap ac ar kp kc kr c none [] 0 _ (hm.mono (box_old hQ)) hv ⟨by simp, by omega, fun _ => rfl⟩ (IntsC.nil _ _) (by simp) (by simp) (fun j h _ => by simp at h))
  have BI := fun (W : World) (h : Below w.heap.size w W) => CBits_any ad ws cp c.copies.length nc6 W hs (hi.mono h) hr
  have hset : setTo ws ws.length < 64 := Nat.lt_of_lt_of_le (setTo_lt ws c.copies.length (fun x hx => by obtain ⟨i, hlt, rfl⟩ := List.getElem_of_mem hx; have := hr.1 i hlt; omega) _ (Nat.le_refl _)) (pow_six nc6)
  clear hr
  generalize setTo ws ws.length = st at BI hset ⊢
  replace BI := Lib.hid BI
  have hfl : tellN c st < 64 := tell_lt64 hv st
  have FI := Lib.hid (fun (W : World) (bm bo : Nat) (h : ChestW W bm bo ap ac ar kp kc kr c) => CTellN_any ap ac ar kp kc kr c bm bo st W h hv hset)
  generalize tellN c st = fn at FI hfl ⊢
  have LI := Lib.hid (fun (W : World) => CList_any fn hfl W)
  obtain ⟨x0, x1, x2, x3, x4, x5, xz⟩ := box_chest hQ
  go_enter Tryz.func11, Tryz.ntmps11
  go_upto_region 4 with (go_at_call 40; go_must (refine EN.out.mono ?_; rintro e w2 ⟨bm, bo, rfl, hR, hb2, hbo⟩; dsimp only))
  have hQ2 := hQ.trans (hb2.mono (by simp))
  clear x0 x1 x2 x3 x4 x5 xz hQ
  obtain ⟨x0, x1, x2, x3, x4, x5, xz⟩ := box_chest hQ2
  go_upto_region 7 with (go_at_call 41; go_must (refine (BI.out _ (box_old hQ2)).mono ?_; rintro e w3 ⟨rfl, hb3'⟩; dsimp only))
  have hR3 := hR.below hb3'
  have hQ4 := box_on hQ2 hb3'
  clear x0 x1 x2 x3 x4 x5 xz hR hQ2 hb2 hb3'
  go_wp2_with (first
    | (go_at_call 42; go_must (refine (LI.out _).mono ?_; rintro e w5 ⟨v, rfl, hv5, hb5⟩; dsimp only))
    | (go_at_call 44; go_must (refine (FI.out _ _ _ hR3).mono ?_; rintro e w4 ⟨rfl, hg4, hR4⟩; dsimp only)))
  go_ret2
  have hz := (box_old hQ4).size
  have hz4 := hg4.size
  simp only [World.size_alloc] at hbo
  have hb4 := (box_old hQ4).grown hg4 hz (fun k e => by have := Option.some.inj e; omega)
  obtain ⟨a, cc, e, k1, k2, k3⟩ := hv5
  exact ⟨_, rfl, ⟨a, cc, e, k1, k2, fun ad e2 => by have := k3 ad e2; omega⟩, hb4.trans (hb5.mono (by omega))⟩
end Go.Proofs.YtcgplocmncionaaGreat
