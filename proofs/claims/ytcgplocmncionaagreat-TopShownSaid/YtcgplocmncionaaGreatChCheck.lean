/- What is proved here: the contract of Check of layer 10, at a chest in which nothing is wrong. Conditions: the chest lies in memory and is valid. -/
import Derived.Test.YtcgplocmncionaaGreatChFailG
import Derived.Deep.RegionHeld3
set_option linter.unusedVariables false
set_option linter.unusedSimpArgs false
namespace Go.Proofs.YtcgplocmncionaaGreat
open Go Go.RowKit Go.Shelf

theorem two_pow_wrap6 : ∀ n : Nat, n ≤ 6 → wrap64 (2 ^ n) = ((2 ^ n : Nat) : Int) := by decide +kernel
theorem two_pow_wrapI : ∀ n : Nat, n ≤ 6 → IntKind.i64.wrap (2 ^ n) = ((2 ^ n : Nat) : Int) := by decide +kernel
theorem two_pow_le6 {n : Nat} (h : n ≤ 6) : 2 ^ n ≤ 64 := Nat.pow_le_pow_right (n := 2) (by omega) h
theorem box_chest {w W : World} {ap ac ar : Option Addr} {kp kc kr : Nat} {c : ChH} (h : Below (w.heap.size + 1) (w.alloc (.cells #[.int .i64 c.words, .int .i64 c.facts, .slice ap c.people.length kp, .int .i64 c.last, .slice ac c.copies.length kc, .slice ar c.rules.length kr] 41)) W) : W.cell? ⟨w.heap.size, 0, none⟩ = some (.int .i64 c.words) ∧ W.cell? ⟨w.heap.size, 1, none⟩ = some (.int .i64 c.facts) ∧ W.cell? ⟨w.heap.size, 2, none⟩ = some (.slice ap c.people.length kp) ∧ W.cell? ⟨w.heap.size, 3, none⟩ = some (.int .i64 c.last) ∧ W.cell? ⟨w.heap.size, 4, none⟩ = some (.slice ac c.copies.length kc) ∧ W.cell? ⟨w.heap.size, 5, none⟩ = some (.slice ar c.rules.length kr) ∧ w.heap.size < W.heap.size :=
  ⟨box_cell h 0 _ rfl, box_cell h 1 _ rfl, box_cell h 2 _ rfl, box_cell h 3 _ rfl, box_cell h 4 _ rfl, box_cell h 5 _ rfl, box_size h⟩
theorem fail_no (n : Nat) : failN n (fun _ => 0) = (0, 0) := failN_ok fun _ _ => rfl
theorem three_sets {V : World} {a b d : Nat} {t : TypeId} {x y z : Value} (Ha : V.heap[a]? = some (.cells #[x] t (0, 0))) (Hb : V.heap[b]? = some (.cells #[y] t (0, 0))) (Hd : V.heap[d]? = some (.cells #[z] t (0, 0))) (ab : a ≠ b) (ad : a ≠ d) (bd : b ≠ d) (A B D : Value) :
    (((V.setCell ⟨a, 0, none⟩ A).setCell ⟨b, 0, none⟩ B).setCell ⟨d, 0, none⟩ D).cell? ⟨a, 0, none⟩ = some A ∧ (((V.setCell ⟨a, 0, none⟩ A).setCell ⟨b, 0, none⟩ B).setCell ⟨d, 0, none⟩ D).cell? ⟨b, 0, none⟩ = some B ∧ (((V.setCell ⟨a, 0, none⟩ A).setCell ⟨b, 0, none⟩ B).setCell ⟨d, 0, none⟩ D).cell? ⟨d, 0, none⟩ = some D := by
  have h1 := blk_set 0 A Ha
  have h2 : (V.setCell ⟨a, 0, none⟩ A).heap[b]? = _ := (Below.heap_setCell _ _ _ _ (fun e => ab e.symm)).trans Hb
  have h3 := blk_set 0 B h2
  have h4 : ((V.setCell ⟨a, 0, none⟩ A).setCell ⟨b, 0, none⟩ B).heap[d]? = _ := (Below.heap_setCell _ _ _ _ (fun e => bd e.symm)).trans ((Below.heap_setCell _ _ _ _ (fun e => ad e.symm)).trans Hd)
  have h5 := blk_set 0 D h4
  exact ⟨blk_cell 0 ((Below.heap_setCell _ _ _ _ ad).trans ((Below.heap_setCell _ _ _ _ ab).trans h1)) rfl, blk_cell 0 ((Below.heap_setCell _ _ _ _ bd).trans h3) rfl, blk_cell 0 h5 rfl⟩
/-- The three numbers that Check holds. -/
structure CChkW (w W : World) (ap ac ar : Option Addr) (kp kc kr : Nat) (c : ChH) (p1 p2 p3 : Nat) : Prop where
  box : Below (w.heap.size + 1) (w.alloc (.cells #[.int .i64 c.words, .int .i64 c.facts, .slice ap c.people.length kp, .int .i64 c.last, .slice ac c.copies.length kc, .slice ar c.rules.length kr] 41)) W
  c1 : W.cell? ⟨p1, 0, none⟩ = some (.int .i64 ((2 ^ c.words.toNat : Nat) : Int))
  c2 : W.cell? ⟨p2, 0, none⟩ = some (.int .i64 ((2 ^ c.facts.toNat : Nat) : Int))
  c3 : W.cell? ⟨p3, 0, none⟩ = some (.int .i64 ((2 ^ c.people.length : Nat) : Int))
theorem CChkW.on {w W W' : World} {ap ac ar : Option Addr} {kp kc kr : Nat} {c : ChH} {p1 p2 p3 : Nat} (h : CChkW w W ap ac ar kp kc kr c p1 p2 p3) (hb : Below W.heap.size W W') : CChkW w W' ap ac ar kp kc kr c p1 p2 p3 := ⟨box_on h.box hb, cell_below hb h.c1, cell_below hb h.c2, cell_below hb h.c3⟩
theorem CPartP (ap ac ar : Option Addr) (kp kc kr : Nat) (c : ChH) (w W : World) (hm : ChestC w ap ac ar kp kc kr c) (hv : ChValid c) (h : Below (w.heap.size + 1) (w.alloc (.cells #[.int .i64 c.words, .int .i64 c.facts, .slice ap c.people.length kp, .int .i64 c.last, .slice ac c.copies.length kc, .slice ar c.rules.length kr] 41)) W) :
    Calls Tryz.prog 99 #[.slice ap c.people.length kp, .func (.func 100) #[] #[.pointer (some ⟨w.heap.size, 0, none⟩)]] W fun e w' => e = .returned (.tuple #[.int .i64 0, .int .i64 0]) ∧ Below W.heap.size W w' := by
  have := CFailS_any ap c.people kp 100 #[.pointer (some ⟨w.heap.size, 0, none⟩)] (fun _ => 0) W hm.okp.len (hm.mono (box_old h)).people (enters_of Tryz.func100 (by kernel_rfl) rfl)
    (fun k hk V hV => CChk1_any ap ac ar kp kc kr c k w.heap.size V ((hm.mono (box_old h)).mono hV) hv hk (box_chest (box_on h hV)).2.2.1)
  rwa [fail_no] at this
theorem CPartC (ap ac ar : Option Addr) (kp kc kr : Nat) (c : ChH) (w W : World) (hm : ChestC w ap ac ar kp kc kr c) (hv : ChValid c) (p1 p2 p3 : Nat) (h : CChkW w W ap ac ar kp kc kr c p1 p2 p3) :
    Calls Tryz.prog 101 #[.slice ac c.copies.length kc, .func (.func 102) #[] #[.pointer (some ⟨w.heap.size, 0, none⟩), .pointer (some ⟨p1, 0, none⟩), .pointer (some ⟨p2, 0, none⟩), .pointer (some ⟨p3, 0, none⟩)]] W fun e w' => e = .returned (.tuple #[.int .i64 0, .int .i64 0]) ∧ Below W.heap.size W w' := by
  have v1 := hv.words
  have v2 := hv.facts
  have v3 := hv.np
  have v4 := hv.last
  have := CFailC_any ac c.copies kc 102 #[.pointer (some ⟨w.heap.size, 0, none⟩), .pointer (some ⟨p1, 0, none⟩), .pointer (some ⟨p2, 0, none⟩), .pointer (some ⟨p3, 0, none⟩)] (fun _ => 0) W hm.okc.len (hm.mono (box_old h.box)).copies (enters_of Tryz.func102 (by kernel_rfl) rfl)
    (fun k hk V hV => by
      have hk4 := hv.copy k hk
      have hh := h.on hV
      exact CChk2_any ap ac ar kp kc kr c k w.heap.size p1 p2 p3 _ _ _ V ((hm.mono (box_old h.box)).mono hV) hk (two_pow_le6 (by omega)) (two_pow_le6 (by omega)) (two_pow_le6 (by omega)) (by omega) ⟨hk4.1, hk4.2.1⟩ ⟨hk4.2.2.1, by simpa using hk4.2.2.2.1⟩ ⟨hk4.2.2.2.2.1, by simpa using hk4.2.2.2.2.2.1⟩ ⟨hk4.2.2.2.2.2.2.1, by simpa using hk4.2.2.2.2.2.2.2⟩ hv.order (box_chest hh.box).2.2.2.1 (box_chest hh.box).2.2.2.2.1 hh.c1 hh.c2 hh.c3)
  rwa [fail_no] at this
theorem CPartR (ap ac ar : Option Addr) (kp kc kr : Nat) (c : ChH) (w W : World) (hm : ChestC w ap ac ar kp kc kr c) (hv : ChValid c) (p1 p2 p3 : Nat) (h : CChkW w W ap ac ar kp kc kr c p1 p2 p3) :
    Calls Tryz.prog 103 #[.slice ar c.rules.length kr, .func (.func 104) #[] #[.pointer (some ⟨p2, 0, none⟩), .pointer (some ⟨w.heap.size, 0, none⟩)]] W fun e w' => e = .returned (.tuple #[.int .i64 0, .int .i64 0]) ∧ Below W.heap.size W w' := by
  have v2 := hv.facts
  have := CFailR_any ar c.rules kr 104 #[.pointer (some ⟨p2, 0, none⟩), .pointer (some ⟨w.heap.size, 0, none⟩)] (fun _ => 0) W hm.okr.len (hm.mono (box_old h.box)).rules (enters_of Tryz.func104 (by kernel_rfl) rfl)
    (fun k hk V hV => by
      have hk4 := hv.rule k hk
      have hh := h.on hV
      exact CChk3_any k p2 w.heap.size c.rules[k] _ c.facts V (two_pow_le6 (by omega)) ⟨hk4.1, by simpa using hk4.2.1⟩ hk4.2.2 (by omega) hh.c2 (box_chest hh.box).2.1)
  rwa [fail_no] at this

set_option maxRecDepth 100000 in
set_option maxHeartbeats 2000000 in
theorem CCheck_any (ap ac ar : Option Addr) (kp kc kr : Nat) (c : ChH) (w : World) (hm : ChestC w ap ac ar kp kc kr c) (hv : ChValid c) :
    Calls Tryz.prog 75 #[(.agg #[.int .i64 c.words, .int .i64 c.facts, .slice ap c.people.length kp, .int .i64 c.last, .slice ac c.copies.length kc, .slice ar c.rules.length kr])] w fun e w' => e = .returned (.tuple #[.int .i64 0, .int .i64 0, .int .i64 0]) ∧ Below w.heap.size w w' := by
  have v1 := hv.words
  have v2 := hv.facts
  have v3 := hv.last
  have v4 := hv.np
  have v5 := hv.nc
  have v6 := hv.nr
  have l1 := hm.okp.len
  have l2 := hm.okc.len
  have l3 := hm.okr.len
  have P1 := Lib.hid (fun (W : World) h => CPartP ap ac ar kp kc kr c w W hm hv h)
  have P2 := Lib.hid (fun (W : World) (p1 p2 p3 : Nat) h => CPartC ap ac ar kp kc kr c w W hm hv p1 p2 p3 h)
  have P3 := Lib.hid (fun (W : World) (p1 p2 p3 : Nat) h => CPartR ap ac ar kp kc kr c w W hm hv p1 p2 p3 h)
  obtain ⟨nw, hnw⟩ : ∃ n : Nat, c.words = n := ⟨c.words.toNat, by omega⟩
  obtain ⟨nf, hnf⟩ : ∃ n : Nat, c.facts = n := ⟨c.facts.toNat, by omega⟩
  have B0 := Lib.hid (fun (a : Nat) (W : World) h => COffOk c.words 1 5 (by omega) a W h)
  have B1 := Lib.hid (fun (a : Nat) (W : World) h => COffOk c.facts 1 6 (by omega) a W h)
  have B2 := Lib.hid (fun (a : Nat) (W : World) h => COffOk c.last 0 30 (by omega) a W h)
  have HNW := Lib.hid hnw
  have HNF := Lib.hid hnf
  have hq1 := two_pow_wrap6 nw (by omega)
  have hq2 := two_pow_wrap6 nf (by omega)
  have hq3 := two_pow_wrap6 c.people.length (by omega)
  have hnw6 : nw ≤ 6 := by omega
  have hnf6 : nf ≤ 6 := by omega
  clear hnw hnf
  have g1 : ¬ 3 < c.people.length := by omega
  have g2 : ¬ 6 < c.copies.length := by omega
  have g3 : ¬ 4 < c.rules.length := by omega
  have hQ0 := Below.refl (w.heap.size + 1) (w.alloc (.cells #[.int .i64 c.words, .int .i64 c.facts, .slice ap c.people.length kp, .int .i64 c.last, .slice ac c.copies.length kc, .slice ar c.rules.length kr] 41))
  go_enter Tryz.func75, Tryz.ntmps75
  go_upto_region 3 with (first
    | (go_at_call 76; (with_reducible refine (B2.out _ _ ?_).mono ?_); (simp); rintro e w5 ⟨rfl, hb5⟩; have hQ5 := (hQ4.alloc (box_size hQ4) (.cells #[.int .i64 c.last] 3)).trans (hb5.mono (by have := box_size hQ4; simp; omega)); dsimp only)
    | (go_at_call 76; (with_reducible refine (B1.out _ _ ?_).mono ?_); (simp); rintro e w4 ⟨rfl, hb4⟩; have hQ4 := (hQ3.alloc (box_size hQ3) (.cells #[.int .i64 c.facts] 3)).trans (hb4.mono (by have := box_size hQ3; simp; omega)); obtain ⟨-, -, -, z1, -, -, zz⟩ := box_chest hQ4; dsimp only)
    | (go_at_call 76; go_must (refine (B0.out _ _ ?_).mono ?_; (simp); rintro e w3 ⟨rfl, hb3⟩; have hQ3 := (hQ0.alloc (by simp) (.cells #[.int .i64 c.words] 3)).trans (hb3.mono (by simp)); obtain ⟨-, y1, -, -, -, -, yz⟩ := box_chest hQ3; dsimp only)))
  clear hb5 hb4 hb3 hQ4 hQ3 z1 zz y1 yz hQ0 B0 B1 B2
  obtain ⟨x0, x1, x2, x3, x4, x5, xz⟩ := box_chest hQ5
  go_upto_region 8 with (go_at_call 99; go_must (refine (P1.out _ hQ5).mono ?_; rintro e w6 ⟨rfl, hb6⟩; have hQ6 := box_on hQ5 hb6; dsimp only))
  clear x0 x1 x2 x3 x4 x5 xz hb6 hQ5
  obtain ⟨x0, x1, x2, x3, x4, x5, xz⟩ := box_chest hQ6
  rw [HNW.out] at x0
  rw [HNF.out] at x1
  go_upto_region 10 with (fail)
  go_cut [5, 6, 7] (fun u v s W => ∃ p1 p2 p3 : Nat, u = .pointer (some ⟨p1, 0, none⟩) ∧ v = .pointer (some ⟨p2, 0, none⟩) ∧ s = .pointer (some ⟨p3, 0, none⟩) ∧ CChkW w W ap ac ar kp kc kr c p1 p2 p3)
  case first =>
    as_aux_lemma =>
      obtain ⟨Q1, hQ1⟩ : ∃ x : Int, x = ((2 ^ nw : Nat) : Int) := ⟨_, rfl⟩
      obtain ⟨Q2, hQ2⟩ : ∃ x : Int, x = ((2 ^ nf : Nat) : Int) := ⟨_, rfl⟩
      obtain ⟨Q3, hQ3⟩ : ∃ x : Int, x = ((2 ^ c.people.length : Nat) : Int) := ⟨_, rfl⟩
      have hr1 := Lib.hid (show IntKind.i64.wrap (2 ^ nw) = Q1 by rw [hQ1]; exact two_pow_wrapI _ hnw6)
      have hr2 := Lib.hid (show IntKind.i64.wrap (2 ^ nf) = Q2 by rw [hQ2]; exact two_pow_wrapI _ hnf6)
      have hr3 := Lib.hid (show IntKind.i64.wrap (2 ^ c.people.length) = Q3 by rw [hQ3]; exact two_pow_wrapI _ (by omega))
      rw [← hQ1] at hq1
      rw [← hQ2] at hq2
      rw [← hQ3] at hq3
      replace hQ1 := Lib.hid hQ1
      replace hQ2 := Lib.hid hQ2
      replace hQ3 := Lib.hid hQ3
      clear P1 P2 P3 hm hv x3 x4 x5 g1 g2 g3
      have KE : Hid (∀ V, Below w6.heap.size w6 V → (Below w6.heap.size w6 V ∧ V.cell? ⟨w.heap.size, 0, none⟩ = some (.int .i64 (nw : Int)) ∧ V.cell? ⟨w.heap.size, 1, none⟩ = some (.int .i64 (nf : Int)) ∧ V.cell? ⟨w.heap.size, 2, none⟩ = some (.slice ap c.people.length kp) ∧ w.heap.size < V.heap.size)) := Lib.hid (fun V h => ⟨h, cell_below h x0, cell_below h x1, cell_below h x2, Nat.lt_of_lt_of_le xz h.size⟩)
      have HB6 := Below.refl w6.heap.size w6
      refine wp_region_held_drew (S := (fun V => Below w6.heap.size w6 V ∧ V.cell? ⟨w.heap.size, 0, none⟩ = some (.int .i64 (nw : Int)) ∧ V.cell? ⟨w.heap.size, 1, none⟩ = some (.int .i64 (nf : Int)) ∧ V.cell? ⟨w.heap.size, 2, none⟩ = some (.slice ap c.people.length kp) ∧ w.heap.size < V.heap.size)) (by kernel_rfl) (KE.out _ (below_drew' HB6)) (fun hHeld => ?_)
      clear xz x0 x1 x2
      (refine wpAnyH_take (i := 0) (v := ?_) rfl (by kernel_rfl) (by kernel_rfl) (by kernel_rfl) (fun _ _ _ h => h) (Or.inl ⟨by kernel_rfl, ?_⟩) (by assumption) ?_; rotate_left 1; (focus (intro w hSw; (try dsimp only at hSw); go_simp; first | done | with_reducible rfl)); simp only [Act.put, List.getElem_toArray, List.getElem_cons_succ, List.getElem_cons_zero, List.setIfInBounds_toArray, List.set_cons_succ, List.set_cons_zero])
      (refine wpAnyH_take (i := 1) (v := ?_) rfl (by kernel_rfl) (by kernel_rfl) (by kernel_rfl) (fun _ _ _ h => h) (Or.inl ⟨by kernel_rfl, ?_⟩) (by assumption) ?_; rotate_left 1; (focus (intro w hSw; (try dsimp only at hSw); go_simp; first | done | with_reducible rfl)); simp only [Act.put, List.getElem_toArray, List.getElem_cons_succ, List.getElem_cons_zero, List.setIfInBounds_toArray, List.set_cons_succ, List.set_cons_zero])
      (refine wpAnyH_take (i := 2) (v := ?_) rfl (by kernel_rfl) (by kernel_rfl) (by kernel_rfl) (fun _ _ _ h => h) (Or.inl ⟨by kernel_rfl, ?_⟩) (by assumption) ?_; rotate_left 1; (focus (intro w hSw; (try dsimp only at hSw); go_simp; first | done | with_reducible rfl)); simp only [Act.put, List.getElem_toArray, List.getElem_cons_succ, List.getElem_cons_zero, List.setIfInBounds_toArray, List.set_cons_succ, List.set_cons_zero])
      (refine wpAnyH_take (i := 3) (v := ?_) rfl (by kernel_rfl) (by kernel_rfl) (by kernel_rfl) (fun _ _ _ h => h) (Or.inl ⟨by kernel_rfl, ?_⟩) (by assumption) ?_; rotate_left 1; (focus (intro w hSw; (try dsimp only at hSw); go_simp; first | done | with_reducible rfl)); simp only [Act.put, List.getElem_toArray, List.getElem_cons_succ, List.getElem_cons_zero, List.setIfInBounds_toArray, List.set_cons_succ, List.set_cons_zero])
      (refine wpAnyH_take (i := 4) (v := ?_) rfl (by kernel_rfl) (by kernel_rfl) (by kernel_rfl) (fun _ _ _ h => h) (Or.inl ⟨by kernel_rfl, ?_⟩) (by assumption) ?_; rotate_left 1; (focus (intro w hSw; (try dsimp only at hSw); go_simp; first | done | with_reducible rfl)); simp only [Act.put, List.getElem_toArray, List.getElem_cons_succ, List.getElem_cons_zero, List.setIfInBounds_toArray, List.set_cons_succ, List.set_cons_zero])
      (refine wpAnyH_take (i := 5) (v := ?_) rfl (by kernel_rfl) (by kernel_rfl) (by kernel_rfl) (fun _ _ _ h => h) (Or.inl ⟨by kernel_rfl, ?_⟩) (by assumption) ?_; rotate_left 1; (focus (intro w hSw; (try dsimp only at hSw); go_simp; first | done | with_reducible rfl)); simp only [Act.put, List.getElem_toArray, List.getElem_cons_succ, List.getElem_cons_zero, List.setIfInBounds_toArray, List.set_cons_succ, List.set_cons_zero])
      (refine wpAnyH_take (i := 6) (v := ?_) rfl (by kernel_rfl) (by kernel_rfl) (by kernel_rfl) (fun _ _ _ h => h) (Or.inl ⟨by kernel_rfl, ?_⟩) (by assumption) ?_; rotate_left 1; (focus (intro w hSw; (try dsimp only at hSw); go_simp; first | done | with_reducible rfl)); simp only [Act.put, List.getElem_toArray, List.getElem_cons_succ, List.getElem_cons_zero, List.setIfInBounds_toArray, List.set_cons_succ, List.set_cons_zero])
      (refine wpAnyH_take (i := 7) (v := ?_) rfl (by kernel_rfl) (by kernel_rfl) (by kernel_rfl) (fun _ _ _ h => h) (Or.inl ⟨by kernel_rfl, ?_⟩) (by assumption) ?_; rotate_left 1; (focus (intro w hSw; (try dsimp only at hSw); go_simp; first | done | with_reducible rfl)); simp only [Act.put, List.getElem_toArray, List.getElem_cons_succ, List.getElem_cons_zero, List.setIfInBounds_toArray, List.set_cons_succ, List.set_cons_zero])
      (refine wpAnyH_take (i := 8) (v := ?_) rfl (by kernel_rfl) (by kernel_rfl) (by kernel_rfl) (fun _ _ _ h => h) (Or.inl ⟨by kernel_rfl, ?_⟩) (by assumption) ?_; rotate_left 1; (focus (intro w hSw; (try dsimp only at hSw); go_simp; first | done | with_reducible rfl)); simp only [Act.put, List.getElem_toArray, List.getElem_cons_succ, List.getElem_cons_zero, List.setIfInBounds_toArray, List.set_cons_succ, List.set_cons_zero])
      (refine wpAnyH_take (i := 9) (v := ?_) rfl (by kernel_rfl) (by kernel_rfl) (by kernel_rfl) (fun _ _ _ h => h) (Or.inl ⟨by kernel_rfl, ?_⟩) (by assumption) ?_; rotate_left 1; (focus (intro w hSw; (try dsimp only at hSw); go_simp; first | done | with_reducible rfl)); simp only [Act.put, List.getElem_toArray, List.getElem_cons_succ, List.getElem_cons_zero, List.setIfInBounds_toArray, List.set_cons_succ, List.set_cons_zero])
      as_aux_lemma =>
        (refine wpAnyH_ready (rs := [10, 11, 12]) (by kernel_rfl) (by simp) (AllReadyH.cons rfl (fun K hK => ?_) (AllReadyH.cons rfl (fun K hK => ?_) (AllReadyH.cons rfl (fun K hK => ?_) AllReadyH.nil))))
        · go_simp
          refine hK.out _ _ (KE.out _ (by (repeat' (first | assumption | exact Below.refl _ _ | refine below_drew' ?_ | refine Below.setCell ?_ (by first | omega | (simp <;> omega)) _ | refine Below.alloc ?_ (by first | omega | (simp <;> omega)) _)))) (fun hHeld => ?_)
          (try simp only [Act.put, List.getElem_toArray, List.getElem_cons_succ, List.getElem_cons_zero, List.setIfInBounds_toArray, List.set_cons_succ, List.set_cons_zero])
          clear hK hHeld
          obtain ⟨V1, e1⟩ : ∃ V : World, V = (w6.alloc (.cells #[.int .i64 0] 3)).drew := ⟨_, rfl⟩
          rw [← e1]
          have B1 : Below w6.heap.size w6 V1 := by rw [e1]; exact below_drew' ((Below.refl _ _).alloc (Nat.le_refl _) _)
          have H1 : V1.heap[w6.heap.size]? = some (.cells #[.int .i64 0] 3 (0, 0)) := by rw [e1]; exact heap_alloc_new _ _
          have z1 : w6.heap.size < V1.heap.size := lt_of_block H1
          have hHeld := KE.out _ B1
          clear e1
          (refine wpAnyH_ready (rs := [11, 12]) (by kernel_rfl) (by simp) (AllReadyH.cons rfl (fun K hK => ?_) (AllReadyH.cons rfl (fun K hK => ?_) AllReadyH.nil)))
          · go_simp
            refine hK.out _ _ (KE.out _ (by (repeat' (first | assumption | exact Below.refl _ _ | refine below_drew' ?_ | refine Below.setCell ?_ (by first | omega | (simp <;> omega)) _ | refine Below.alloc ?_ (by first | omega | (simp <;> omega)) _)))) (fun hHeld => ?_)
            (try simp only [Act.put, List.getElem_toArray, List.getElem_cons_succ, List.getElem_cons_zero, List.setIfInBounds_toArray, List.set_cons_succ, List.set_cons_zero])
            clear hK hHeld
            obtain ⟨V2, e2⟩ : ∃ V : World, V = V1.alloc (.cells #[.int .i64 0] 3) := ⟨_, rfl⟩
            rw [← e2]
            have B2 : Below w6.heap.size w6 V2 := by rw [e2]; exact B1.alloc B1.size _
            have H2 : V2.heap[V1.heap.size]? = some (.cells #[.int .i64 0] 3 (0, 0)) := by rw [e2]; exact heap_alloc_new _ _
            replace H1 : V2.heap[w6.heap.size]? = some (.cells #[.int .i64 0] 3 (0, 0)) := by rw [e2]; exact (heap_alloc_old _ _ (lt_of_block H1)).trans H1
            have z2 : V1.heap.size < V2.heap.size := lt_of_block H2
            have hHeld := KE.out _ B2
            clear e2
            (refine wpAnyH_ready (rs := [12]) (by kernel_rfl) (by simp) (AllReadyH.cons rfl (fun K hK => ?_) AllReadyH.nil))
            · go_simp
              refine hK.out _ _ (KE.out _ (by (repeat' (first | assumption | exact Below.refl _ _ | refine below_drew' ?_ | refine Below.setCell ?_ (by first | omega | (simp <;> omega)) _ | refine Below.alloc ?_ (by first | omega | (simp <;> omega)) _)))) (fun hHeld => ?_)
              (try simp only [Act.put, List.getElem_toArray, List.getElem_cons_succ, List.getElem_cons_zero, List.setIfInBounds_toArray, List.set_cons_succ, List.set_cons_zero])
              clear hK hHeld
              obtain ⟨V3, e3⟩ : ∃ V : World, V = V2.alloc (.cells #[.int .i64 0] 3) := ⟨_, rfl⟩
              rw [← e3]
              have B3 : Below w6.heap.size w6 V3 := by rw [e3]; exact B2.alloc B2.size _
              have H3 : V3.heap[V2.heap.size]? = some (.cells #[.int .i64 0] 3 (0, 0)) := by rw [e3]; exact heap_alloc_new _ _
              replace H1 : V3.heap[w6.heap.size]? = some (.cells #[.int .i64 0] 3 (0, 0)) := by rw [e3]; exact (heap_alloc_old _ _ (lt_of_block H1)).trans H1
              replace H2 : V3.heap[V1.heap.size]? = some (.cells #[.int .i64 0] 3 (0, 0)) := by rw [e3]; exact (heap_alloc_old _ _ (lt_of_block H2)).trans H2
              have z3 : V2.heap.size < V3.heap.size := lt_of_block H3
              have hHeld := KE.out _ B3
              clear e3
              as_aux_lemma =>
                have hb1 := B1.size
                have hb2 := B2.size
                have c1 := blk_cell 0 H1 rfl
                have f1 := blk_free 0 H1
                have q1 := lt_of_block H1
                have c2 := blk_cell 0 H2 rfl
                have f2 := blk_free 0 H2
                have q2 := lt_of_block H2
                have c3 := blk_cell 0 H3 rfl
                have f3 := blk_free 0 H3
                have q3 := lt_of_block H3
                (refine wpAnyH_ready (rs := [13]) (by kernel_rfl) (by simp) (AllReadyH.cons rfl (fun K hK => ?_) AllReadyH.nil))
                go_simp
                refine hK.out _ _ (KE.out _ (by (repeat' (first | assumption | exact Below.refl _ _ | refine below_drew' ?_ | refine Below.setCell ?_ (by first | omega | (simp <;> omega)) _ | refine Below.alloc ?_ (by first | omega | (simp <;> omega)) _)))) (fun hHeld => ?_)
                (try simp only [Act.put, List.getElem_toArray, List.getElem_cons_succ, List.getElem_cons_zero, List.setIfInBounds_toArray, List.set_cons_succ, List.set_cons_zero])
                clear hK hHeld
                (refine wpAnyH_ready (rs := [14]) (by kernel_rfl) (by simp) (AllReadyH.cons rfl (fun K hK => ?_) AllReadyH.nil))
                go_simp
                refine hK.out _ _ (KE.out _ (by (repeat' (first | assumption | exact Below.refl _ _ | refine below_drew' ?_ | refine Below.setCell ?_ (by first | omega | (simp <;> omega)) _ | refine Below.alloc ?_ (by first | omega | (simp <;> omega)) _)))) (fun hHeld => ?_)
                (try simp only [Act.put, List.getElem_toArray, List.getElem_cons_succ, List.getElem_cons_zero, List.setIfInBounds_toArray, List.set_cons_succ, List.set_cons_zero])
                clear hK hHeld
                (refine wpAnyH_ready (rs := [15]) (by kernel_rfl) (by simp) (AllReadyH.cons rfl (fun K hK => ?_) AllReadyH.nil))
                go_simp
                refine hK.out _ _ (KE.out _ (by (repeat' (first | assumption | exact Below.refl _ _ | refine below_drew' ?_ | refine Below.setCell ?_ (by first | omega | (simp <;> omega)) _ | refine Below.alloc ?_ (by first | omega | (simp <;> omega)) _)))) (fun hHeld => ?_)
                (try simp only [Act.put, List.getElem_toArray, List.getElem_cons_succ, List.getElem_cons_zero, List.setIfInBounds_toArray, List.set_cons_succ, List.set_cons_zero])
                clear hK hHeld
                refine wpAnyH_done (by kernel_rfl) ?_ _
                have TS := fun A B C => three_sets H1 H2 H3 (by omega) (by omega) (by omega) A B C
                have HBZ := fun A B C => (((B3.setCell (p := ⟨w6.heap.size, 0, none⟩) (by simp only; omega) A).setCell (p := ⟨V1.heap.size, 0, none⟩) (by simp only; omega) B).setCell (p := ⟨V2.heap.size, 0, none⟩) (by simp only; omega) C)
                clear c1 c2 c3 f1 f2 f3 q1 q2 q3 H1 H2 H3
                go_wp2
                go_meet
                case rel => exact ⟨_, _, _, rfl, rfl, rfl, box_on hQ6 (HBZ _ _ _), by rw [HNW.out, Int.toNat_natCast, ← hQ1.out, ← hr1.out]; exact (TS _ _ _).1, by rw [HNF.out, Int.toNat_natCast, ← hQ2.out, ← hr2.out]; exact (TS _ _ _).2.1, by rw [← hQ3.out, ← hr3.out]; exact (TS _ _ _).2.2⟩
          · go_simp
            refine hK.out _ _ (KE.out _ (by (repeat' (first | assumption | exact Below.refl _ _ | refine below_drew' ?_ | refine Below.setCell ?_ (by first | omega | (simp <;> omega)) _ | refine Below.alloc ?_ (by first | omega | (simp <;> omega)) _)))) (fun hHeld => ?_)
            (try simp only [Act.put, List.getElem_toArray, List.getElem_cons_succ, List.getElem_cons_zero, List.setIfInBounds_toArray, List.set_cons_succ, List.set_cons_zero])
            clear hK hHeld
            obtain ⟨V2, e2⟩ : ∃ V : World, V = V1.alloc (.cells #[.int .i64 0] 3) := ⟨_, rfl⟩
            rw [← e2]
            have B2 : Below w6.heap.size w6 V2 := by rw [e2]; exact B1.alloc B1.size _
            have H2 : V2.heap[V1.heap.size]? = some (.cells #[.int .i64 0] 3 (0, 0)) := by rw [e2]; exact heap_alloc_new _ _
            replace H1 : V2.heap[w6.heap.size]? = some (.cells #[.int .i64 0] 3 (0, 0)) := by rw [e2]; exact (heap_alloc_old _ _ (lt_of_block H1)).trans H1
            have z2 : V1.heap.size < V2.heap.size := lt_of_block H2
            have hHeld := KE.out _ B2
            clear e2
            (refine wpAnyH_ready (rs := [11]) (by kernel_rfl) (by simp) (AllReadyH.cons rfl (fun K hK => ?_) AllReadyH.nil))
            · go_simp
              refine hK.out _ _ (KE.out _ (by (repeat' (first | assumption | exact Below.refl _ _ | refine below_drew' ?_ | refine Below.setCell ?_ (by first | omega | (simp <;> omega)) _ | refine Below.alloc ?_ (by first | omega | (simp <;> omega)) _)))) (fun hHeld => ?_)
              (try simp only [Act.put, List.getElem_toArray, List.getElem_cons_succ, List.getElem_cons_zero, List.setIfInBounds_toArray, List.set_cons_succ, List.set_cons_zero])
              clear hK hHeld
              obtain ⟨V3, e3⟩ : ∃ V : World, V = V2.alloc (.cells #[.int .i64 0] 3) := ⟨_, rfl⟩
              rw [← e3]
              have B3 : Below w6.heap.size w6 V3 := by rw [e3]; exact B2.alloc B2.size _
              have H3 : V3.heap[V2.heap.size]? = some (.cells #[.int .i64 0] 3 (0, 0)) := by rw [e3]; exact heap_alloc_new _ _
              replace H1 : V3.heap[w6.heap.size]? = some (.cells #[.int .i64 0] 3 (0, 0)) := by rw [e3]; exact (heap_alloc_old _ _ (lt_of_block H1)).trans H1
              replace H2 : V3.heap[V1.heap.size]? = some (.cells #[.int .i64 0] 3 (0, 0)) := by rw [e3]; exact (heap_alloc_old _ _ (lt_of_block H2)).trans H2
              have z3 : V2.heap.size < V3.heap.size := lt_of_block H3
              have hHeld := KE.out _ B3
              clear e3
              as_aux_lemma =>
                have hb1 := B1.size
                have hb2 := B2.size
                have c1 := blk_cell 0 H1 rfl
                have f1 := blk_free 0 H1
                have q1 := lt_of_block H1
                have c2 := blk_cell 0 H2 rfl
                have f2 := blk_free 0 H2
                have q2 := lt_of_block H2
                have c3 := blk_cell 0 H3 rfl
                have f3 := blk_free 0 H3
                have q3 := lt_of_block H3
                (refine wpAnyH_ready (rs := [13]) (by kernel_rfl) (by simp) (AllReadyH.cons rfl (fun K hK => ?_) AllReadyH.nil))
                go_simp
                refine hK.out _ _ (KE.out _ (by (repeat' (first | assumption | exact Below.refl _ _ | refine below_drew' ?_ | refine Below.setCell ?_ (by first | omega | (simp <;> omega)) _ | refine Below.alloc ?_ (by first | omega | (simp <;> omega)) _)))) (fun hHeld => ?_)
                (try simp only [Act.put, List.getElem_toArray, List.getElem_cons_succ, List.getElem_cons_zero, List.setIfInBounds_toArray, List.set_cons_succ, List.set_cons_zero])
                clear hK hHeld
                (refine wpAnyH_ready (rs := [14]) (by kernel_rfl) (by simp) (AllReadyH.cons rfl (fun K hK => ?_) AllReadyH.nil))
                go_simp
                refine hK.out _ _ (KE.out _ (by (repeat' (first | assumption | exact Below.refl _ _ | refine below_drew' ?_ | refine Below.setCell ?_ (by first | omega | (simp <;> omega)) _ | refine Below.alloc ?_ (by first | omega | (simp <;> omega)) _)))) (fun hHeld => ?_)
                (try simp only [Act.put, List.getElem_toArray, List.getElem_cons_succ, List.getElem_cons_zero, List.setIfInBounds_toArray, List.set_cons_succ, List.set_cons_zero])
                clear hK hHeld
                (refine wpAnyH_ready (rs := [15]) (by kernel_rfl) (by simp) (AllReadyH.cons rfl (fun K hK => ?_) AllReadyH.nil))
                go_simp
                refine hK.out _ _ (KE.out _ (by (repeat' (first | assumption | exact Below.refl _ _ | refine below_drew' ?_ | refine Below.setCell ?_ (by first | omega | (simp <;> omega)) _ | refine Below.alloc ?_ (by first | omega | (simp <;> omega)) _)))) (fun hHeld => ?_)
                (try simp only [Act.put, List.getElem_toArray, List.getElem_cons_succ, List.getElem_cons_zero, List.setIfInBounds_toArray, List.set_cons_succ, List.set_cons_zero])
                clear hK hHeld
                refine wpAnyH_done (by kernel_rfl) ?_ _
                have TS := fun A B C => three_sets H1 H3 H2 (by omega) (by omega) (by omega) A B C
                have HBZ := fun A B C => (((B3.setCell (p := ⟨w6.heap.size, 0, none⟩) (by simp only; omega) A).setCell (p := ⟨V2.heap.size, 0, none⟩) (by simp only; omega) B).setCell (p := ⟨V1.heap.size, 0, none⟩) (by simp only; omega) C)
                clear c1 c2 c3 f1 f2 f3 q1 q2 q3 H1 H2 H3
                go_wp2
                go_meet
                case rel => exact ⟨_, _, _, rfl, rfl, rfl, box_on hQ6 (HBZ _ _ _), by rw [HNW.out, Int.toNat_natCast, ← hQ1.out, ← hr1.out]; exact (TS _ _ _).1, by rw [HNF.out, Int.toNat_natCast, ← hQ2.out, ← hr2.out]; exact (TS _ _ _).2.1, by rw [← hQ3.out, ← hr3.out]; exact (TS _ _ _).2.2⟩
        · go_simp
          refine hK.out _ _ (KE.out _ (by (repeat' (first | assumption | exact Below.refl _ _ | refine below_drew' ?_ | refine Below.setCell ?_ (by first | omega | (simp <;> omega)) _ | refine Below.alloc ?_ (by first | omega | (simp <;> omega)) _)))) (fun hHeld => ?_)
          (try simp only [Act.put, List.getElem_toArray, List.getElem_cons_succ, List.getElem_cons_zero, List.setIfInBounds_toArray, List.set_cons_succ, List.set_cons_zero])
          clear hK hHeld
          obtain ⟨V1, e1⟩ : ∃ V : World, V = (w6.alloc (.cells #[.int .i64 0] 3)).drew := ⟨_, rfl⟩
          rw [← e1]
          have B1 : Below w6.heap.size w6 V1 := by rw [e1]; exact below_drew' ((Below.refl _ _).alloc (Nat.le_refl _) _)
          have H1 : V1.heap[w6.heap.size]? = some (.cells #[.int .i64 0] 3 (0, 0)) := by rw [e1]; exact heap_alloc_new _ _
          have z1 : w6.heap.size < V1.heap.size := lt_of_block H1
          have hHeld := KE.out _ B1
          clear e1
          (refine wpAnyH_ready (rs := [10, 12]) (by kernel_rfl) (by simp) (AllReadyH.cons rfl (fun K hK => ?_) (AllReadyH.cons rfl (fun K hK => ?_) AllReadyH.nil)))
          · go_simp
            refine hK.out _ _ (KE.out _ (by (repeat' (first | assumption | exact Below.refl _ _ | refine below_drew' ?_ | refine Below.setCell ?_ (by first | omega | (simp <;> omega)) _ | refine Below.alloc ?_ (by first | omega | (simp <;> omega)) _)))) (fun hHeld => ?_)
            (try simp only [Act.put, List.getElem_toArray, List.getElem_cons_succ, List.getElem_cons_zero, List.setIfInBounds_toArray, List.set_cons_succ, List.set_cons_zero])
            clear hK hHeld
            obtain ⟨V2, e2⟩ : ∃ V : World, V = V1.alloc (.cells #[.int .i64 0] 3) := ⟨_, rfl⟩
            rw [← e2]
            have B2 : Below w6.heap.size w6 V2 := by rw [e2]; exact B1.alloc B1.size _
            have H2 : V2.heap[V1.heap.size]? = some (.cells #[.int .i64 0] 3 (0, 0)) := by rw [e2]; exact heap_alloc_new _ _
            replace H1 : V2.heap[w6.heap.size]? = some (.cells #[.int .i64 0] 3 (0, 0)) := by rw [e2]; exact (heap_alloc_old _ _ (lt_of_block H1)).trans H1
            have z2 : V1.heap.size < V2.heap.size := lt_of_block H2
            have hHeld := KE.out _ B2
            clear e2
            (refine wpAnyH_ready (rs := [12]) (by kernel_rfl) (by simp) (AllReadyH.cons rfl (fun K hK => ?_) AllReadyH.nil))
            · go_simp
              refine hK.out _ _ (KE.out _ (by (repeat' (first | assumption | exact Below.refl _ _ | refine below_drew' ?_ | refine Below.setCell ?_ (by first | omega | (simp <;> omega)) _ | refine Below.alloc ?_ (by first | omega | (simp <;> omega)) _)))) (fun hHeld => ?_)
              (try simp only [Act.put, List.getElem_toArray, List.getElem_cons_succ, List.getElem_cons_zero, List.setIfInBounds_toArray, List.set_cons_succ, List.set_cons_zero])
              clear hK hHeld
              obtain ⟨V3, e3⟩ : ∃ V : World, V = V2.alloc (.cells #[.int .i64 0] 3) := ⟨_, rfl⟩
              rw [← e3]
              have B3 : Below w6.heap.size w6 V3 := by rw [e3]; exact B2.alloc B2.size _
              have H3 : V3.heap[V2.heap.size]? = some (.cells #[.int .i64 0] 3 (0, 0)) := by rw [e3]; exact heap_alloc_new _ _
              replace H1 : V3.heap[w6.heap.size]? = some (.cells #[.int .i64 0] 3 (0, 0)) := by rw [e3]; exact (heap_alloc_old _ _ (lt_of_block H1)).trans H1
              replace H2 : V3.heap[V1.heap.size]? = some (.cells #[.int .i64 0] 3 (0, 0)) := by rw [e3]; exact (heap_alloc_old _ _ (lt_of_block H2)).trans H2
              have z3 : V2.heap.size < V3.heap.size := lt_of_block H3
              have hHeld := KE.out _ B3
              clear e3
              as_aux_lemma =>
                have hb1 := B1.size
                have hb2 := B2.size
                have c1 := blk_cell 0 H1 rfl
                have f1 := blk_free 0 H1
                have q1 := lt_of_block H1
                have c2 := blk_cell 0 H2 rfl
                have f2 := blk_free 0 H2
                have q2 := lt_of_block H2
                have c3 := blk_cell 0 H3 rfl
                have f3 := blk_free 0 H3
                have q3 := lt_of_block H3
                (refine wpAnyH_ready (rs := [13]) (by kernel_rfl) (by simp) (AllReadyH.cons rfl (fun K hK => ?_) AllReadyH.nil))
                go_simp
                refine hK.out _ _ (KE.out _ (by (repeat' (first | assumption | exact Below.refl _ _ | refine below_drew' ?_ | refine Below.setCell ?_ (by first | omega | (simp <;> omega)) _ | refine Below.alloc ?_ (by first | omega | (simp <;> omega)) _)))) (fun hHeld => ?_)
                (try simp only [Act.put, List.getElem_toArray, List.getElem_cons_succ, List.getElem_cons_zero, List.setIfInBounds_toArray, List.set_cons_succ, List.set_cons_zero])
                clear hK hHeld
                (refine wpAnyH_ready (rs := [14]) (by kernel_rfl) (by simp) (AllReadyH.cons rfl (fun K hK => ?_) AllReadyH.nil))
                go_simp
                refine hK.out _ _ (KE.out _ (by (repeat' (first | assumption | exact Below.refl _ _ | refine below_drew' ?_ | refine Below.setCell ?_ (by first | omega | (simp <;> omega)) _ | refine Below.alloc ?_ (by first | omega | (simp <;> omega)) _)))) (fun hHeld => ?_)
                (try simp only [Act.put, List.getElem_toArray, List.getElem_cons_succ, List.getElem_cons_zero, List.setIfInBounds_toArray, List.set_cons_succ, List.set_cons_zero])
                clear hK hHeld
                (refine wpAnyH_ready (rs := [15]) (by kernel_rfl) (by simp) (AllReadyH.cons rfl (fun K hK => ?_) AllReadyH.nil))
                go_simp
                refine hK.out _ _ (KE.out _ (by (repeat' (first | assumption | exact Below.refl _ _ | refine below_drew' ?_ | refine Below.setCell ?_ (by first | omega | (simp <;> omega)) _ | refine Below.alloc ?_ (by first | omega | (simp <;> omega)) _)))) (fun hHeld => ?_)
                (try simp only [Act.put, List.getElem_toArray, List.getElem_cons_succ, List.getElem_cons_zero, List.setIfInBounds_toArray, List.set_cons_succ, List.set_cons_zero])
                clear hK hHeld
                refine wpAnyH_done (by kernel_rfl) ?_ _
                have TS := fun A B C => three_sets H2 H1 H3 (by omega) (by omega) (by omega) A B C
                have HBZ := fun A B C => (((B3.setCell (p := ⟨V1.heap.size, 0, none⟩) (by simp only; omega) A).setCell (p := ⟨w6.heap.size, 0, none⟩) (by simp only; omega) B).setCell (p := ⟨V2.heap.size, 0, none⟩) (by simp only; omega) C)
                clear c1 c2 c3 f1 f2 f3 q1 q2 q3 H1 H2 H3
                go_wp2
                go_meet
                case rel => exact ⟨_, _, _, rfl, rfl, rfl, box_on hQ6 (HBZ _ _ _), by rw [HNW.out, Int.toNat_natCast, ← hQ1.out, ← hr1.out]; exact (TS _ _ _).1, by rw [HNF.out, Int.toNat_natCast, ← hQ2.out, ← hr2.out]; exact (TS _ _ _).2.1, by rw [← hQ3.out, ← hr3.out]; exact (TS _ _ _).2.2⟩
          · go_simp
            refine hK.out _ _ (KE.out _ (by (repeat' (first | assumption | exact Below.refl _ _ | refine below_drew' ?_ | refine Below.setCell ?_ (by first | omega | (simp <;> omega)) _ | refine Below.alloc ?_ (by first | omega | (simp <;> omega)) _)))) (fun hHeld => ?_)
            (try simp only [Act.put, List.getElem_toArray, List.getElem_cons_succ, List.getElem_cons_zero, List.setIfInBounds_toArray, List.set_cons_succ, List.set_cons_zero])
            clear hK hHeld
            obtain ⟨V2, e2⟩ : ∃ V : World, V = V1.alloc (.cells #[.int .i64 0] 3) := ⟨_, rfl⟩
            rw [← e2]
            have B2 : Below w6.heap.size w6 V2 := by rw [e2]; exact B1.alloc B1.size _
            have H2 : V2.heap[V1.heap.size]? = some (.cells #[.int .i64 0] 3 (0, 0)) := by rw [e2]; exact heap_alloc_new _ _
            replace H1 : V2.heap[w6.heap.size]? = some (.cells #[.int .i64 0] 3 (0, 0)) := by rw [e2]; exact (heap_alloc_old _ _ (lt_of_block H1)).trans H1
            have z2 : V1.heap.size < V2.heap.size := lt_of_block H2
            have hHeld := KE.out _ B2
            clear e2
            (refine wpAnyH_ready (rs := [10]) (by kernel_rfl) (by simp) (AllReadyH.cons rfl (fun K hK => ?_) AllReadyH.nil))
            · go_simp
              refine hK.out _ _ (KE.out _ (by (repeat' (first | assumption | exact Below.refl _ _ | refine below_drew' ?_ | refine Below.setCell ?_ (by first | omega | (simp <;> omega)) _ | refine Below.alloc ?_ (by first | omega | (simp <;> omega)) _)))) (fun hHeld => ?_)
              (try simp only [Act.put, List.getElem_toArray, List.getElem_cons_succ, List.getElem_cons_zero, List.setIfInBounds_toArray, List.set_cons_succ, List.set_cons_zero])
              clear hK hHeld
              obtain ⟨V3, e3⟩ : ∃ V : World, V = V2.alloc (.cells #[.int .i64 0] 3) := ⟨_, rfl⟩
              rw [← e3]
              have B3 : Below w6.heap.size w6 V3 := by rw [e3]; exact B2.alloc B2.size _
              have H3 : V3.heap[V2.heap.size]? = some (.cells #[.int .i64 0] 3 (0, 0)) := by rw [e3]; exact heap_alloc_new _ _
              replace H1 : V3.heap[w6.heap.size]? = some (.cells #[.int .i64 0] 3 (0, 0)) := by rw [e3]; exact (heap_alloc_old _ _ (lt_of_block H1)).trans H1
              replace H2 : V3.heap[V1.heap.size]? = some (.cells #[.int .i64 0] 3 (0, 0)) := by rw [e3]; exact (heap_alloc_old _ _ (lt_of_block H2)).trans H2
              have z3 : V2.heap.size < V3.heap.size := lt_of_block H3
              have hHeld := KE.out _ B3
              clear e3
              as_aux_lemma =>
                have hb1 := B1.size
                have hb2 := B2.size
                have c1 := blk_cell 0 H1 rfl
                have f1 := blk_free 0 H1
                have q1 := lt_of_block H1
                have c2 := blk_cell 0 H2 rfl
                have f2 := blk_free 0 H2
                have q2 := lt_of_block H2
                have c3 := blk_cell 0 H3 rfl
                have f3 := blk_free 0 H3
                have q3 := lt_of_block H3
                (refine wpAnyH_ready (rs := [13]) (by kernel_rfl) (by simp) (AllReadyH.cons rfl (fun K hK => ?_) AllReadyH.nil))
                go_simp
                refine hK.out _ _ (KE.out _ (by (repeat' (first | assumption | exact Below.refl _ _ | refine below_drew' ?_ | refine Below.setCell ?_ (by first | omega | (simp <;> omega)) _ | refine Below.alloc ?_ (by first | omega | (simp <;> omega)) _)))) (fun hHeld => ?_)
                (try simp only [Act.put, List.getElem_toArray, List.getElem_cons_succ, List.getElem_cons_zero, List.setIfInBounds_toArray, List.set_cons_succ, List.set_cons_zero])
                clear hK hHeld
                (refine wpAnyH_ready (rs := [14]) (by kernel_rfl) (by simp) (AllReadyH.cons rfl (fun K hK => ?_) AllReadyH.nil))
                go_simp
                refine hK.out _ _ (KE.out _ (by (repeat' (first | assumption | exact Below.refl _ _ | refine below_drew' ?_ | refine Below.setCell ?_ (by first | omega | (simp <;> omega)) _ | refine Below.alloc ?_ (by first | omega | (simp <;> omega)) _)))) (fun hHeld => ?_)
                (try simp only [Act.put, List.getElem_toArray, List.getElem_cons_succ, List.getElem_cons_zero, List.setIfInBounds_toArray, List.set_cons_succ, List.set_cons_zero])
                clear hK hHeld
                (refine wpAnyH_ready (rs := [15]) (by kernel_rfl) (by simp) (AllReadyH.cons rfl (fun K hK => ?_) AllReadyH.nil))
                go_simp
                refine hK.out _ _ (KE.out _ (by (repeat' (first | assumption | exact Below.refl _ _ | refine below_drew' ?_ | refine Below.setCell ?_ (by first | omega | (simp <;> omega)) _ | refine Below.alloc ?_ (by first | omega | (simp <;> omega)) _)))) (fun hHeld => ?_)
                (try simp only [Act.put, List.getElem_toArray, List.getElem_cons_succ, List.getElem_cons_zero, List.setIfInBounds_toArray, List.set_cons_succ, List.set_cons_zero])
                clear hK hHeld
                refine wpAnyH_done (by kernel_rfl) ?_ _
                have TS := fun A B C => three_sets H3 H1 H2 (by omega) (by omega) (by omega) A B C
                have HBZ := fun A B C => (((B3.setCell (p := ⟨V2.heap.size, 0, none⟩) (by simp only; omega) A).setCell (p := ⟨w6.heap.size, 0, none⟩) (by simp only; omega) B).setCell (p := ⟨V1.heap.size, 0, none⟩) (by simp only; omega) C)
                clear c1 c2 c3 f1 f2 f3 q1 q2 q3 H1 H2 H3
                go_wp2
                go_meet
                case rel => exact ⟨_, _, _, rfl, rfl, rfl, box_on hQ6 (HBZ _ _ _), by rw [HNW.out, Int.toNat_natCast, ← hQ1.out, ← hr1.out]; exact (TS _ _ _).1, by rw [HNF.out, Int.toNat_natCast, ← hQ2.out, ← hr2.out]; exact (TS _ _ _).2.1, by rw [← hQ3.out, ← hr3.out]; exact (TS _ _ _).2.2⟩
        · go_simp
          refine hK.out _ _ (KE.out _ (by (repeat' (first | assumption | exact Below.refl _ _ | refine below_drew' ?_ | refine Below.setCell ?_ (by first | omega | (simp <;> omega)) _ | refine Below.alloc ?_ (by first | omega | (simp <;> omega)) _)))) (fun hHeld => ?_)
          (try simp only [Act.put, List.getElem_toArray, List.getElem_cons_succ, List.getElem_cons_zero, List.setIfInBounds_toArray, List.set_cons_succ, List.set_cons_zero])
          clear hK hHeld
          obtain ⟨V1, e1⟩ : ∃ V : World, V = (w6.alloc (.cells #[.int .i64 0] 3)).drew := ⟨_, rfl⟩
          rw [← e1]
          have B1 : Below w6.heap.size w6 V1 := by rw [e1]; exact below_drew' ((Below.refl _ _).alloc (Nat.le_refl _) _)
          have H1 : V1.heap[w6.heap.size]? = some (.cells #[.int .i64 0] 3 (0, 0)) := by rw [e1]; exact heap_alloc_new _ _
          have z1 : w6.heap.size < V1.heap.size := lt_of_block H1
          have hHeld := KE.out _ B1
          clear e1
          (refine wpAnyH_ready (rs := [10, 11]) (by kernel_rfl) (by simp) (AllReadyH.cons rfl (fun K hK => ?_) (AllReadyH.cons rfl (fun K hK => ?_) AllReadyH.nil)))
          · go_simp
            refine hK.out _ _ (KE.out _ (by (repeat' (first | assumption | exact Below.refl _ _ | refine below_drew' ?_ | refine Below.setCell ?_ (by first | omega | (simp <;> omega)) _ | refine Below.alloc ?_ (by first | omega | (simp <;> omega)) _)))) (fun hHeld => ?_)
            (try simp only [Act.put, List.getElem_toArray, List.getElem_cons_succ, List.getElem_cons_zero, List.setIfInBounds_toArray, List.set_cons_succ, List.set_cons_zero])
            clear hK hHeld
            obtain ⟨V2, e2⟩ : ∃ V : World, V = V1.alloc (.cells #[.int .i64 0] 3) := ⟨_, rfl⟩
            rw [← e2]
            have B2 : Below w6.heap.size w6 V2 := by rw [e2]; exact B1.alloc B1.size _
            have H2 : V2.heap[V1.heap.size]? = some (.cells #[.int .i64 0] 3 (0, 0)) := by rw [e2]; exact heap_alloc_new _ _
            replace H1 : V2.heap[w6.heap.size]? = some (.cells #[.int .i64 0] 3 (0, 0)) := by rw [e2]; exact (heap_alloc_old _ _ (lt_of_block H1)).trans H1
            have z2 : V1.heap.size < V2.heap.size := lt_of_block H2
            have hHeld := KE.out _ B2
            clear e2
            (refine wpAnyH_ready (rs := [11]) (by kernel_rfl) (by simp) (AllReadyH.cons rfl (fun K hK => ?_) AllReadyH.nil))
            · go_simp
              refine hK.out _ _ (KE.out _ (by (repeat' (first | assumption | exact Below.refl _ _ | refine below_drew' ?_ | refine Below.setCell ?_ (by first | omega | (simp <;> omega)) _ | refine Below.alloc ?_ (by first | omega | (simp <;> omega)) _)))) (fun hHeld => ?_)
              (try simp only [Act.put, List.getElem_toArray, List.getElem_cons_succ, List.getElem_cons_zero, List.setIfInBounds_toArray, List.set_cons_succ, List.set_cons_zero])
              clear hK hHeld
              obtain ⟨V3, e3⟩ : ∃ V : World, V = V2.alloc (.cells #[.int .i64 0] 3) := ⟨_, rfl⟩
              rw [← e3]
              have B3 : Below w6.heap.size w6 V3 := by rw [e3]; exact B2.alloc B2.size _
              have H3 : V3.heap[V2.heap.size]? = some (.cells #[.int .i64 0] 3 (0, 0)) := by rw [e3]; exact heap_alloc_new _ _
              replace H1 : V3.heap[w6.heap.size]? = some (.cells #[.int .i64 0] 3 (0, 0)) := by rw [e3]; exact (heap_alloc_old _ _ (lt_of_block H1)).trans H1
              replace H2 : V3.heap[V1.heap.size]? = some (.cells #[.int .i64 0] 3 (0, 0)) := by rw [e3]; exact (heap_alloc_old _ _ (lt_of_block H2)).trans H2
              have z3 : V2.heap.size < V3.heap.size := lt_of_block H3
              have hHeld := KE.out _ B3
              clear e3
              as_aux_lemma =>
                have hb1 := B1.size
                have hb2 := B2.size
                have c1 := blk_cell 0 H1 rfl
                have f1 := blk_free 0 H1
                have q1 := lt_of_block H1
                have c2 := blk_cell 0 H2 rfl
                have f2 := blk_free 0 H2
                have q2 := lt_of_block H2
                have c3 := blk_cell 0 H3 rfl
                have f3 := blk_free 0 H3
                have q3 := lt_of_block H3
                (refine wpAnyH_ready (rs := [13]) (by kernel_rfl) (by simp) (AllReadyH.cons rfl (fun K hK => ?_) AllReadyH.nil))
                go_simp
                refine hK.out _ _ (KE.out _ (by (repeat' (first | assumption | exact Below.refl _ _ | refine below_drew' ?_ | refine Below.setCell ?_ (by first | omega | (simp <;> omega)) _ | refine Below.alloc ?_ (by first | omega | (simp <;> omega)) _)))) (fun hHeld => ?_)
                (try simp only [Act.put, List.getElem_toArray, List.getElem_cons_succ, List.getElem_cons_zero, List.setIfInBounds_toArray, List.set_cons_succ, List.set_cons_zero])
                clear hK hHeld
                (refine wpAnyH_ready (rs := [14]) (by kernel_rfl) (by simp) (AllReadyH.cons rfl (fun K hK => ?_) AllReadyH.nil))
                go_simp
                refine hK.out _ _ (KE.out _ (by (repeat' (first | assumption | exact Below.refl _ _ | refine below_drew' ?_ | refine Below.setCell ?_ (by first | omega | (simp <;> omega)) _ | refine Below.alloc ?_ (by first | omega | (simp <;> omega)) _)))) (fun hHeld => ?_)
                (try simp only [Act.put, List.getElem_toArray, List.getElem_cons_succ, List.getElem_cons_zero, List.setIfInBounds_toArray, List.set_cons_succ, List.set_cons_zero])
                clear hK hHeld
                (refine wpAnyH_ready (rs := [15]) (by kernel_rfl) (by simp) (AllReadyH.cons rfl (fun K hK => ?_) AllReadyH.nil))
                go_simp
                refine hK.out _ _ (KE.out _ (by (repeat' (first | assumption | exact Below.refl _ _ | refine below_drew' ?_ | refine Below.setCell ?_ (by first | omega | (simp <;> omega)) _ | refine Below.alloc ?_ (by first | omega | (simp <;> omega)) _)))) (fun hHeld => ?_)
                (try simp only [Act.put, List.getElem_toArray, List.getElem_cons_succ, List.getElem_cons_zero, List.setIfInBounds_toArray, List.set_cons_succ, List.set_cons_zero])
                clear hK hHeld
                refine wpAnyH_done (by kernel_rfl) ?_ _
                have TS := fun A B C => three_sets H2 H3 H1 (by omega) (by omega) (by omega) A B C
                have HBZ := fun A B C => (((B3.setCell (p := ⟨V1.heap.size, 0, none⟩) (by simp only; omega) A).setCell (p := ⟨V2.heap.size, 0, none⟩) (by simp only; omega) B).setCell (p := ⟨w6.heap.size, 0, none⟩) (by simp only; omega) C)
                clear c1 c2 c3 f1 f2 f3 q1 q2 q3 H1 H2 H3
                go_wp2
                go_meet
                case rel => exact ⟨_, _, _, rfl, rfl, rfl, box_on hQ6 (HBZ _ _ _), by rw [HNW.out, Int.toNat_natCast, ← hQ1.out, ← hr1.out]; exact (TS _ _ _).1, by rw [HNF.out, Int.toNat_natCast, ← hQ2.out, ← hr2.out]; exact (TS _ _ _).2.1, by rw [← hQ3.out, ← hr3.out]; exact (TS _ _ _).2.2⟩
          · go_simp
            refine hK.out _ _ (KE.out _ (by (repeat' (first | assumption | exact Below.refl _ _ | refine below_drew' ?_ | refine Below.setCell ?_ (by first | omega | (simp <;> omega)) _ | refine Below.alloc ?_ (by first | omega | (simp <;> omega)) _)))) (fun hHeld => ?_)
            (try simp only [Act.put, List.getElem_toArray, List.getElem_cons_succ, List.getElem_cons_zero, List.setIfInBounds_toArray, List.set_cons_succ, List.set_cons_zero])
            clear hK hHeld
            obtain ⟨V2, e2⟩ : ∃ V : World, V = V1.alloc (.cells #[.int .i64 0] 3) := ⟨_, rfl⟩
            rw [← e2]
            have B2 : Below w6.heap.size w6 V2 := by rw [e2]; exact B1.alloc B1.size _
            have H2 : V2.heap[V1.heap.size]? = some (.cells #[.int .i64 0] 3 (0, 0)) := by rw [e2]; exact heap_alloc_new _ _
            replace H1 : V2.heap[w6.heap.size]? = some (.cells #[.int .i64 0] 3 (0, 0)) := by rw [e2]; exact (heap_alloc_old _ _ (lt_of_block H1)).trans H1
            have z2 : V1.heap.size < V2.heap.size := lt_of_block H2
            have hHeld := KE.out _ B2
            clear e2
            (refine wpAnyH_ready (rs := [10]) (by kernel_rfl) (by simp) (AllReadyH.cons rfl (fun K hK => ?_) AllReadyH.nil))
            · go_simp
              refine hK.out _ _ (KE.out _ (by (repeat' (first | assumption | exact Below.refl _ _ | refine below_drew' ?_ | refine Below.setCell ?_ (by first | omega | (simp <;> omega)) _ | refine Below.alloc ?_ (by first | omega | (simp <;> omega)) _)))) (fun hHeld => ?_)
              (try simp only [Act.put, List.getElem_toArray, List.getElem_cons_succ, List.getElem_cons_zero, List.setIfInBounds_toArray, List.set_cons_succ, List.set_cons_zero])
              clear hK hHeld
              obtain ⟨V3, e3⟩ : ∃ V : World, V = V2.alloc (.cells #[.int .i64 0] 3) := ⟨_, rfl⟩
              rw [← e3]
              have B3 : Below w6.heap.size w6 V3 := by rw [e3]; exact B2.alloc B2.size _
              have H3 : V3.heap[V2.heap.size]? = some (.cells #[.int .i64 0] 3 (0, 0)) := by rw [e3]; exact heap_alloc_new _ _
              replace H1 : V3.heap[w6.heap.size]? = some (.cells #[.int .i64 0] 3 (0, 0)) := by rw [e3]; exact (heap_alloc_old _ _ (lt_of_block H1)).trans H1
              replace H2 : V3.heap[V1.heap.size]? = some (.cells #[.int .i64 0] 3 (0, 0)) := by rw [e3]; exact (heap_alloc_old _ _ (lt_of_block H2)).trans H2
              have z3 : V2.heap.size < V3.heap.size := lt_of_block H3
              have hHeld := KE.out _ B3
              clear e3
              as_aux_lemma =>
                have hb1 := B1.size
                have hb2 := B2.size
                have c1 := blk_cell 0 H1 rfl
                have f1 := blk_free 0 H1
                have q1 := lt_of_block H1
                have c2 := blk_cell 0 H2 rfl
                have f2 := blk_free 0 H2
                have q2 := lt_of_block H2
                have c3 := blk_cell 0 H3 rfl
                have f3 := blk_free 0 H3
                have q3 := lt_of_block H3
                (refine wpAnyH_ready (rs := [13]) (by kernel_rfl) (by simp) (AllReadyH.cons rfl (fun K hK => ?_) AllReadyH.nil))
                go_simp
                refine hK.out _ _ (KE.out _ (by (repeat' (first | assumption | exact Below.refl _ _ | refine below_drew' ?_ | refine Below.setCell ?_ (by first | omega | (simp <;> omega)) _ | refine Below.alloc ?_ (by first | omega | (simp <;> omega)) _)))) (fun hHeld => ?_)
                (try simp only [Act.put, List.getElem_toArray, List.getElem_cons_succ, List.getElem_cons_zero, List.setIfInBounds_toArray, List.set_cons_succ, List.set_cons_zero])
                clear hK hHeld
                (refine wpAnyH_ready (rs := [14]) (by kernel_rfl) (by simp) (AllReadyH.cons rfl (fun K hK => ?_) AllReadyH.nil))
                go_simp
                refine hK.out _ _ (KE.out _ (by (repeat' (first | assumption | exact Below.refl _ _ | refine below_drew' ?_ | refine Below.setCell ?_ (by first | omega | (simp <;> omega)) _ | refine Below.alloc ?_ (by first | omega | (simp <;> omega)) _)))) (fun hHeld => ?_)
                (try simp only [Act.put, List.getElem_toArray, List.getElem_cons_succ, List.getElem_cons_zero, List.setIfInBounds_toArray, List.set_cons_succ, List.set_cons_zero])
                clear hK hHeld
                (refine wpAnyH_ready (rs := [15]) (by kernel_rfl) (by simp) (AllReadyH.cons rfl (fun K hK => ?_) AllReadyH.nil))
                go_simp
                refine hK.out _ _ (KE.out _ (by (repeat' (first | assumption | exact Below.refl _ _ | refine below_drew' ?_ | refine Below.setCell ?_ (by first | omega | (simp <;> omega)) _ | refine Below.alloc ?_ (by first | omega | (simp <;> omega)) _)))) (fun hHeld => ?_)
                (try simp only [Act.put, List.getElem_toArray, List.getElem_cons_succ, List.getElem_cons_zero, List.setIfInBounds_toArray, List.set_cons_succ, List.set_cons_zero])
                clear hK hHeld
                refine wpAnyH_done (by kernel_rfl) ?_ _
                have TS := fun A B C => three_sets H3 H2 H1 (by omega) (by omega) (by omega) A B C
                have HBZ := fun A B C => (((B3.setCell (p := ⟨V2.heap.size, 0, none⟩) (by simp only; omega) A).setCell (p := ⟨V1.heap.size, 0, none⟩) (by simp only; omega) B).setCell (p := ⟨w6.heap.size, 0, none⟩) (by simp only; omega) C)
                clear c1 c2 c3 f1 f2 f3 q1 q2 q3 H1 H2 H3
                go_wp2
                go_meet
                case rel => exact ⟨_, _, _, rfl, rfl, rfl, box_on hQ6 (HBZ _ _ _), by rw [HNW.out, Int.toNat_natCast, ← hQ1.out, ← hr1.out]; exact (TS _ _ _).1, by rw [HNF.out, Int.toNat_natCast, ← hQ2.out, ← hr2.out]; exact (TS _ _ _).2.1, by rw [← hQ3.out, ← hr3.out]; exact (TS _ _ _).2.2⟩
  case rest =>
    obtain ⟨p1, p2, p3, rfl, rfl, rfl, C0⟩ := hcut
    rename World => V
    clear x0 x1 x2 x3 x4 x5 xz hQ6
    obtain ⟨x0, x1, x2, x3, x4, x5, xz⟩ := box_chest C0.box
    have z1 := lt_of_cell C0.c1
    have z2 := lt_of_cell C0.c2
    have z3 := lt_of_cell C0.c3
    simp only at z1 z2 z3
    go_upto_region 14 with (go_at_call 101; go_must (refine (P2.out _ _ _ _ C0).mono ?_; rintro e w7 ⟨rfl, hb7⟩; have C7 := C0.on hb7; dsimp only))
    clear x0 x1 x2 x3 x4 x5 xz hb7 C0 z1 z2 z3
    obtain ⟨x0, x1, x2, x3, x4, x5, xz⟩ := box_chest C7.box
    have z1 := lt_of_cell C7.c1
    have z2 := lt_of_cell C7.c2
    have z3 := lt_of_cell C7.c3
    simp only at z1 z2 z3
    go_upto_region 17 with (go_at_call 103; go_must (refine (P3.out _ _ _ _ C7).mono ?_; rintro e w8 ⟨rfl, hb8⟩; have C8 := C7.on hb8; dsimp only))
    clear x0 x1 x2 x3 x4 x5 xz z1 z2 z3
    go_wp2
    go_ret3
    exact ⟨rfl, box_old C8.box⟩
end Go.Proofs.YtcgplocmncionaaGreat
