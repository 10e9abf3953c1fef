/- What is proved here: the contract of Check of the reference of layer 3: its error is 0 only at a valid town. Conditions: the town lies in memory; its letters are bytes. -/
import Derived.Test.YtklconegomgjaaaGreatErDG
set_option linter.unusedVariables false
set_option linter.unusedSimpArgs false
namespace Go.Proofs.YtklconegomgjaaaGreat
open Go Go.RowKit Go.Shelf

/-- A tie in which nothing is wrong. -/
def TieX (t : PeW) (x : PeT) : Prop := 0 ≤ x.a ∧ x.a < t.ments.length ∧ 0 ≤ x.b ∧ x.b < t.ments.length ∧ x.a ≠ x.b
set_option maxRecDepth 100000 in
set_option maxHeartbeats 4000000 in
theorem RCheck03_any (a1 a2 a3 a4 : Option Addr) (k1 k2 k3 k4 : Nat) (t : PeW) (w : World) (hm : TownC w a1 a2 a3 a4 k1 k2 k3 k4 t) (hlb : ∀ x ∈ t.ear.alphas, ∀ i (h : i < x.letters.length), 0 ≤ x.letters[i].letter ∧ x.letters[i].letter ≤ 255) :
    Calls Tryz.prog 5 #[(.agg #[.int .i64 t.ear.sounds, .slice a1 t.ear.alphas.length k1, .slice a2 t.ear.spells.length k2, .int .i64 t.vills, .slice a3 t.ments.length k3, .slice a4 t.ties.length k4])] w (ChkPost (PeValid t) w) := by
  have l1 := hm.book.oka.len
  have l2 := hm.book.oks.len
  have l3 := hm.okm.len
  have l4 := hm.okt.len
  have q3 := hm.okm.1
  have q4 := hm.okt.1
  have C0 := fun W => In_any t.vills 1 4 W
  have h0 := @inB_iff t.vills 1 4
  generalize inB t.vills 1 4 = c0 at C0 h0
  replace C0 := Lib.hid C0
  obtain ⟨Y, hY⟩ : ∃ Y : World, Y = (w.alloc (.cells #[.int .i64 t.ear.sounds, .slice a1 t.ear.alphas.length k1, .slice a2 t.ear.spells.length k2, .int .i64 t.vills, .slice a3 t.ments.length k3, .slice a4 t.ties.length k4] 29)) := ⟨_, rfl⟩
  have hbY : Below w.heap.size w Y := by rw [hY]; exact (Below.refl _ _).alloc (Nat.le_refl _) _
  have hB1 : Y.heap[w.heap.size]? = some (.cells #[.int .i64 t.ear.sounds, .slice a1 t.ear.alphas.length k1, .slice a2 t.ear.spells.length k2, .int .i64 t.vills, .slice a3 t.ments.length k3, .slice a4 t.ties.length k4] 29 (0, 0)) := by rw [hY]; exact alloc_atE _ _ rfl
  have HY := Lib.hid hY
  clear hY
  have hmY := hm.mono hbY
  have HM := Lib.hid hmY
  have HBY := Lib.hid hbY
  have CB := Lib.hid (RCheck01_any a1 a2 k1 k2 t.ear Y hmY.book hlb)
  clear hm hmY hbY hlb
  have KE : Hid (∀ V, Below Y.heap.size Y V → (V.cell? ⟨w.heap.size, 0, none⟩ = some (.int .i64 t.ear.sounds) ∧ V.cell? ⟨w.heap.size, 1, none⟩ = some (.slice a1 t.ear.alphas.length k1) ∧ V.cell? ⟨w.heap.size, 2, none⟩ = some (.slice a2 t.ear.spells.length k2) ∧ V.cell? ⟨w.heap.size, 3, none⟩ = some (.int .i64 t.vills) ∧ V.cell? ⟨w.heap.size, 4, none⟩ = some (.slice a3 t.ments.length k3) ∧ V.cell? ⟨w.heap.size, 5, none⟩ = some (.slice a4 t.ties.length k4) ∧ w.heap.size < V.heap.size)) := Lib.hid (fun V h => by
    have q1 := (h.block _ (lt_of_block hB1)).trans hB1
    exact ⟨blk_cell 0 q1 rfl, blk_cell 1 q1 rfl, blk_cell 2 q1 rfl, blk_cell 3 q1 rfl, blk_cell 4 q1 rfl, blk_cell 5 q1 rfl, lt_of_block q1⟩)
  clear hB1
  have hq := KE.out _ (Below.refl _ Y)
  go_enter Tryz.func5, Tryz.ntmps5
  go_upto_region 1 with (fail)
  rw [← HY.out]
  go_upto_region 2 with (go_at_call 18; go_must ((with_reducible refine CB.out.mono ?_); rintro e w1 ⟨cx, cy, cr, rfl, hcr, hb1⟩; dsimp only))
  clear hq
  have hq := KE.out _ hb1
  by_cases hc0 : ¬ cr = 0
  · have e1 := nei_t hc0
    have HR0 := Lib.hid hc0
    clear hc0 hcr
    go_wp2
    go_ret3
    exact ⟨1, 0, cr, rfl, Lib.hid (fun h => absurd h HR0.out), HBY.out.trans (hb1.mono HBY.out.size)⟩
  replace hc0 : cr = 0 := Classical.not_not.1 hc0
  have HEV := Lib.hid (hcr.out hc0)
  have e1 := nei_f hc0
  clear hc0 hcr
  cases c0
  · clear h0
    go_wp2_with (go_at_call 19; go_must ((with_reducible refine (C0.out _).mono ?_); rintro e w' ⟨rfl, hw9⟩; obtain rfl := hw9.symm; dsimp only))
    go_ret3
    exact ⟨2, 0, 7, rfl, Lib.hid (fun h => by cases h), HBY.out.trans (hb1.mono HBY.out.size)⟩
  have H0 := Lib.hid (h0.1 rfl)
  clear h0
  by_cases g2 : 5 < t.ments.length
  · have g3 : (5 : Int) < (t.ments.length : Int) := by omega
    go_wp2_with (go_at_call 19; go_must ((with_reducible refine (C0.out _).mono ?_); rintro e w' ⟨rfl, hw9⟩; obtain rfl := hw9.symm; dsimp only))
    go_ret3
    exact ⟨3, 0, 3, rfl, Lib.hid (fun h => by cases h), HBY.out.trans (hb1.mono HBY.out.size)⟩
  have g3 : ¬ (5 : Int) < (t.ments.length : Int) := by omega
  have hl5 : t.ments.length ≤ 5 := by omega
  clear g2
  go_upto_region 9 with (go_at_call 19; go_must ((with_reducible refine (C0.out _).mono ?_); rintro e w' ⟨rfl, hw9⟩; obtain rfl := hw9.symm; dsimp only))
  clear hq g3
  go_loopw [8] (fun i V => ∃ n : Nat, n ≤ t.ments.length ∧ i = .int .i64 n ∧ Hid (∀ i (h : i < t.ments.length), i < n → mentErr t i t.ments[i] = 0) ∧ Below Y.heap.size Y V) (fun i _ => t.ments.length - (intOf i).toNat)
  case atStart => exact ⟨0, Nat.zero_le _, rfl, Lib.hid (fun i h g => absurd g (Nat.not_lt_zero i)), hb1⟩
  case round =>
    rename World => V
    obtain ⟨n, hn, rfl, HN, hbV⟩ := hrel
    obtain ⟨x0, x1, x2, x3, x4, x5, xz⟩ := KE.out _ hbV
    by_cases hlt : n < t.ments.length
    · obtain ⟨b', off, hae, hb', d0, d1, d2, d3, d4⟩ := HM.out.ments n hlt
      have RM := fun (W : World) => RMention_any a1 a2 a3 a4 k1 k2 k3 k4 t t.ments[n] (n : Int) W H0.out.1 H0.out.2 l2 l3
      have HN2 := Lib.hid (fun (h : mentErr t n t.ments[n] = 0) => show ∀ i (h : i < t.ments.length), i < n + 1 → mentErr t i t.ments[i] = 0 from fun i hi hij => if hjk : i < n then HN.out i hi hjk else (by have e : i = n := (by omega); subst e; exact h))
      generalize mentErr t n t.ments[n] = r at RM HN2
      generalize t.ments[n] = x at RM d0 d1 d2 d3 d4
      obtain ⟨xs, xv, xl, xh, xp⟩ := x
      simp only at RM d0 d1 d2 d3 d4
      replace RM := Lib.hid RM
      subst hae
      have SR : Hid (∀ U, Below Y.heap.size Y U → (fun U => Below Y.heap.size Y U ∧ U.cell? ⟨w.heap.size, 0, none⟩ = some (.int .i64 t.ear.sounds) ∧ U.cell? ⟨w.heap.size, 1, none⟩ = some (.slice a1 t.ear.alphas.length k1) ∧ U.cell? ⟨w.heap.size, 2, none⟩ = some (.slice a2 t.ear.spells.length k2) ∧ U.cell? ⟨w.heap.size, 3, none⟩ = some (.int .i64 t.vills) ∧ U.cell? ⟨w.heap.size, 4, none⟩ = some (.slice (some ⟨b', off, none⟩) t.ments.length k3) ∧ U.cell? ⟨w.heap.size, 5, none⟩ = some (.slice a4 t.ties.length k4) ∧ U.cell? ⟨b', off + n * 5, none⟩ = some (.int .i64 xs) ∧ U.cell? ⟨b', off + n * 5 + 1, none⟩ = some (.int .i64 xv) ∧ U.cell? ⟨b', off + n * 5 + 2, none⟩ = some (.int .i64 xl) ∧ U.cell? ⟨b', off + n * 5 + 3, none⟩ = some (.int .i64 xh) ∧ U.cell? ⟨b', off + n * 5 + 4, none⟩ = some (.int .i64 xp) ∧ w.heap.size < U.heap.size ∧ b' < U.heap.size) U) := Lib.hid (fun U h => by
        obtain ⟨q0, q1, q2, q3, q4, q5, q6⟩ := KE.out _ h
        exact ⟨h, q0, q1, q2, q3, q4, q5, cell_below h d0, cell_below h d1, cell_below h d2, cell_below h d3, cell_below h d4, q6, Nat.lt_of_lt_of_le hb' h.size⟩)
      go_upto_region 11 with (fail)
      have hg0 : Below Y.heap.size Y V.drew := below_drew' hbV
      clear x0 x1 x2 x3 x4 x5 xz d0 d1 d2 d3 d4 hb'
      go_region_held3 (fun U => Below Y.heap.size Y U ∧ U.cell? ⟨w.heap.size, 0, none⟩ = some (.int .i64 t.ear.sounds) ∧ U.cell? ⟨w.heap.size, 1, none⟩ = some (.slice a1 t.ear.alphas.length k1) ∧ U.cell? ⟨w.heap.size, 2, none⟩ = some (.slice a2 t.ear.spells.length k2) ∧ U.cell? ⟨w.heap.size, 3, none⟩ = some (.int .i64 t.vills) ∧ U.cell? ⟨w.heap.size, 4, none⟩ = some (.slice (some ⟨b', off, none⟩) t.ments.length k3) ∧ U.cell? ⟨w.heap.size, 5, none⟩ = some (.slice a4 t.ties.length k4) ∧ U.cell? ⟨b', off + n * 5, none⟩ = some (.int .i64 xs) ∧ U.cell? ⟨b', off + n * 5 + 1, none⟩ = some (.int .i64 xv) ∧ U.cell? ⟨b', off + n * 5 + 2, none⟩ = some (.int .i64 xl) ∧ U.cell? ⟨b', off + n * 5 + 3, none⟩ = some (.int .i64 xh) ∧ U.cell? ⟨b', off + n * 5 + 4, none⟩ = some (.int .i64 xp) ∧ w.heap.size < U.heap.size ∧ b' < U.heap.size) (first | exact SR.out _ hg0 | exact SR.out _ hg1) (first
        | (go_at_call 20; (with_reducible refine (RM.out _).mono ?_); rintro e w5 ⟨rfl, hgs⟩; have hg1 := hg0.trans (hgs.mono hg0.size); dsimp only))
      clear hg0
      by_cases hr0 : r = 0
      · have e2 := nei_f hr0
        replace HN2 := Lib.hid (HN2.out hr0)
        clear hr0
        go_wp2
        go_roundw
        case rel => exact ⟨n + 1, by omega, by go_num, HN2, hg1⟩
        case measure => simp [intOf]; omega
      · have e2 := nei_t hr0
        have HR0 := Lib.hid hr0
        clear hr0
        go_wp2
        go_ret3
        exact ⟨3, (n : Int), r, rfl, Lib.hid (fun h => absurd h HR0.out), HBY.out.trans (hg1.mono HBY.out.size)⟩
    · have HNA : Hid (∀ i (h : i < t.ments.length), mentErr t i t.ments[i] = 0) := Lib.hid (fun i h => HN.out i h (by omega))
      clear HN
      by_cases g2 : 4 < t.ties.length
      · clear HNA
        have g3 : (4 : Int) < (t.ties.length : Int) := by omega
        go_wp2
        go_ret3
        exact ⟨4, 0, 3, rfl, Lib.hid (fun h => by cases h), HBY.out.trans (hbV.mono HBY.out.size)⟩
      have g3 : ¬ (4 : Int) < (t.ties.length : Int) := by omega
      have hl4 : t.ties.length ≤ 4 := by omega
      clear g2
      go_upto_region 17 with (fail)
      clear x0 x1 x2 x3 x4 x5 xz g3
      go_loopw [9] (fun i U => ∃ m : Nat, m ≤ t.ties.length ∧ i = .int .i64 m ∧ Hid (∀ i (h : i < t.ties.length), i < m → TieX t t.ties[i]) ∧ Below Y.heap.size Y U) (fun i _ => t.ties.length - (intOf i).toNat)
      case atStart => exact ⟨0, Nat.zero_le _, rfl, Lib.hid (fun i h g => absurd g (Nat.not_lt_zero i)), hbV⟩
      case round =>
        rename World => U
        obtain ⟨m, hm, rfl, HP, hbU⟩ := hrel
        obtain ⟨x0, x1, x2, x3, x4, x5, xz⟩ := KE.out _ hbU
        by_cases hlm : m < t.ties.length
        · obtain ⟨b', off, hae, hb', d0, d1, d2⟩ := (HM.out.mono hbU).ties m hlm
          have HP2 := Lib.hid (fun (h : TieX t t.ties[m]) => show ∀ i (h : i < t.ties.length), i < m + 1 → TieX t t.ties[i] from fun i hi hij => if hjk : i < m then HP.out i hi hjk else (by have e : i = m := (by omega); subst e; exact h))
          generalize t.ties[m] = x at HP2 d0 d1 d2
          obtain ⟨xa, xb, xs⟩ := x
          simp only at HP2 d0 d1 d2
          have C1 := fun W => In_any xa 0 ((t.ments.length : Int) - 1) W
          have h1 := @inB_iff xa 0 ((t.ments.length : Int) - 1)
          generalize inB xa 0 ((t.ments.length : Int) - 1) = c1 at C1 h1
          have C2 := fun W => In_any xb 0 ((t.ments.length : Int) - 1) W
          have h2 := @inB_iff xb 0 ((t.ments.length : Int) - 1)
          generalize inB xb 0 ((t.ments.length : Int) - 1) = c2 at C2 h2
          replace C1 := Lib.hid C1
          replace C2 := Lib.hid C2
          subst hae
          go_upto_region 20 with (fail)
          obtain ⟨Z, hZ⟩ : ∃ Z : World, Z = U.alloc (.cells #[.int .i64 xa, .int .i64 xb, .bool xs] 44) := ⟨_, rfl⟩
          rw [← hZ]
          have hbZ : Below Y.heap.size Y Z := by rw [hZ]; exact hbU.alloc hbU.size _
          have hT : Z.heap[U.heap.size]? = some (.cells #[.int .i64 xa, .int .i64 xb, .bool xs] 44 (0, 0)) := by rw [hZ]; exact alloc_atE _ _ rfl
          clear hZ x0 x1 x2 x3 x4 x5 xz d0 d1 d2 hb'
          obtain ⟨x0, x1, x2, x3, x4, x5, xz⟩ := KE.out _ hbZ
          have y0 := blk_cell 0 hT rfl
          have y1 := blk_cell 1 hT rfl
          have yz := lt_of_block hT
          simp only [List.getElem_toArray, List.getElem_cons_zero, List.getElem_cons_succ] at y0 y1
          clear hT
          cases c1
          · clear h1 h2 HP2
            go_wp2_with (go_at_call 19; (with_reducible refine (C1.out _).mono ?_); rintro e w' ⟨rfl, hw9⟩; obtain rfl := hw9.symm; dsimp only)
            go_ret3
            exact ⟨4, (m : Int), 4, rfl, Lib.hid (fun h => by cases h), HBY.out.trans (hbZ.mono HBY.out.size)⟩
          cases c2
          · clear h1 h2 HP2
            go_wp2_with (first
              | (go_at_call 19; (with_reducible refine (C1.out _).mono ?_); rintro e w' ⟨rfl, hw9⟩; obtain rfl := hw9.symm; dsimp only)
              | (go_at_call 19; (with_reducible refine (C2.out _).mono ?_); rintro e w' ⟨rfl, hw9⟩; obtain rfl := hw9.symm; dsimp only))
            go_ret3
            exact ⟨4, (m : Int), 4, rfl, Lib.hid (fun h => by cases h), HBY.out.trans (hbZ.mono HBY.out.size)⟩
          have H1 := Lib.hid (h1.1 rfl)
          have H2 := Lib.hid (h2.1 rfl)
          clear h1 h2
          by_cases hab : xa = xb
          · clear HP2
            have e2 := eqi_t hab
            clear hab
            go_wp2_with (first
              | (go_at_call 19; (with_reducible refine (C1.out _).mono ?_); rintro e w' ⟨rfl, hw9⟩; obtain rfl := hw9.symm; dsimp only)
              | (go_at_call 19; (with_reducible refine (C2.out _).mono ?_); rintro e w' ⟨rfl, hw9⟩; obtain rfl := hw9.symm; dsimp only))
            go_ret3
            exact ⟨4, (m : Int), 2, rfl, Lib.hid (fun h => by cases h), HBY.out.trans (hbZ.mono HBY.out.size)⟩
          · replace HP2 := Lib.hid (HP2.out ⟨H1.out.1, by have := H1.out; simp; omega, H2.out.1, by have := H2.out; simp; omega, hab⟩)
            have e2 := eqi_f hab
            clear hab
            go_wp2_with (first
              | (go_at_call 19; (with_reducible refine (C1.out _).mono ?_); rintro e w' ⟨rfl, hw9⟩; obtain rfl := hw9.symm; dsimp only)
              | (go_at_call 19; (with_reducible refine (C2.out _).mono ?_); rintro e w' ⟨rfl, hw9⟩; obtain rfl := hw9.symm; dsimp only))
            go_roundw
            case rel => exact ⟨m + 1, by omega, by go_num, HP2, hbZ⟩
            case measure => simp [intOf]; omega
        · obtain rfl : m = t.ties.length := by omega
          have HV : Hid (PeValid t) := Lib.hid ⟨HEV.out, H0.out, hl5, HNA.out, hl4, fun i h => HP.out i h h⟩
          clear HNA HP
          go_wp2
          go_ret3
          exact ⟨0, 0, 0, rfl, Lib.hid (fun _ => HV.out), HBY.out.trans (hbU.mono HBY.out.size)⟩
end Go.Proofs.YtklconegomgjaaaGreat
