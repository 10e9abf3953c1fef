/- What is proved here: contracts of all, letter, letters, spelling of the reference of layer 1: their error is 0 only where nothing is wrong. Conditions: the letters lie in memory and are bytes. -/
/- What is proved here: the contract of spelling of the reference of layer 1: its error is 0 only where nothing is wrong. Condition: the alphabets lie in memory. -/
import Derived.Test.YtklconegomgjaaaGreatEaFlawG
set_option linter.unusedVariables false
set_option linter.unusedSimpArgs false
namespace Go.Proofs.YtklconegomgjaaaGreat
open Go Go.RowKit Go.Shelf

set_option maxHeartbeats 1000000 in
theorem RAll_any (S : Nat) (hS : S ≤ 4) (w : World) : Calls Tryz.prog 116 #[.int .i64 (S : Int)] w fun e w' => e = .returned (.int .i64 ((2 ^ S - 1 : Nat) : Int)) ∧ w' = w := by
  go_enter Tryz.func116, Tryz.ntmps116
  go_wp2
  go_loop [3, 4] (fun m i => ∃ k : Nat, k ≤ S ∧ i = .int .i64 k ∧ m = .int .i64 ((2 ^ k - 1 : Nat) : Int)) (fun _ i => S - (intOf i).toNat)
  case atStart => exact ⟨0, Nat.zero_le _, rfl, rfl⟩
  case round =>
    obtain ⟨k, hk, rfl, rfl⟩ := hrel
    by_cases hlt : k < S
    · have h4 : k = 0 ∨ k = 1 ∨ k = 2 ∨ k = 3 := by omega
      rcases h4 with rfl | rfl | rfl | rfl
      all_goals
        go_wp2
        go_round
        case measure => simp [intOf]; omega
        case rel => first | exact ⟨1, by omega, by go_num, by go_num⟩ | exact ⟨2, by omega, by go_num, by go_num⟩ | exact ⟨3, by omega, by go_num, by go_num⟩ | exact ⟨4, by omega, by go_num, by go_num⟩
    · obtain rfl : k = S := by omega
      go_wp2
      go_ret
      exact ⟨rfl, rfl⟩
set_option maxHeartbeats 1000000 in
theorem RLetter_any (s : ByteArray) (a : Option Addr) (l : List EaL) (k : Nat) (c : Int) (w : World) (hl : l.length ≤ 9223372036854775807) (hi : EaLettersC w a l) :
    Calls Tryz.prog 117 #[.agg #[.string s, .slice a l.length k], .int .u8 c] w fun e w' => e = .returned (.int .i64 (idxL l c)) ∧ Below w.heap.size w w' := by
  obtain ⟨r, hr⟩ : ∃ r, r = idxL l c := ⟨_, rfl⟩
  rw [← hr]
  have HR := Lib.hid hr
  clear hr
  go_enter Tryz.func117, Tryz.ntmps117
  go_upto_region 1 with (fail)
  obtain ⟨Y, hY⟩ : ∃ Y : World, Y = w.alloc (.cells #[.string s, .slice a l.length k] 130) := ⟨_, rfl⟩
  rw [← hY]
  have hbY : Below w.heap.size w Y := by rw [hY]; exact (Below.refl _ _).alloc (Nat.le_refl _) _
  have hB : Y.heap[w.heap.size]? = some (.cells #[.string s, .slice a l.length k] 130 (0, 0)) := by rw [hY]; exact alloc_atE _ _ rfl
  have hiY := hi.mono hbY
  clear hY hi
  have c1 := blk_cell 1 hB rfl
  have cz := lt_of_block hB
  simp only [List.getElem_toArray, List.getElem_cons_zero, List.getElem_cons_succ] at c1
  go_upto_region 2 with (fail)
  go_loop [5] (fun i => ∃ k : Nat, k ≤ l.length ∧ i = .int .i64 k ∧ Hid (∀ j (_ : j < k) (h : j < l.length), l[j].letter ≠ c)) (fun i => l.length - (intOf i).toNat)
  case atStart => exact ⟨0, Nat.zero_le _, rfl, Lib.hid (fun j h => absurd h (Nat.not_lt_zero j))⟩
  case round =>
    obtain ⟨n, hn, rfl, HN⟩ := hrel
    by_cases hlt : n < l.length
    · obtain ⟨b, off, rfl, hb, hx1, hx2, hx3⟩ := hiY n hlt
      have HT := Lib.hid (fun (h : l[n].letter = c) => HR.out.trans (idxL_at hlt h (fun i hi => HN.out i hi (by omega))))
      have HN2 := Lib.hid (fun (h : l[n].letter ≠ c) => show ∀ j (_ : j < n + 1) (h : j < l.length), l[j].letter ≠ c from fun j hj hjl => if hjk : j < n then HN.out j hjk hjl else (by have e : j = n := (by omega); subst e; exact h))
      generalize l[n] = x at HT HN2 hx1
      by_cases he : x.letter = c
      · have e2 := eqi_t he
        replace HT := Lib.hid (HT.out he)
        clear HN2 he
        go_wp2
        go_ret
        exact ⟨ret_int HT.out.symm, hbY⟩
      · have e2 := eqi_f he
        replace HN2 := Lib.hid (HN2.out he)
        clear HT he
        go_wp2
        go_round
        case rel => exact ⟨n + 1, by omega, by go_num, HN2⟩
        case measure => simp [intOf]; omega
    · obtain rfl : n = l.length := by omega
      go_wp2
      go_ret
      exact ⟨ret_int (HR.out.trans (idxL_no (fun i hi => HN.out i hi hi))).symm, hbY⟩
/-- A letter in which nothing is wrong. -/
def LetX (S : Nat) (l : List EaL) (k : Nat) (hk : k < l.length) : Prop := 97 ≤ l[k].letter ∧ l[k].letter ≤ 122 ∧ (∀ j (hj : j < k), l[j].letter ≠ l[k].letter) ∧ 0 ≤ l[k].sounds ∧ l[k].sounds < 2 ^ S ∧ (l[k].sounds = 0 → l[k].silent = true)
def LetsX (S : Nat) (l : List EaL) : Prop := (1 ≤ l.length ∧ l.length ≤ 6) ∧ ∀ k (hk : k < l.length), LetX S l k hk
theorem byte_wrap {x : Int} (h0 : 0 ≤ x) (h1 : x ≤ 255) : IntKind.i64.wrap x = x := IntWalk.i64_in _ (by omega)
set_option maxRecDepth 100000 in
set_option maxHeartbeats 4000000 in
theorem RLetters_any (S : Nat) (hS : S ≤ 4) (b1 b2 : Option Addr) (n1 n2 d1 d2 : Nat) (a : Option Addr) (l : List EaL) (k : Nat) (w : World) (ho : SlOk a l.length k) (hi : EaLettersC w a l) (hlb : ∀ i (h : i < l.length), 0 ≤ l[i].letter ∧ l[i].letter ≤ 255) :
    Calls Tryz.prog 64 #[.agg #[.int .i64 (S : Int), .slice b1 n1 d1, .slice b2 n2 d2], .slice a l.length k] w fun e w' => ∃ r : Int, e = .returned (.int .i64 r) ∧ Hid (r = 0 → LetsX S l) ∧ Below w.heap.size w w' := by
  have hl := ho.len
  have C0 := fun W => In_any (l.length : Int) 1 6 W
  have h0 := @inB_iff (l.length : Int) 1 6
  generalize inB (l.length : Int) 1 6 = c0 at C0 h0
  replace C0 := Lib.hid C0
  go_enter Tryz.func64, Tryz.ntmps64
  go_upto_region 1 with (fail)
  obtain ⟨Y, hY⟩ : ∃ Y : World, Y = w.alloc (.cells #[.int .i64 (S : Int), .slice b1 n1 d1, .slice b2 n2 d2] 25) := ⟨_, rfl⟩
  rw [← hY]
  have hbY : Below w.heap.size w Y := by rw [hY]; exact (Below.refl _ _).alloc (Nat.le_refl _) _
  have hB : Y.heap[w.heap.size]? = some (.cells #[.int .i64 (S : Int), .slice b1 n1 d1, .slice b2 n2 d2] 25 (0, 0)) := by rw [hY]; exact alloc_atE _ _ rfl
  have hiY := hi.mono hbY
  clear hY hi
  have HB := Lib.hid hB
  have HBY := Lib.hid hbY
  clear hB hbY
  cases c0
  · go_wp2_with (go_at_call 19; go_must ((with_reducible refine (C0.out _).mono ?_); rintro e w' ⟨rfl, hw9⟩; obtain rfl := hw9.symm; dsimp only))
    go_ret
    exact ⟨3, rfl, Lib.hid (fun h => by cases h), HBY.out⟩
  have HL := Lib.hid (h0.1 rfl)
  clear h0
  go_upto_region 4 with (go_at_call 19; go_must ((with_reducible refine (C0.out _).mono ?_); rintro e w' ⟨rfl, hw9⟩; obtain rfl := hw9.symm; dsimp only))
  go_loopw [5] (fun i V => ∃ n : Nat, n ≤ l.length ∧ i = .int .i64 n ∧ Hid (∀ i (h : i < l.length), i < n → LetX S l i h) ∧ Below Y.heap.size Y V) (fun i _ => l.length - (intOf i).toNat)
  case atStart => exact ⟨0, Nat.zero_le _, rfl, Lib.hid (fun i h g => absurd g (Nat.not_lt_zero i)), Below.refl _ _⟩
  case round =>
    rename World => V
    obtain ⟨n, hn, rfl, HN, hbV⟩ := hrel
    by_cases hlt : n < l.length
    · have hiV := hiY.mono hbV
      obtain ⟨b, off, hae, hb, hx0, hx1, hx2⟩ := hiV n hlt
      have hxb := hlb n hlt
      have hcap := ho.1
      obtain ⟨x, hx⟩ : ∃ x, x = l[n] := ⟨_, rfl⟩
      rw [← hx] at hx0 hx1 hx2 hxb
      have HX := Lib.hid hx
      clear hx
      obtain ⟨xl, xs, xi⟩ := x
      simp only at hx0 hx1 hx2 hxb
      have hw := byte_wrap hxb.1 hxb.2
      have C1 := fun W => In_any xl 97 122 W
      have h1 := @inB_iff xl 97 122
      generalize inB xl 97 122 = c1 at C1 h1
      replace C1 := Lib.hid C1
      subst hae
      cases c1
      · clear h1
        go_wp2_with (go_at_call 19; go_must ((with_reducible refine (C1.out _).mono ?_); rintro e w' ⟨rfl, hw9⟩; obtain rfl := hw9.symm; dsimp only))
        go_ret
        exact ⟨6, rfl, Lib.hid (fun h => by cases h), HBY.out.trans (hbV.mono HBY.out.size)⟩
      · have H1 := Lib.hid (h1.1 rfl)
        clear h1
        go_upto_region 9 with (go_at_call 19; go_must ((with_reducible refine (C1.out _).mono ?_); rintro e w' ⟨rfl, hw9⟩; obtain rfl := hw9.symm; dsimp only))
        have HIV := Lib.hid hiV
        have HXC := Lib.hid (⟨hx0, hx1, hx2, hb⟩ : V.cell? ⟨b, off + n * 3, none⟩ = some (.int .u8 xl) ∧ V.cell? ⟨b, off + n * 3 + 1, none⟩ = some (.int .i64 xs) ∧ V.cell? ⟨b, off + n * 3 + 2, none⟩ = some (.bool xi) ∧ b < V.heap.size)
        clear hiV hx0 hx1 hx2 hb
        go_loopw [6] (fun i U => ∃ j : Nat, j ≤ n ∧ i = .int .i64 j ∧ Hid (∀ i (h : i < l.length), i < j → l[i].letter ≠ xl) ∧ Below V.heap.size V U) (fun i _ => n - (intOf i).toNat)
        case atStart => exact ⟨0, Nat.zero_le _, rfl, Lib.hid (fun i h g => absurd g (Nat.not_lt_zero i)), Below.refl _ _⟩
        case round =>
          rename World => U
          obtain ⟨j, hj, rfl, HJ, hbU⟩ := hrel
          obtain ⟨g0, g1, g2, gz⟩ := HXC.out
          have hx0 := (World.cell?_of_block (a := ⟨b, off + n * 3, none⟩) (hbU.block b gz)).trans g0
          have hx1 := (World.cell?_of_block (a := ⟨b, off + n * 3 + 1, none⟩) (hbU.block b gz)).trans g1
          have hx2 := (World.cell?_of_block (a := ⟨b, off + n * 3 + 2, none⟩) (hbU.block b gz)).trans g2
          have hb := Nat.lt_of_lt_of_le gz hbU.size
          clear g0 g1 g2 gz
          by_cases hjn : j < n
          · obtain ⟨b', off', hae', hb', gx0, -, -⟩ := (HIV.out.mono hbU) j (by omega)
            cases hae'
            have HJ2 := Lib.hid (fun (h : l[j].letter ≠ xl) => show ∀ i (h : i < l.length), i < j + 1 → l[i].letter ≠ xl from fun i hi hij => if hjk : i < j then HJ.out i hi hjk else (by have e : i = j := (by omega); subst e; exact h))
            generalize l[j].letter = y at HJ2 gx0
            have hU := below_drewN' hbU
            clear hx1 hx2
            by_cases he : y = xl
            · have e2 := eqi_t he
              clear HJ2 HJ
              subst he
              go_upto_region 11 with (fail)
              go_quiet (fail)
              go_wp2
              go_ret
              exact ⟨5, rfl, Lib.hid (fun h => by cases h), HBY.out.trans ((hbV.trans ((hU _).mono hbV.size)).mono HBY.out.size)⟩
            · have e2 := eqi_f he
              replace HJ2 := Lib.hid (HJ2.out he)
              clear he
              go_upto_region 11 with (fail)
              go_quiet (fail)
              go_wp2
              go_roundw
              case rel => exact ⟨j + 1, by omega, by go_num, HJ2, hU _⟩
              case measure => simp [intOf]; omega
          · obtain rfl : j = n := by omega
            have hB := (hbV.trans (hbU.mono hbV.size)).block _ (lt_of_block HB.out) |>.trans HB.out
            have y0 := blk_cell 0 hB rfl
            have yz := lt_of_block hB
            simp only [List.getElem_toArray, List.getElem_cons_zero, List.getElem_cons_succ] at y0
            have C2 := fun W => In_any xs 0 ((2 ^ S - 1 : Nat) : Int) W
            have h2 := @inB_iff xs 0 ((2 ^ S - 1 : Nat) : Int)
            generalize inB xs 0 ((2 ^ S - 1 : Nat) : Int) = c2 at C2 h2
            replace C2 := Lib.hid C2
            have AL := Lib.hid (fun W => RAll_any S hS W)
            have hU := below_drewN' hbU
            clear hB
            go_upto_region 13 with (fail)
            go_quiet (first
              | (go_at_call 116; exact Calls.quiet_of_same (AL.out _))
              | (go_at_call 19; exact Calls.quiet_of_same (C2.out _)))
            have hU2 := hU nq
            clear hU hx0 hx1 hx2 hb hbU y0 yz
            generalize U.drewN nq = U2 at hU2 ⊢
            have hN2 : Hid (0 ≤ xs ∧ xs < 2 ^ S → (xs = 0 → xi = true) → ∀ i (h : i < l.length), i < j + 1 → LetX S l i h) := Lib.hid (fun q1 q2 i h hij => if g : i < j then HN.out i h g else (by
              have e : i = j := (by omega)
              subst e
              unfold LetX
              rw [← HX.out]
              exact ⟨H1.out.1, H1.out.2, fun i2 hi2 => HJ.out i2 (by omega) hi2, q1.1, q1.2, q2⟩))
            have HR := Lib.hid (HBY.out.trans ((hbV.trans (hU2.mono hbV.size)).mono HBY.out.size))
            have HR2 := Lib.hid (hbV.trans (hU2.mono hbV.size))
            obtain ⟨g0, g1, g2, gz⟩ := HXC.out
            have hx1 := (World.cell?_of_block (a := ⟨b, off + j * 3 + 1, none⟩) (hU2.block b gz)).trans g1
            have hx2 := (World.cell?_of_block (a := ⟨b, off + j * 3 + 2, none⟩) (hU2.block b gz)).trans g2
            have hb := Nat.lt_of_lt_of_le gz hU2.size
            clear g0 g1 g2 gz hU2 hbV C2 C1
            cases c2
            · clear h2
              go_wp2
              go_ret
              exact ⟨7, rfl, Lib.hid (fun h => by cases h), HR.out⟩
            · have H2 := Lib.hid (h2.1 rfl)
              clear h2
              have HS2 : Hid (0 ≤ xs ∧ xs < 2 ^ S) := Lib.hid (by
                have := H2.out
                have hp : 1 ≤ 2 ^ S := Nat.one_le_two_pow
                have hq : ((2 ^ S - 1 : Nat) : Int) = (2 : Int) ^ S - 1 := by rw [Int.natCast_sub hp]; simp
                rw [hq] at this
                omega)
              clear H2
              by_cases hz : xs = 0
              · have e2 := eqi_t hz
                cases xi
                · clear hz
                  go_wp2
                  go_ret
                  exact ⟨2, rfl, Lib.hid (fun h => by cases h), HR.out⟩
                · clear hz
                  go_wp2
                  go_roundw
                  case rel => exact ⟨j + 1, by omega, by go_num, Lib.hid (hN2.out HS2.out (fun _ => rfl)), HR2.out⟩
                  case measure => simp [intOf]; omega
              · have e2 := eqi_f hz
                have HZ := Lib.hid hz
                clear hz
                go_wp2
                go_roundw
                case rel => exact ⟨j + 1, by omega, by go_num, Lib.hid (hN2.out HS2.out (fun h => absurd h HZ.out)), HR2.out⟩
                case measure => simp [intOf]; omega
    · obtain rfl : n = l.length := by omega
      go_wp2
      go_ret
      exact ⟨0, rfl, Lib.hid (fun _ => ⟨by have := HL.out; omega, fun k hk => HN.out k hk hk⟩), HBY.out.trans (hbV.mono HBY.out.size)⟩
end Go.Proofs.YtklconegomgjaaaGreat
namespace Go.Proofs.YtklconegomgjaaaGreat
open Go Go.RowKit Go.Shelf

/-- A spelling in which nothing is wrong. -/
def SpellX (b : EaB) (s : EaS) : Prop := 0 ≤ s.alpha ∧ s.alpha < b.alphas.length ∧ 1 ≤ s.text.size ∧ s.text.size ≤ 5 ∧ ∀ j (hj : j < s.text.size), 0 ≤ idxL (alphaOf b s) (byteI s.text[j])
set_option maxRecDepth 100000 in
set_option maxHeartbeats 4000000 in
theorem RSpelling_any (a1 a2 : Option Addr) (k1 k2 : Nat) (b : EaB) (s : EaS) (w : World) (hm : BookC w a1 a2 k1 k2 b) (hs : s.text.size ≤ 9223372036854775807) :
    Calls Tryz.prog 65 #[(.agg #[.int .i64 b.sounds, .slice a1 b.alphas.length k1, .slice a2 b.spells.length k2]), .agg #[.int .i64 s.alpha, .string s.text]] w fun e w' => ∃ r : Int, e = .returned (.int .i64 r) ∧ Hid (r = 0 → SpellX b s) ∧ Below w.heap.size w w' := by
  have l1 := hm.oka.len
  have la := hm.oka.1
  have hal : ∀ A : Nat, s.alpha = (A : Int) → ∀ hA : A < b.alphas.length, alphaOf b s = (b.alphas[A]'hA).letters := fun A hAe hA => by unfold alphaOf; rw [hAe, Int.toNat_natCast, List.getElem?_eq_getElem hA]; rfl
  have C0 := fun W => In_any s.alpha 0 ((b.alphas.length : Int) - 1) W
  have h0 := @inB_iff s.alpha 0 ((b.alphas.length : Int) - 1)
  generalize inB s.alpha 0 ((b.alphas.length : Int) - 1) = c0 at C0 h0
  have C1 := fun W => In_any (s.text.size : Int) 1 5 W
  have h1 := @inB_iff (s.text.size : Int) 1 5
  generalize inB (s.text.size : Int) 1 5 = c1 at C1 h1
  replace C0 := Lib.hid C0
  replace C1 := Lib.hid C1
  have HAL := Lib.hid hal
  clear hal
  obtain ⟨Y, hY⟩ : ∃ Y : World, Y = (w.alloc (.cells #[.int .i64 b.sounds, .slice a1 b.alphas.length k1, .slice a2 b.spells.length k2] 25)).alloc (.cells #[.int .i64 s.alpha, .string s.text] 134) := ⟨_, rfl⟩
  have hbY : Below w.heap.size w Y := by rw [hY]; exact ((Below.refl _ _).alloc (Nat.le_refl _) _).alloc (by simp) _
  have hB1 : Y.heap[w.heap.size]? = some (.cells #[.int .i64 b.sounds, .slice a1 b.alphas.length k1, .slice a2 b.spells.length k2] 25 (0, 0)) := by rw [hY]; exact (heap_alloc_old _ _ (by simp)).trans (alloc_atE _ _ rfl)
  have hB2 : Y.heap[w.heap.size + 1]? = some (.cells #[.int .i64 s.alpha, .string s.text] 134 (0, 0)) := by rw [hY]; exact alloc_atE _ _ (by simp)
  have HY := Lib.hid hY
  clear hY
  have HA := Lib.hid (hm.mono hbY).alphas
  have HBY := Lib.hid hbY
  clear hm hbY
  obtain ⟨alpha, text⟩ := s
  simp only at *
  have KE : Hid (∀ V, Below Y.heap.size Y V → (V.cell? ⟨w.heap.size, 1, none⟩ = some (.slice a1 b.alphas.length k1) ∧ V.cell? ⟨w.heap.size + 1, 0, none⟩ = some (.int .i64 alpha) ∧ V.cell? ⟨w.heap.size + 1, 1, none⟩ = some (.string text) ∧ w.heap.size < V.heap.size ∧ w.heap.size + 1 < V.heap.size)) := Lib.hid (fun V h => by
    have q1 := (h.block _ (lt_of_block hB1)).trans hB1
    have q2 := (h.block _ (lt_of_block hB2)).trans hB2
    exact ⟨blk_cell 1 q1 rfl, blk_cell 0 q2 rfl, blk_cell 1 q2 rfl, lt_of_block q1, lt_of_block q2⟩)
  clear hB1 hB2
  have hq := KE.out _ (Below.refl _ Y)
  go_enter Tryz.func65, Tryz.ntmps65
  go_upto_region 1 with (fail)
  rw [← HY.out]
  have INA := In_any
  clear INA
  cases c0
  · clear h0 h1
    go_wp2_with (go_at_call 19; go_must ((with_reducible refine (C0.out _).mono ?_); rintro e w' ⟨rfl, hw9⟩; obtain rfl := hw9.symm; dsimp only))
    go_ret
    exact ⟨4, rfl, Lib.hid (fun h => by cases h), HBY.out⟩
  have H0 := Lib.hid (h0.1 rfl)
  clear h0
  cases c1
  · clear h1
    go_wp2_with (first
      | (go_at_call 19; (with_reducible refine (C1.out _).mono ?_); rintro e w' ⟨rfl, hw9⟩; obtain rfl := hw9.symm; dsimp only)
      | (go_at_call 19; (with_reducible refine (C0.out _).mono ?_); rintro e w' ⟨rfl, hw9⟩; obtain rfl := hw9.symm; dsimp only))
    go_ret
    exact ⟨3, rfl, Lib.hid (fun h => by cases h), HBY.out⟩
  have H1 := Lib.hid (h1.1 rfl)
  clear h1
  go_upto_region 6 with (first
      | (go_at_call 19; (with_reducible refine (C1.out _).mono ?_); rintro e w' ⟨rfl, hw9⟩; obtain rfl := hw9.symm; dsimp only)
      | (go_at_call 19; (with_reducible refine (C0.out _).mono ?_); rintro e w' ⟨rfl, hw9⟩; obtain rfl := hw9.symm; dsimp only))
  obtain ⟨A, rfl⟩ : ∃ A : Nat, alpha = (A : Int) := ⟨alpha.toNat, by have := H0.out; omega⟩
  have hA : A < b.alphas.length := by have := H0.out; omega
  have HL := Lib.hid (HAL.out A rfl hA)
  clear HAL hq
  have hA1 : (A : Int) < (b.alphas.length : Int) := by omega
  go_loopw [5] (fun i V => ∃ n : Nat, n ≤ text.size ∧ i = .int .i64 n ∧ Hid (∀ j (h : j < text.size), j < n → 0 ≤ idxL (alphaOf b ⟨(A : Int), text⟩) (byteI text[j])) ∧ Below Y.heap.size Y V) (fun i _ => text.size - (intOf i).toNat)
  case atStart => exact ⟨0, Nat.zero_le _, rfl, Lib.hid (fun i h g => absurd g (Nat.not_lt_zero i)), Below.refl _ _⟩
  case round =>
    rename World => V
    obtain ⟨n, hn, rfl, HN, hbV⟩ := hrel
    obtain ⟨xb, x0, x1, xbz, xz⟩ := KE.out _ hbV
    by_cases hlt : n < text.size
    · obtain ⟨b', off, rfl, hb', d0, al, cl, d1, d2, d3⟩ := (HA.out.mono hbV) A hA
      have hll := d2.len
      have IX := (fun (W : World) (h : Below V.heap.size V W) => RLetter_any (b.alphas[A]).name al (b.alphas[A]).letters cl (byteI text[n]) W hll (d3.mono h))
      have HN2 := Lib.hid (fun (h : 0 ≤ idxL (b.alphas[A]).letters (byteI text[n])) => show ∀ j (h : j < text.size), j < n + 1 → 0 ≤ idxL (alphaOf b ⟨(A : Int), text⟩) (byteI text[j]) from fun i hi hij => if hjk : i < n then HN.out i hi hjk else (by have e : i = n := (by omega); subst e; rw [HL.out]; exact h))
      generalize (b.alphas[A]).letters = ls at HN2 IX d1 hll
      generalize (b.alphas[A]).name = nm at IX d0
      generalize idxL ls (byteI text[n]) = ix at HN2 IX
      unfold byteI at IX
      have IX := Lib.hid IX
      clear d2 d3
      have SR : Hid (∀ U, Below V.heap.size V U → (fun U => Below V.heap.size V U ∧ U.cell? ⟨w.heap.size, 1, none⟩ = some (.slice (some ⟨b', off, none⟩) b.alphas.length k1) ∧ U.cell? ⟨w.heap.size + 1, 0, none⟩ = some (.int .i64 (A : Int)) ∧ U.cell? ⟨w.heap.size + 1, 1, none⟩ = some (.string text) ∧ U.cell? ⟨b', off + A * 2, none⟩ = some (.string nm) ∧ U.cell? ⟨b', off + A * 2 + 1, none⟩ = some (.slice al ls.length cl) ∧ w.heap.size < U.heap.size ∧ w.heap.size + 1 < U.heap.size ∧ b' < U.heap.size) U) := Lib.hid (fun U h => by
        obtain ⟨q1, q2, q3, q4, q5⟩ := KE.out _ (hbV.trans (h.mono hbV.size))
        exact ⟨h, q1, q2, q3, cell_below h d0, cell_below h d1, q4, q5, Nat.lt_of_lt_of_le hb' h.size⟩)
      go_upto_region 8 with (fail)
      have hg0 : Below V.heap.size V V.drew := below_drew' (Below.refl _ _)
      have hs0 := hg0.size
      clear xb x0 x1 xbz xz d0 d1 hb'
      by_cases hix : ix < 0
      · clear HN2
        go_region_held3 (fun U => Below V.heap.size V U ∧ U.cell? ⟨w.heap.size, 1, none⟩ = some (.slice (some ⟨b', off, none⟩) b.alphas.length k1) ∧ U.cell? ⟨w.heap.size + 1, 0, none⟩ = some (.int .i64 (A : Int)) ∧ U.cell? ⟨w.heap.size + 1, 1, none⟩ = some (.string text) ∧ U.cell? ⟨b', off + A * 2, none⟩ = some (.string nm) ∧ U.cell? ⟨b', off + A * 2 + 1, none⟩ = some (.slice al ls.length cl) ∧ w.heap.size < U.heap.size ∧ w.heap.size + 1 < U.heap.size ∧ b' < U.heap.size) (first | exact SR.out _ hg0 | exact SR.out _ hg1) (first
          | (go_at_call 117; (with_reducible refine (IX.out _ hg0).mono ?_); rintro e w5 ⟨rfl, hgs⟩; have hg1 := hg0.trans (hgs.mono hs0); dsimp only))
        go_wp2
        go_ret
        exact ⟨6, rfl, Lib.hid (fun h => by cases h), HBY.out.trans ((hbV.trans (hg1.mono hbV.size)).mono HBY.out.size)⟩
      · replace HN2 := Lib.hid (HN2.out (by omega))
        go_region_held3 (fun U => Below V.heap.size V U ∧ U.cell? ⟨w.heap.size, 1, none⟩ = some (.slice (some ⟨b', off, none⟩) b.alphas.length k1) ∧ U.cell? ⟨w.heap.size + 1, 0, none⟩ = some (.int .i64 (A : Int)) ∧ U.cell? ⟨w.heap.size + 1, 1, none⟩ = some (.string text) ∧ U.cell? ⟨b', off + A * 2, none⟩ = some (.string nm) ∧ U.cell? ⟨b', off + A * 2 + 1, none⟩ = some (.slice al ls.length cl) ∧ w.heap.size < U.heap.size ∧ w.heap.size + 1 < U.heap.size ∧ b' < U.heap.size) (first | exact SR.out _ hg0 | exact SR.out _ hg1) (first
          | (go_at_call 117; (with_reducible refine (IX.out _ hg0).mono ?_); rintro e w5 ⟨rfl, hgs⟩; have hg1 := hg0.trans (hgs.mono hs0); dsimp only))
        go_wp2
        go_roundw
        case rel => exact ⟨n + 1, by omega, by go_num, HN2, hbV.trans (hg1.mono hbV.size)⟩
        case measure => simp [intOf]; omega
    · obtain rfl : n = text.size := by omega
      have HR : Hid (SpellX b ⟨(A : Int), text⟩) := Lib.hid ⟨Int.natCast_nonneg A, by have := H0.out; simp; omega, by have := H1.out; simp; omega, by have := H1.out; simp; omega, fun j hj => HN.out j hj hj⟩
      go_wp2
      go_ret
      exact ⟨0, rfl, Lib.hid (fun _ => HR.out), HBY.out.trans (hbV.mono HBY.out.size)⟩
end Go.Proofs.YtklconegomgjaaaGreat
