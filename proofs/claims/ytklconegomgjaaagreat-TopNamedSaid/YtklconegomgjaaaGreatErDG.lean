/- What is proved here: the contract of Check of the reference of layer 1: its error is 0 only at a valid book. Conditions: the book lies in memory; its letters are bytes. -/
/- What is proved here: contracts of Ends, mention, Check of the references of layers 1 and 3: the error is 0 only at a valid town. Conditions: the town lies in memory; its letters are bytes. -/
import Derived.Test.YtklconegomgjaaaGreatErBG
import Derived.Test.YtklconegomgjaaaGreatEaCanG
import Derived.Test.YtklconegomgjaaaGreatPnBaseG
set_option linter.unusedVariables false
set_option linter.unusedSimpArgs false
namespace Go.Proofs.YtklconegomgjaaaGreat
open Go Go.RowKit Go.Shelf

theorem fresh_zero {s : ByteArray} {l : List ByteArray} (h : fresh s l = 0) : nameB s = true ∧ ∀ j (hj : j < l.length), l[j] ≠ s := by
  unfold fresh at h
  cases hn : nameB s with
  | false => rw [hn] at h; cases h
  | true =>
    rw [hn] at h
    simp only [if_true] at h
    cases hh : hasS l s with
    | true => rw [hh] at h; cases h
    | false =>
      refine ⟨rfl, fun j hj e => ?_⟩
      unfold hasS at hh
      rw [List.any_eq_false] at hh
      have := hh _ (List.getElem_mem hj)
      simp [e] at this
/-- An alphabet in which nothing is wrong. -/
def AlphaX (b : EaB) (i : Nat) (hi : i < b.alphas.length) : Prop := nameB b.alphas[i].name = true ∧ (∀ j (hj : j < i), b.alphas[j].name ≠ b.alphas[i].name) ∧ LetsX b.sounds.toNat b.alphas[i].letters
theorem book_valid {b : EaB} (h1 : 1 ≤ b.sounds ∧ b.sounds ≤ 4) (h2 : 1 ≤ b.alphas.length ∧ b.alphas.length ≤ 3) (h3 : ∀ i (h : i < b.alphas.length), AlphaX b i h) (h4 : b.spells.length ≤ 5) (h5 : ∀ i (h : i < b.spells.length), SpellX b b.spells[i]) : EaValid b :=
  ⟨h1, h2, fun i h => ⟨(h3 i h).1, (h3 i h).2.1⟩, fun i h => (h3 i h).2.2.1, fun i h k hk => (h3 i h).2.2.2 k hk, h4, fun i h => h5 i h⟩
/-- What Check of the reference says. -/
def ChkPost (P : Prop) (w : World) (e : Ending) (w' : World) : Prop := ∃ x y r : Int, e = .returned (.tuple #[.int .i64 x, .int .i64 y, .int .i64 r]) ∧ Hid (r = 0 → P) ∧ Below w.heap.size w w'
set_option maxRecDepth 100000 in
set_option maxHeartbeats 4000000 in
theorem RCheck01_any (a1 a2 : Option Addr) (k1 k2 : Nat) (b : EaB) (w : World) (hm : BookC w a1 a2 k1 k2 b) (hlb : ∀ x ∈ b.alphas, ∀ i (h : i < x.letters.length), 0 ≤ x.letters[i].letter ∧ x.letters[i].letter ≤ 255) :
    Calls Tryz.prog 18 #[(.agg #[.int .i64 b.sounds, .slice a1 b.alphas.length k1, .slice a2 b.spells.length k2])] w (ChkPost (EaValid b) w) := by
  have l1 := hm.oka.len
  have l2 := hm.oks.len
  have la := hm.oka.1
  have ls := hm.oks.1
  have C0 := fun W => In_any b.sounds 1 4 W
  have h0 := @inB_iff b.sounds 1 4
  generalize inB b.sounds 1 4 = c0 at C0 h0
  have C1 := fun W => In_any (b.alphas.length : Int) 1 3 W
  have h1 := @inB_iff (b.alphas.length : Int) 1 3
  generalize inB (b.alphas.length : Int) 1 3 = c1 at C1 h1
  replace C0 := Lib.hid C0
  replace C1 := Lib.hid C1
  obtain ⟨Y, hY⟩ : ∃ Y : World, Y = (w.alloc (.cells #[.int .i64 b.sounds, .slice a1 b.alphas.length k1, .slice a2 b.spells.length k2] 25)) := ⟨_, rfl⟩
  have hbY : Below w.heap.size w Y := by rw [hY]; exact (Below.refl _ _).alloc (Nat.le_refl _) _
  have hB1 : Y.heap[w.heap.size]? = some (.cells #[.int .i64 b.sounds, .slice a1 b.alphas.length k1, .slice a2 b.spells.length k2] 25 (0, 0)) := by rw [hY]; exact alloc_atE _ _ rfl
  have HY := Lib.hid hY
  clear hY
  have hmY := hm.mono hbY
  have HM := Lib.hid hmY
  have HBY := Lib.hid hbY
  have HLB := Lib.hid hlb
  clear hm hmY hbY hlb
  have KE : Hid (∀ V, Below Y.heap.size Y V → (V.cell? ⟨w.heap.size, 0, none⟩ = some (.int .i64 b.sounds) ∧ V.cell? ⟨w.heap.size, 1, none⟩ = some (.slice a1 b.alphas.length k1) ∧ V.cell? ⟨w.heap.size, 2, none⟩ = some (.slice a2 b.spells.length k2) ∧ w.heap.size < V.heap.size)) := Lib.hid (fun V h => by
    have q1 := (h.block _ (lt_of_block hB1)).trans hB1
    exact ⟨blk_cell 0 q1 rfl, blk_cell 1 q1 rfl, blk_cell 2 q1 rfl, lt_of_block q1⟩)
  clear hB1
  have hq := KE.out _ (Below.refl _ Y)
  go_enter Tryz.func18, Tryz.ntmps18
  go_upto_region 1 with (fail)
  rw [← HY.out]
  cases c0
  · clear h0 h1
    go_wp2_with (go_at_call 19; go_must ((with_reducible refine (C0.out _).mono ?_); rintro e w' ⟨rfl, hw9⟩; obtain rfl := hw9.symm; dsimp only))
    go_ret3
    exact ⟨1, 0, 7, rfl, Lib.hid (fun h => by cases h), HBY.out⟩
  have H0 := Lib.hid (h0.1 rfl)
  clear h0
  cases c1
  · clear h1
    go_wp2_with (first
      | (go_at_call 19; (with_reducible refine (C1.out _).mono ?_); rintro e w' ⟨rfl, hw9⟩; obtain rfl := hw9.symm; dsimp only)
      | (go_at_call 19; (with_reducible refine (C0.out _).mono ?_); rintro e w' ⟨rfl, hw9⟩; obtain rfl := hw9.symm; dsimp only))
    go_ret3
    exact ⟨2, 0, 3, rfl, Lib.hid (fun h => by cases h), HBY.out⟩
  have H1 := Lib.hid (h1.1 rfl)
  clear h1
  go_upto_region 7 with (first
      | (go_at_call 19; (with_reducible refine (C1.out _).mono ?_); rintro e w' ⟨rfl, hw9⟩; obtain rfl := hw9.symm; dsimp only)
      | (go_at_call 19; (with_reducible refine (C0.out _).mono ?_); rintro e w' ⟨rfl, hw9⟩; obtain rfl := hw9.symm; dsimp only))
  clear hq
  obtain ⟨S, hS⟩ : ∃ S : Nat, b.sounds = (S : Int) := ⟨b.sounds.toNat, by have := H0.out; omega⟩
  have hS4 : S ≤ 4 := by have := H0.out; omega
  have HS := Lib.hid hS
  clear hS
  go_loopw [5, 6] (fun o i V => ∃ n : Nat, n ≤ b.alphas.length ∧ i = .int .i64 n ∧ V.ownsRow Y.heap.size 9 1 o n (((b.alphas.take n).map (·.name)).map Value.string) ∧ Hid (∀ i (h : i < b.alphas.length), i < n → AlphaX b i h) ∧ Below Y.heap.size Y V) (fun _ i _ => b.alphas.length - (intOf i).toNat)
  case atStart => exact ⟨0, Nat.zero_le _, rfl, World.ownsRow_nil _ _ _ _, Lib.hid (fun i h g => absurd g (Nat.not_lt_zero i)), Below.refl _ _⟩
  case round =>
    rename World => V
    obtain ⟨n, hn, rfl, hown, HN, hbV⟩ := hrel
    by_cases hlt : n < b.alphas.length
    · obtain ⟨b', off, hae, hb', d0, al, cl, d1, d2, d3⟩ := HM.out.alphas n hlt
      have hlx := HLB.out _ (List.getElem_mem hlt)
      have hsz := HM.out.nsize _ (List.getElem_mem hlt)
      have hnm : Hid (((b.alphas.take (n + 1)).map (·.name)) = ((b.alphas.take n).map (·.name)) ++ [b.alphas[n].name]) := Lib.hid (by rw [List.take_succ_eq_append_getElem hlt, List.map_append]; rfl)
      obtain ⟨-, a3, c3, rfl, hs3, hi3⟩ := strs_own hown
      have hll : ((b.alphas.take n).map (·.name)).length = n := by simp; omega
      have F := fun W hi => Fresh_any b.alphas[n].name a3 ((b.alphas.take n).map (·.name)) c3 W hsz (by omega) hi
      have HF : Hid (fresh b.alphas[n].name ((b.alphas.take n).map (·.name)) = 0 → LetsX S b.alphas[n].letters → ∀ i (h : i < b.alphas.length), i < n + 1 → AlphaX b i h) := Lib.hid (fun q1 q2 i h hi => if g : i < n then HN.out i h g else (by
        have e : i = n := (by omega)
        subst e
        have q3 := fresh_zero q1
        refine ⟨q3.1, fun j hj e => q3.2 j (by rw [hll]; exact hj) ?_, ?_⟩
        · rw [List.getElem_map, List.getElem_take]
          exact e
        · rw [show b.sounds.toNat = S from by rw [HS.out]; rfl]
          exact q2))
      rw [hll] at hown F ⊢
      have HOW := Lib.hid hown
      generalize ((b.alphas.take n).map (·.name)) = nms at HF hnm HOW hi3 F
      have RL := fun (W : World) (h : Below Y.heap.size Y W) => RLetters_any S hS4 a1 a2 b.alphas.length b.spells.length k1 k2 al b.alphas[n].letters cl W d2 (d3.mono h) hlx
      generalize b.alphas[n].letters = lts at RL HF d1 d2
      generalize b.alphas[n].name = nm at F HF hnm d0 hsz
      rw [← HS.out] at RL
      generalize fresh nm nms = fe at HF F
      have F := Lib.hid (F V hi3)
      have RL := Lib.hid RL
      clear hown hi3 hs3 hll hlx d3
      subst hae
      have hbz := hbV.size
      have HAP := Lib.hid (fun (U : World) (hg : (V.alloc (.cells #[.string nm] 9)).grownBy U (Value.ownBlock (.slice a3 n c3))) => app_next (B := Y.heap.size) hbV (Nat.le_refl _) (Nat.le_refl _) HOW.out hg)
      have hn3 : n ≤ 3 := by have := H1.out; omega
      have HD : Hid (∀ U, Below Y.heap.size Y U → (U.cell? ⟨b', off + n * 2, none⟩ = some (.string nm) ∧ U.cell? ⟨b', off + n * 2 + 1, none⟩ = some (.slice al lts.length cl) ∧ b' < U.heap.size)) := Lib.hid (fun U h => ⟨cell_below h d0, cell_below h d1, Nat.lt_of_lt_of_le hb' h.size⟩)
      clear d0 d1 hb'
      obtain ⟨d0, d1, hb'⟩ := HD.out _ hbV
      obtain ⟨x0, x1, x2, xz⟩ := KE.out _ hbV
      go_upto_region 11 with (first
        | (at_builtin; go_must (refine wpList_app (.tmp 34) (.tmp 41) E_str rfl rfl rfl rfl Y.heap.size n 1 (nms.map Value.string) [.string nm] (HOW.out.alloc _) (SrcAt.one _ _ _ rfl) (by omega) (by decide) (by simp at hbz ⊢; omega) ?_; intro v3 w3 ho3 hg3 _; simp only [Act.put, List.setIfInBounds_toArray, List.set_cons_succ, List.set_cons_zero]))
        | (go_at_call 63; go_must ((with_reducible refine F.out.mono ?_); rintro e w2 ⟨rfl, hw9⟩; obtain rfl := hw9.symm; dsimp only)))
      have hB3 := HAP.out _ hg3
      clear hg3 HAP HOW x0 x1 x2 xz d0 d1 hb'
      obtain ⟨x0, x1, x2, xz⟩ := KE.out _ hB3
      by_cases hfe : fe = 0
      · have e1 := eqi_t hfe
        replace HF := Lib.hid (HF.out hfe)
        clear hfe
        go_upto_region 12 with (fail)
        have SR : Hid (∀ U, Below Y.heap.size Y U → (fun U => Below Y.heap.size Y U ∧ U.cell? ⟨w.heap.size, 0, none⟩ = some (.int .i64 b.sounds) ∧ U.cell? ⟨w.heap.size, 1, none⟩ = some (.slice (some ⟨b', off, none⟩) b.alphas.length k1) ∧ U.cell? ⟨w.heap.size, 2, none⟩ = some (.slice a2 b.spells.length k2) ∧ U.cell? ⟨b', off + n * 2 + 1, none⟩ = some (.slice al lts.length cl) ∧ w.heap.size < U.heap.size ∧ b' < U.heap.size) U) := Lib.hid (fun U h => by
          obtain ⟨q1, q2, q3, q4⟩ := KE.out _ h
          obtain ⟨q5, q6, q7⟩ := HD.out _ h
          exact ⟨h, q1, q2, q3, q6, q4, q7⟩)
        have hg0 : Below Y.heap.size Y w3.drew := below_drew' hB3
        have hn9 := Lib.hid (below_drew' (Below.refl w3.heap.size w3))
        clear x0 x1 x2 xz
        go_region_held3 (fun U => Below Y.heap.size Y U ∧ U.cell? ⟨w.heap.size, 0, none⟩ = some (.int .i64 b.sounds) ∧ U.cell? ⟨w.heap.size, 1, none⟩ = some (.slice (some ⟨b', off, none⟩) b.alphas.length k1) ∧ U.cell? ⟨w.heap.size, 2, none⟩ = some (.slice a2 b.spells.length k2) ∧ U.cell? ⟨b', off + n * 2 + 1, none⟩ = some (.slice al lts.length cl) ∧ w.heap.size < U.heap.size ∧ b' < U.heap.size) (first | exact SR.out _ hg0 | exact SR.out _ hg1) (first
          | (go_at_call 64; (with_reducible refine (RL.out _ hg0).mono ?_); rintro e w5 ⟨r, rfl, hr, hgs⟩; have hg1 := hg0.trans (hgs.mono hg0.size); have hg4 := hn9.out.trans (hgs.mono hn9.out.size); dsimp only))
        clear hg0
        by_cases hr0 : r = 0
        · have e2 := nei_f hr0
          replace HF := Lib.hid (HF.out (hr.out hr0))
          clear hr0 hr
          go_wp2
          go_roundw
          case rel => exact ⟨n + 1, by omega, by go_num, by rw [hnm.out, List.map_append]; exact own_below ho3 hg4, HF, hg1⟩
          case measure => simp [intOf]; omega
        · have e2 := nei_t hr0
          have HR0 := Lib.hid hr0
          clear hr0 hr
          go_wp2
          go_ret3
          exact ⟨2, (n : Int), r, rfl, Lib.hid (fun h => absurd h HR0.out), HBY.out.trans (hg1.mono HBY.out.size)⟩
      · have e1 := eqi_f hfe
        have e2 := nei_t hfe
        have HR0 := Lib.hid hfe
        clear hfe
        go_wp2
        go_ret3
        exact ⟨2, (n : Int), fe, rfl, Lib.hid (fun h => absurd h HR0.out), HBY.out.trans (hB3.mono HBY.out.size)⟩
    · have HNA : Hid (∀ i (h : i < b.alphas.length), AlphaX b i h) := Lib.hid (fun i h => HN.out i h (by omega))
      clear HN hown
      obtain ⟨x0, x1, x2, xz⟩ := KE.out _ hbV
      by_cases g2 : 5 < b.spells.length
      · clear HNA
        have g3 : (5 : Int) < (b.spells.length : Int) := by omega
        go_wp2
        go_ret3
        exact ⟨3, 0, 3, rfl, Lib.hid (fun h => by cases h), HBY.out.trans (hbV.mono HBY.out.size)⟩
      have g3 : ¬ (5 : Int) < (b.spells.length : Int) := by omega
      have hl5 : b.spells.length ≤ 5 := by omega
      clear g2
      go_upto_region 18 with (fail)
      clear x0 x1 x2 xz
      go_loopw [8] (fun i U => ∃ m : Nat, m ≤ b.spells.length ∧ i = .int .i64 m ∧ Hid (∀ i (h : i < b.spells.length), i < m → SpellX b b.spells[i]) ∧ Below Y.heap.size Y U) (fun i _ => b.spells.length - (intOf i).toNat)
      case atStart => exact ⟨0, Nat.zero_le _, rfl, Lib.hid (fun i h g => absurd g (Nat.not_lt_zero i)), hbV⟩
      case round =>
        rename World => U
        obtain ⟨m, hm, rfl, HP, hbU⟩ := hrel
        obtain ⟨x0, x1, x2, xz⟩ := KE.out _ hbU
        by_cases hlm : m < b.spells.length
        · obtain ⟨b', off, hae, hb', d0, d1⟩ := HM.out.spells m hlm
          have hsz := HM.out.tsize _ (List.getElem_mem hlm)
          have RS := fun (W : World) (h : Below Y.heap.size Y W) => RSpelling_any a1 a2 k1 k2 b b.spells[m] W (HM.out.mono h) hsz
          have HP2 := Lib.hid (fun (h : SpellX b b.spells[m]) => show ∀ i (h : i < b.spells.length), i < m + 1 → SpellX b b.spells[i] from fun i hi hij => if hjk : i < m then HP.out i hi hjk else (by have e : i = m := (by omega); subst e; exact h))
          generalize b.spells[m] = x at HP2 RS d0 d1
          obtain ⟨xa, xt⟩ := x
          simp only at HP2 RS d0 d1
          replace RS := Lib.hid RS
          subst hae
          clear hsz
          have SR : Hid (∀ U, Below Y.heap.size Y U → (fun U => Below Y.heap.size Y U ∧ U.cell? ⟨w.heap.size, 0, none⟩ = some (.int .i64 b.sounds) ∧ U.cell? ⟨w.heap.size, 1, none⟩ = some (.slice a1 b.alphas.length k1) ∧ U.cell? ⟨w.heap.size, 2, none⟩ = some (.slice (some ⟨b', off, none⟩) b.spells.length k2) ∧ U.cell? ⟨b', off + m * 2, none⟩ = some (.int .i64 xa) ∧ U.cell? ⟨b', off + m * 2 + 1, none⟩ = some (.string xt) ∧ w.heap.size < U.heap.size ∧ b' < U.heap.size) U) := Lib.hid (fun U h => by
            obtain ⟨q1, q2, q3, q4⟩ := KE.out _ h
            exact ⟨h, q1, q2, q3, cell_below h d0, cell_below h d1, q4, Nat.lt_of_lt_of_le hb' h.size⟩)
          go_upto_region 20 with (fail)
          have hg0 : Below Y.heap.size Y U.drew := below_drew' hbU
          clear x0 x1 x2 xz d0 d1 hb'
          go_region_held3 (fun U => Below Y.heap.size Y U ∧ U.cell? ⟨w.heap.size, 0, none⟩ = some (.int .i64 b.sounds) ∧ U.cell? ⟨w.heap.size, 1, none⟩ = some (.slice a1 b.alphas.length k1) ∧ U.cell? ⟨w.heap.size, 2, none⟩ = some (.slice (some ⟨b', off, none⟩) b.spells.length k2) ∧ U.cell? ⟨b', off + m * 2, none⟩ = some (.int .i64 xa) ∧ U.cell? ⟨b', off + m * 2 + 1, none⟩ = some (.string xt) ∧ w.heap.size < U.heap.size ∧ b' < U.heap.size) (first | exact SR.out _ hg0 | exact SR.out _ hg1) (first
            | (go_at_call 65; (with_reducible refine (RS.out _ hg0).mono ?_); rintro e w5 ⟨r, rfl, hr, hgs⟩; have hg1 := hg0.trans (hgs.mono hg0.size); dsimp only))
          clear hg0
          by_cases hr0 : r = 0
          · have e2 := nei_f hr0
            replace HP2 := Lib.hid (HP2.out (hr.out hr0))
            clear hr0 hr
            go_wp2
            go_roundw
            case rel => exact ⟨m + 1, by omega, by go_num, HP2, hg1⟩
            case measure => simp [intOf]; omega
          · have e2 := nei_t hr0
            have HR0 := Lib.hid hr0
            clear hr0 hr
            go_wp2
            go_ret3
            exact ⟨3, (m : Int), r, rfl, Lib.hid (fun h => absurd h HR0.out), HBY.out.trans (hg1.mono HBY.out.size)⟩
        · obtain rfl : m = b.spells.length := by omega
          have HV : Hid (EaValid b) := Lib.hid (book_valid H0.out (by have := H1.out; omega) HNA.out hl5 (fun i h => HP.out i h h))
          clear HNA HP
          go_wp2
          go_ret3
          exact ⟨0, 0, 0, rfl, Lib.hid (fun _ => HV.out), HBY.out.trans (hbU.mono HBY.out.size)⟩
end Go.Proofs.YtklconegomgjaaaGreat
namespace Go.Proofs.YtklconegomgjaaaGreat
open Go Go.RowKit Go.Shelf

def endsE (lo hi : Int) : Int := if (inB lo 0 199 && inB hi 0 199) = true then (if lo ≤ hi then 0 else 2) else 7
set_option maxHeartbeats 1000000 in
theorem REndsP_any (lo hi : Int) (w : World) : Calls Tryz.prog 66 #[.agg #[.int .i64 lo, .int .i64 hi], .int .i64 0, .int .i64 199] w fun e w' => e = .returned (.int .i64 (endsE lo hi)) ∧ Below w.heap.size w w' := by
  have HE : Hid (endsE lo hi = if (inB lo 0 199 && inB hi 0 199) = true then (if lo ≤ hi then 0 else 2) else 7) := Lib.hid rfl
  generalize endsE lo hi = r at HE ⊢
  have C1 := fun W => In_any lo 0 199 W
  have C2 := fun W => In_any hi 0 199 W
  generalize inB lo 0 199 = c1 at C1 HE
  generalize inB hi 0 199 = c2 at C2 HE
  replace C1 := Lib.hid C1
  replace C2 := Lib.hid C2
  go_enter Tryz.func66, Tryz.ntmps66
  cases c1
  · go_wp2_with (go_at_call 19; go_must ((with_reducible refine (C1.out _).mono ?_); rintro e w' ⟨rfl, rfl⟩; dsimp only))
    go_ret
    exact ⟨ret_int (by rw [HE.out]; simp), by go_grown⟩
  cases c2
  · go_wp2_with (first | (go_at_call 19; (with_reducible refine (C2.out _).mono ?_); rintro e w' ⟨rfl, rfl⟩; dsimp only) | (go_at_call 19; (with_reducible refine (C1.out _).mono ?_); rintro e w' ⟨rfl, rfl⟩; dsimp only))
    go_ret
    exact ⟨ret_int (by rw [HE.out]; simp), by go_grown⟩
  by_cases hlt : hi < lo
  · go_wp2_with (first | (go_at_call 19; (with_reducible refine (C2.out _).mono ?_); rintro e w' ⟨rfl, rfl⟩; dsimp only) | (go_at_call 19; (with_reducible refine (C1.out _).mono ?_); rintro e w' ⟨rfl, rfl⟩; dsimp only))
    go_ret
    exact ⟨ret_int (by rw [HE.out, if_pos (by rfl), if_neg (by omega)]), by go_grown⟩
  · go_wp2_with (first | (go_at_call 19; (with_reducible refine (C2.out _).mono ?_); rintro e w' ⟨rfl, rfl⟩; dsimp only) | (go_at_call 19; (with_reducible refine (C1.out _).mono ?_); rintro e w' ⟨rfl, rfl⟩; dsimp only))
    go_ret
    exact ⟨ret_int (by rw [HE.out, if_pos (by rfl), if_pos (by omega)]), by go_grown⟩
theorem mentErr_ends (t : PeW) (at_ : Int) (x : PeM) : mentErr t at_ x = if (inB x.spell 0 ((t.ear.spells.length : Int) - 1) && inB x.vill (-1) (t.vills - 1) && inB x.par (-1) ((t.ments.length : Int) - 1)) = true then (if endsE x.lo x.hi = 0 ∧ x.par = at_ then 2 else endsE x.lo x.hi) else 4 := by
  unfold mentErr endsE
  split
  · split
    · by_cases h1 : x.lo ≤ x.hi <;> by_cases h2 : x.par = at_ <;> simp [h1, h2]
    · simp
  · rfl
set_option maxRecDepth 100000 in
set_option maxHeartbeats 2000000 in
theorem RMention_any (a1 a2 a3 a4 : Option Addr) (k1 k2 k3 k4 : Nat) (t : PeW) (x : PeM) (at_ : Int) (w : World) (hv1 : 1 ≤ t.vills) (hv4 : t.vills ≤ 4) (hl1 : t.ear.spells.length ≤ 9223372036854775807) (hl2 : t.ments.length ≤ 9223372036854775807) :
    Calls Tryz.prog 20 #[(.agg #[.int .i64 t.ear.sounds, .slice a1 t.ear.alphas.length k1, .slice a2 t.ear.spells.length k2, .int .i64 t.vills, .slice a3 t.ments.length k3, .slice a4 t.ties.length k4]), .agg #[.int .i64 x.spell, .int .i64 x.vill, .int .i64 x.lo, .int .i64 x.hi, .int .i64 x.par], .int .i64 at_] w fun e w' => e = .returned (.int .i64 (mentErr t at_ x)) ∧ Below w.heap.size w w' := by
  have HE := Lib.hid (mentErr_ends t at_ x)
  obtain ⟨xs, xv, xl, xh, xp⟩ := x
  simp only at HE ⊢
  generalize mentErr t at_ ⟨xs, xv, xl, xh, xp⟩ = r at HE ⊢
  have C1 := fun W => In_any xs 0 ((t.ear.spells.length : Int) - 1) W
  have C2 := fun W => In_any xv (-1) (t.vills - 1) W
  have C3 := fun W => In_any xp (-1) ((t.ments.length : Int) - 1) W
  have EN := fun W => REndsP_any xl xh W
  generalize inB xs 0 ((t.ear.spells.length : Int) - 1) = c1 at C1 HE
  generalize inB xv (-1) (t.vills - 1) = c2 at C2 HE
  generalize inB xp (-1) ((t.ments.length : Int) - 1) = c3 at C3 HE
  generalize endsE xl xh = er at EN HE
  replace C1 := Lib.hid C1
  replace C2 := Lib.hid C2
  replace C3 := Lib.hid C3
  replace EN := Lib.hid EN
  have HEq := HE
  obtain ⟨Y, hY⟩ : ∃ Y : World, Y = (w.alloc (.cells #[.int .i64 t.ear.sounds, .slice a1 t.ear.alphas.length k1, .slice a2 t.ear.spells.length k2, .int .i64 t.vills, .slice a3 t.ments.length k3, .slice a4 t.ties.length k4] 29)).alloc (.cells #[.int .i64 xs, .int .i64 xv, .int .i64 xl, .int .i64 xh, .int .i64 xp] 38) := ⟨_, rfl⟩
  have hbY : Below w.heap.size w Y := by rw [hY]; exact ((Below.refl _ _).alloc (Nat.le_refl _) _).alloc (by simp) _
  have hB1 : Y.heap[w.heap.size]? = some (.cells #[.int .i64 t.ear.sounds, .slice a1 t.ear.alphas.length k1, .slice a2 t.ear.spells.length k2, .int .i64 t.vills, .slice a3 t.ments.length k3, .slice a4 t.ties.length k4] 29 (0, 0)) := by rw [hY]; exact (heap_alloc_old _ _ (by simp)).trans (alloc_atE _ _ rfl)
  have hB2 : Y.heap[w.heap.size + 1]? = some (.cells #[.int .i64 xs, .int .i64 xv, .int .i64 xl, .int .i64 xh, .int .i64 xp] 38 (0, 0)) := by rw [hY]; exact alloc_atE _ _ (by simp)
  have HY := Lib.hid hY
  have HBY := Lib.hid hbY
  have HB2 := Lib.hid hB2
  clear hY hbY
  have t2 := blk_cell 2 hB1 rfl
  have t3 := blk_cell 3 hB1 rfl
  have t4 := blk_cell 4 hB1 rfl
  have tz := lt_of_block hB1
  have m0 := blk_cell 0 hB2 rfl
  have m1 := blk_cell 1 hB2 rfl
  have m2 := blk_cell 2 hB2 rfl
  have m3 := blk_cell 3 hB2 rfl
  have m4 := blk_cell 4 hB2 rfl
  have mz := lt_of_block hB2
  simp only [List.getElem_toArray, List.getElem_cons_zero, List.getElem_cons_succ] at t2 t3 t4 m0 m1 m2 m3 m4
  clear hB1 hB2
  go_enter Tryz.func20, Tryz.ntmps20
  go_upto_region 1 with (fail)
  rw [← HY.out]
  by_cases hc : c1 = true ∧ c2 = true ∧ c3 = true
  · obtain ⟨rfl, rfl, rfl⟩ := hc
    go_upto_region 4 with (first
      | (go_at_call 66; (with_reducible refine (EN.out _).mono ?_); rintro e wE ⟨rfl, hbE⟩; dsimp only)
      | (go_at_call 19; (with_reducible refine (C1.out _).mono ?_); rintro e w' ⟨rfl, hw9⟩; obtain rfl := hw9.symm; dsimp only)
      | (go_at_call 19; (with_reducible refine (C2.out _).mono ?_); rintro e w' ⟨rfl, hw9⟩; obtain rfl := hw9.symm; dsimp only)
      | (go_at_call 19; (with_reducible refine (C3.out _).mono ?_); rintro e w' ⟨rfl, hw9⟩; obtain rfl := hw9.symm; dsimp only))
    have h9 := (hbE.block _ (lt_of_block HB2.out)).trans HB2.out
    have n4 := blk_cell 4 h9 rfl
    have nz := lt_of_block h9
    simp only [List.getElem_toArray, List.getElem_cons_zero, List.getElem_cons_succ] at n4
    have HR := Lib.hid (HBY.out.trans (hbE.mono HBY.out.size))
    clear h9 hbE t2 t3 t4 tz m0 m1 m2 m3 m4 mz
    by_cases h0 : er = 0
    all_goals (first | have e1 := eqi_t h0 | have e1 := eqi_f h0)
    all_goals (by_cases hp : xp = at_)
    all_goals (first | have e2 := eqi_t hp | have e2 := eqi_f hp)
    all_goals
      have H0 := Lib.hid h0
      have HP := Lib.hid hp
      clear h0 hp
      go_wp2
      go_ret
      exact ⟨ret_int (by rw [HEq.out]; have a1 := H0.out; have a2 := HP.out; simp [a1, a2]), HR.out⟩
  · have hr : Hid (r = 4) := Lib.hid (by
      rw [HEq.out, if_neg]
      intro h
      rw [Bool.and_eq_true, Bool.and_eq_true] at h
      exact hc ⟨h.1.1, h.1.2, h.2⟩)
    have HNC := Lib.hid hc
    clear HE HEq hc
    cases c1
    · go_wp2_with (go_at_call 19; (with_reducible refine (C1.out _).mono ?_); rintro e w' ⟨rfl, hw9⟩; obtain rfl := hw9.symm; dsimp only)
      go_ret
      exact ⟨ret_int hr.out.symm, HBY.out⟩
    cases c2
    · go_wp2_with (first
        | (go_at_call 19; (with_reducible refine (C1.out _).mono ?_); rintro e w' ⟨rfl, hw9⟩; obtain rfl := hw9.symm; dsimp only)
        | (go_at_call 19; (with_reducible refine (C2.out _).mono ?_); rintro e w' ⟨rfl, hw9⟩; obtain rfl := hw9.symm; dsimp only))
      go_ret
      exact ⟨ret_int hr.out.symm, HBY.out⟩
    cases c3
    · go_wp2_with (first
        | (go_at_call 19; (with_reducible refine (C1.out _).mono ?_); rintro e w' ⟨rfl, hw9⟩; obtain rfl := hw9.symm; dsimp only)
        | (go_at_call 19; (with_reducible refine (C2.out _).mono ?_); rintro e w' ⟨rfl, hw9⟩; obtain rfl := hw9.symm; dsimp only)
        | (go_at_call 19; (with_reducible refine (C3.out _).mono ?_); rintro e w' ⟨rfl, hw9⟩; obtain rfl := hw9.symm; dsimp only))
      go_ret
      exact ⟨ret_int hr.out.symm, HBY.out⟩
    · exact absurd ⟨rfl, rfl, rfl⟩ HNC.out
end Go.Proofs.YtklconegomgjaaaGreat
