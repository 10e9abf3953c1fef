/- What is proved here: the walk of SecretCut: it returns true, and turns nothing that was there. Conditions: the room lies in memory. -/
import Derived.Test.YtmhbjohpggghgaaSwB
import Derived.Test.YtmhbjohpggghgaaSw3
set_option linter.unusedVariables false
set_option linter.unusedSimpArgs false
namespace Go.Proofs.Ytmhbjohpggghgaa
open Go Go.RowKit
theorem keptTo_succ (r : SeRoom) (s k : Nat) : keptTo r s (k + 1) = (keptTo r s k && (!bitB (keptAt r s) k || decide ((sinceOf r (k : Int) (s : Int)).2.1 = 2))) := by
  unfold keptTo
  rw [List.range_succ, List.all_append]
  simp
set_option maxRecDepth 100000 in
set_option maxHeartbeats 16000000 in
theorem SecretCut_walk (a1 a2 a3 a4 a5 : Option Addr) (k1 k2 k3 k4 k5 : Nat) (r : SeRoom) (x0 x1 : Nat) (g0 : x0 ≤ 255) (g1 : x1 ≤ 255) (w : World) (hm : RoomC w a1 a2 a3 a4 a5 k1 k2 k3 k4 k5 r) : Calls Try.prog 13 #[(.agg #[.slice a1 r.writers.length k1, .slice a2 r.kept.length k2, .slice a3 r.leaks.length k3, .slice a4 r.letters.length k4, .slice a5 r.heard.length k5]), .agg #[.int .u8 (x0 : Int), .int .u8 (x1 : Int)]] w fun e w' => e = .returned (.bool true) ∧ Below w.heap.size w w' := by
  obtain ⟨X, hX⟩ : ∃ X : World, X = ((w.alloc (.cells #[.slice a1 r.writers.length k1, .slice a2 r.kept.length k2, .slice a3 r.leaks.length k3, .slice a4 r.letters.length k4, .slice a5 r.heard.length k5] 28)).alloc (.cells #[.int .u8 (x0 : Int), .int .u8 (x1 : Int)] 52)) := ⟨_, rfl⟩
  have hwX : Below w.heap.size w X := by rw [hX]; exact (by (repeat' (first | assumption | exact Below.refl _ _ | refine below_drew' ?_ | refine Below.setCell ?_ (by first | omega | (simp <;> omega)) _ | refine Below.alloc ?_ (by first | omega | (simp <;> omega)) _)))
  have g1 : X.heap[w.heap.size]? = some (.cells #[.slice a1 r.writers.length k1, .slice a2 r.kept.length k2, .slice a3 r.leaks.length k3, .slice a4 r.letters.length k4, .slice a5 r.heard.length k5] 28 (0, 0)) := by rw [hX]; (repeat' (first | exact alloc_at _ _ (by simp) | refine (heap_alloc_old _ _ (by first | omega | (simp <;> omega))).trans ?_))
  have g2 : X.heap[w.heap.size + 1]? = some (.cells #[.int .u8 (x0 : Int), .int .u8 (x1 : Int)] 52 (0, 0)) := by rw [hX]; (repeat' (first | exact alloc_at _ _ (by simp) | refine (heap_alloc_old _ _ (by first | omega | (simp <;> omega))).trans ?_))
  replace g1 := fun (V : World) (h : Below X.heap.size X V) => (h.block _ (lt_of_block g1)).trans g1
  replace g2 := fun (V : World) (h : Below X.heap.size X V) => (h.block _ (lt_of_block g2)).trans g2
  have HC : Hid (∀ V, Below X.heap.size X V → (V.cell? ⟨w.heap.size, 0, none⟩ = some (.slice a1 r.writers.length k1) ∧ V.cell? ⟨w.heap.size, 1, none⟩ = some (.slice a2 r.kept.length k2) ∧ V.cell? ⟨w.heap.size, 2, none⟩ = some (.slice a3 r.leaks.length k3) ∧ V.cell? ⟨w.heap.size, 3, none⟩ = some (.slice a4 r.letters.length k4) ∧ V.cell? ⟨w.heap.size, 4, none⟩ = some (.slice a5 r.heard.length k5) ∧ V.cell? ⟨w.heap.size + 1, 0, none⟩ = some (.int .u8 (x0 : Int)) ∧ V.cell? ⟨w.heap.size + 1, 1, none⟩ = some (.int .u8 (x1 : Int)) ∧ w.heap.size < V.heap.size ∧ w.heap.size + 1 < V.heap.size)) := Lib.hid (fun V h => ⟨blk_cell 0 (g1 V h) rfl, blk_cell 1 (g1 V h) rfl, blk_cell 2 (g1 V h) rfl, blk_cell 3 (g1 V h) rfl, blk_cell 4 (g1 V h) rfl, blk_cell 0 (g2 V h) rfl, blk_cell 1 (g2 V h) rfl, lt_of_block (g1 V h), lt_of_block (g2 V h)⟩)
  have M := Lib.hid (fun (V : World) (h : Below X.heap.size X V) => (hm.mono hwX).mono h)
  clear g1 g2
  have hQ := Below.refl X.heap.size X
  have hx := HC.out _ hQ
  by_cases hs : someB r = true
  · have l2 := hm.ok2.len
    by_cases hz2 : r.kept.length = 0
    · have q2 : ((r.kept.length : Int) == 0) = true := eqi_t (by omega)
      replace hs := Lib.hid hs
      obtain ⟨e0, hc, he0⟩ := cut_none (r := r) (s := 0) (.inr hz2)
      replace hc := Lib.hid hc
      have hne := nei_t he0
      clear he0 hz2
      go_enter Try.func13, Try.ntmps13
      go_upto_region 1 with (fail)
      rw [← hX]
      clear hX
      go_wp2_with (first
        | (go_at_call 22; (with_reducible refine (Awake_any _).mono ?_); rintro e w4 ⟨rfl, hb⟩; replace hQ := q_on hQ hb; replace hx := HC.out _ hQ; dsimp only)
        | (go_at_call 32; (with_reducible refine (A_Cut _ _ _ _ _ _ _ _ _ _ r 0 [] e0 hc.out _ (M.out _ hQ)).mono ?_); rintro e w3 ⟨b1, c1, rfl, o1, i1, hb⟩; replace hQ := q_on hQ hb; replace hx := HC.out _ hQ; dsimp only [List.length_nil])
        | (go_at_call 43; (with_reducible refine (Some_is _ _ _ _ _ _ _ _ _ _ r true hs.out _ (M.out _ hQ)).mono ?_); rintro e w2 ⟨rfl, hb⟩; replace hQ := q_on hQ hb; replace hx := HC.out _ hQ; dsimp only))
      go_ret
      exact ⟨rfl, hwX.trans (hQ.mono hwX.size)⟩
    · have q2 : ((r.kept.length : Int) == 0) = false := eqi_f (by omega)
      have hv := seValid_of (someB_iff.1 hs).1
      obtain ⟨s, hsn⟩ : ∃ s : Nat, s = x0 % r.kept.length := ⟨_, rfl⟩
      have hsl : s < r.kept.length := by rw [hsn]; exact Nat.mod_lt _ (by omega)
      have f1 : (x0 : Int) % (r.kept.length : Int) = (s : Int) := by rw [hsn]; exact (Int.natCast_emod _ _).symm
      have hk1 : (r.kept.length : Int) ≠ 0 := by omega
      clear hsn
      have hO := cut_is hs hsl (idxTo_incr (x1 : Int) r.leaks.length)
      have hbd := truths_bd (r := r) []
      have hfew := truths_few hv []
      have hsh : ∀ t ∈ seTruths r [], t.length ≤ 4 := fun t ht => Nat.le_trans (truths_short [] t ht) hv.nl
      have hlb := letters_bd hv
      have TR := fun (W : World) (h : RoomC W a1 a2 a3 a4 a5 k1 k2 k3 k4 k5 r) => RTruths_any a1 a2 a3 a4 a5 k1 k2 k3 k4 k5 r none [] 0 W h hv ⟨by simp, by omega, fun _ => rfl⟩ (IntsC.nil _ _)
      rw [List.length_nil] at TR
      have LE := fun (aT ab : Option Addr) (cT cb : Nat) (l : List Int) (W : World) (h1 : SlOk aT (seTruths r []).length cT) (h2 : RowsC W aT (seTruths r [])) (h3 : SlOk ab l.length cb) (h4 : IntsC W ab l) => RLess_any aT ab (seTruths r []) l cT cb W h1 h2 hfew hsh h3 h4
      have KP : ∀ (ar : Option Addr) (cr : Nat) (l : List Int) (W : World) (h : RoomC W a1 a2 a3 a4 a5 k1 k2 k3 k4 k5 r) (h1 : SlOk ar (lessOf (seTruths r []) l).length cr) (h2 : RowsC W ar (lessOf (seTruths r []) l)), Calls Try.prog 50 #[(.agg #[.slice a1 r.writers.length k1, .slice a2 r.kept.length k2, .slice a3 r.leaks.length k3, .slice a4 r.letters.length k4, .slice a5 r.heard.length k5]), .slice a4 r.letters.length k4, .slice ar (lessOf (seTruths r []) l).length cr, .int .i64 (s : Int)] W fun e w' => e = .returned (.bool (cutSo r s l)) ∧ Below W.heap.size W w' :=
        fun ar cr l W h h1 h2 => RKeeps_any a1 a2 a3 a4 a5 k1 k2 k3 k4 k5 r a4 ar r.letters (lessOf (seTruths r []) l) k4 cr s W h hv hm.ok4 h.letters hlb h1 h2 (less_bd hbd) hsl
      have SI : ∀ (k : Nat), k < r.writers.length → ∃ lo hi how, sinceOf r (k : Int) (s : Int) = ((lo, hi), how, 0) := fun k hk => by obtain ⟨lo, hi, n, h, -⟩ := since_is hs hk hsl; exact ⟨lo, hi, _, h⟩
      have SC := fun k => keptTo_succ r s k
      obtain ⟨bk, ok, rfl, hbk, hck⟩ := hm.kept s hsl
      obtain ⟨kn, hkn, hkn2⟩ : ∃ kn : Nat, r.kept[s] = (kn : Int) ∧ kn ≤ 1000 := by have h1 := hv.kept s hsl; have h2 := two_pow_le4 _ hv.nw; have h3 : ((2 ^ r.writers.length : Nat) : Int) = 2 ^ r.writers.length := (by simp); exact ⟨r.kept[s].toNat, (Int.toNat_of_nonneg h1.1).symm, by omega⟩
      have hka : keptAt r s = (kn : Int) := by rw [← hkn]; simp [keptAt, hsl]
      rw [hkn] at hck
      have K0 : keptTo r s 0 = true := rfl
      have IL := Lib.hid (idxTo_len (x1 : Int))
      have l1 := hm.ok1.len
      have l3 := hm.ok3.len
      have l4 := hm.ok4.len
      have n3 := hv.nl
      have n1 := hv.nw
      generalize hT : seTruths r [] = T at TR LE KP hfew
      generalize lessOf T = LO at LE KP
      generalize cutSo r s = C at KP hO
      rw [hka] at SC
      have hck2 := Lib.hid (fun (V : World) (h : Below w.heap.size w V) => cell_below h hck)
      generalize hG : keptTo r s = G at hO SC K0
      generalize hOO : idxTo (x1 : Int) r.leaks.length = O at hO
      replace hOO := Lib.hid hOO
      replace TR := Lib.hid TR
      replace LE := Lib.hid LE
      replace KP := Lib.hid KP
      replace SI := Lib.hid SI
      replace SC := Lib.hid SC
      replace K0 := Lib.hid K0
      replace hO := Lib.hid hO
      have hTl : T.length ≤ 16 := hfew
      replace hs := Lib.hid hs
      clear hv hbd hsh hlb hT hG hkn hka hck hfew
      go_enter Try.func13, Try.ntmps13
      go_upto_region 1 with (fail)
      rw [← hX]
      clear hX
      go_wp2_with (first
        | (go_at_call 46; (with_reducible refine (TR.out _ (M.out _ hQ)).mono ?_); rintro e w3 ⟨v, rfl, ⟨aT, cT, rfl, oT, rT⟩, hb⟩; replace hQ := q_on hQ hb; replace hx := HC.out _ hQ; dsimp only)
        | (go_at_call 43; (with_reducible refine (Some_is _ _ _ _ _ _ _ _ _ _ r true hs.out _ (M.out _ hQ)).mono ?_); rintro e w2 ⟨rfl, hb⟩; replace hQ := q_on hQ hb; replace hx := HC.out _ hQ; dsimp only))
      go_loopw [9, 10] (fun o i wq => ∃ k : Nat, k ≤ r.leaks.length ∧ i = .int .i64 k ∧ wq.ownsRow w3.heap.size 3 1 o (idxTo (x1 : Int) k).length ((idxTo (x1 : Int) k).map (Value.int .i64)) ∧ Below w3.heap.size w3 wq) (fun _ i _ => r.leaks.length - (intOf i).toNat)
      case atStart => exact ⟨0, Nat.zero_le _, rfl, World.ownsRow_nil _ _ _ _, Below.refl _ _⟩
      case round =>
        obtain ⟨k, hk, rfl, hown, hB⟩ := hrel
        have hBz := hB.size
        have hQ5 := q_on hQ hB
        have hx := HC.out _ hQ5
        by_cases hlt : k < r.leaks.length
        · have hy := Lib.hid (idxTo_yes (b := (x1 : Int)) (j := k))
          have hn := Lib.hid (idxTo_no (b := (x1 : Int)) (j := k))
          have hpl := IL.out k
          generalize hL : idxTo (x1 : Int) k = L at hown hy hn hpl
          clear hL
          cases hbit : bitB (x1 : Int) k
          · have hs0 := shr_no (by omega) hbit
            go_wp2
            go_roundw
            case rel => exact ⟨k + 1, by omega, by go_num, by rw [hn.out hbit]; exact hown, hB⟩
            case measure => simp [intOf]; omega
          · have hs1 := shr_yes (by omega) hbit
            go_wp2_with (at_builtin; go_must (refine wpList_app (.tmp 61) (.tmp 63) E_int rfl rfl rfl rfl w3.heap.size L.length 1 (L.map (Value.int .i64)) [.int .i64 (k : Int)] (hown.alloc _) (SrcAt.one _ _ _ rfl) (by omega) (by decide) (by simp; omega) ?_; intro v2 w8 ho2 hg2 _; (have hb2 := app_next hB (Nat.le_refl _) (Nat.le_refl _) hown hg2); clear hg2; simp only [Act.put, List.setIfInBounds_toArray, List.set_cons_succ, List.set_cons_zero]))
            go_roundw
            case rel => exact ⟨k + 1, by omega, by go_num, by rw [hy.out hbit]; simpa using ho2, hb2⟩
            case measure => simp [intOf]; omega
        · obtain rfl : k = r.leaks.length := by omega
          rw [hOO.out] at hown
          obtain ⟨b3, c3, rfl, o3, i3⟩ := ints_ownV hown
          replace rT := rT.mono hB
          replace hQ := hQ5
          clear hQ5 hB hBz hk hlt hOO
          have hol := o3.len
          rcases hO.out with ⟨l, hcu, hli, hso, hfe, hke⟩ | ⟨hcu, hso, hke⟩
          · clear hO
            have hr := Lib.hid (rising_incr hli)
            have hll := incr_len hli
            obtain ⟨can, hcan⟩ : ∃ b, C O = b := ⟨_, rfl⟩
            have KL : Hid (∀ (ar : Option Addr) (cr : Nat) (W : World) (h : RoomC W a1 (some ⟨bk, ok, none⟩) a3 a4 a5 k1 k2 k3 k4 k5 r) (h1 : SlOk ar (LO l).length cr) (h2 : RowsC W ar (LO l)), Calls Try.prog 50 #[.agg #[.slice a1 r.writers.length k1, .slice (some ⟨bk, ok, none⟩) r.kept.length k2, .slice a3 r.leaks.length k3, .slice a4 r.letters.length k4, .slice a5 r.heard.length k5], .slice a4 r.letters.length k4, .slice ar (LO l).length cr, .int .i64 (s : Int)] W (fun e w' => e = .returned (.bool true) ∧ Below W.heap.size W w')) := Lib.hid (fun ar cr W h h1 h2 => by have := KP.out ar cr l W h h1 h2; rwa [hso] at this)
            replace hcu := Lib.hid hcu
            replace hfe := Lib.hid hfe
            replace hke := Lib.hid hke
            clear hli hso
            have KO : Hid (∀ (ar : Option Addr) (cr : Nat) (W : World) (h : RoomC W a1 (some ⟨bk, ok, none⟩) a3 a4 a5 k1 k2 k3 k4 k5 r) (h1 : SlOk ar (LO O).length cr) (h2 : RowsC W ar (LO O)), Calls Try.prog 50 #[.agg #[.slice a1 r.writers.length k1, .slice (some ⟨bk, ok, none⟩) r.kept.length k2, .slice a3 r.leaks.length k3, .slice a4 r.letters.length k4, .slice a5 r.heard.length k5], .slice a4 r.letters.length k4, .slice ar (LO O).length cr, .int .i64 (s : Int)] W (fun e w' => e = .returned (.bool can) ∧ Below W.heap.size W w')) := Lib.hid (fun ar cr W h h1 h2 => by have := KP.out ar cr O W h h1 h2; rwa [hcan] at this)
            replace hcan := Lib.hid hcan
            clear KP
            go_upto_region 13 with (go_at_call 32; (with_reducible refine (A_Cut _ _ _ _ _ _ _ _ _ _ r (s : Int) l 0 hcu.out _ (M.out _ hQ)).mono ?_); rintro e w6 ⟨b1, c1, rfl, o1, i1, hb⟩; replace i3 := i3.mono hb; replace rT := rT.mono hb; replace hQ := q_on hQ hb; replace hx := HC.out _ hQ; dsimp only)
            have HS := Lib.hid (fun (V : World) (h : Below w6.heap.size w6 V) => (show (fun V => Below w6.heap.size w6 V ∧ V.cell? ⟨w.heap.size, 0, none⟩ = some (.slice a1 r.writers.length k1) ∧ V.cell? ⟨w.heap.size, 1, none⟩ = some (.slice (some ⟨bk, ok, none⟩) r.kept.length k2) ∧ V.cell? ⟨w.heap.size, 2, none⟩ = some (.slice a3 r.leaks.length k3) ∧ V.cell? ⟨w.heap.size, 3, none⟩ = some (.slice a4 r.letters.length k4) ∧ V.cell? ⟨w.heap.size, 4, none⟩ = some (.slice a5 r.heard.length k5) ∧ w.heap.size < V.heap.size) V by obtain ⟨j0, j1, j2, j3, j4, -, -, j5, -⟩ := HC.out _ (q_on hQ h); exact ⟨h, j0, j1, j2, j3, j4, j5⟩))
            have hg0 := below_drew' (Below.refl w6.heap.size w6)
            go_region_held3 (fun V => Below w6.heap.size w6 V ∧ V.cell? ⟨w.heap.size, 0, none⟩ = some (.slice a1 r.writers.length k1) ∧ V.cell? ⟨w.heap.size, 1, none⟩ = some (.slice (some ⟨bk, ok, none⟩) r.kept.length k2) ∧ V.cell? ⟨w.heap.size, 2, none⟩ = some (.slice a3 r.leaks.length k3) ∧ V.cell? ⟨w.heap.size, 3, none⟩ = some (.slice a4 r.letters.length k4) ∧ V.cell? ⟨w.heap.size, 4, none⟩ = some (.slice a5 r.heard.length k5) ∧ w.heap.size < V.heap.size) (first | exact HS.out _ (by assumption)) (first
              | (go_at_call 50; (with_reducible refine (KO.out a9 c9 _ (M.out _ (q_on hQ hg7)) o9 r9).mono ?_); rintro e w8 ⟨rfl, hb⟩; have hg8 : Below w6.heap.size w6 w8 := q_on hg7 hb; dsimp only)
              | (go_at_call 52; (with_reducible refine (LE.out aT _ cT _ O _ oT (rT.mono (And.left (by assumption))) o3 (i3.mono (And.left (by assumption)))).mono ?_); rintro e w7 ⟨v, rfl, ⟨a9, c9, rfl, o9, r9⟩, hb⟩; have hg7 : Below w6.heap.size w6 w7 := q_on (And.left (by assumption)) hb; dsimp only))
            replace i1 := i1.mono hg8
            replace i3 := i3.mono hg8
            replace rT := rT.mono hg8
            replace hQ := q_on hQ hg8
            clear HS hg0 hg7 hg8 r9 o9 KO
            have hx := HC.out _ hQ
            go_wp2
            go_loopw [14, 15, 16, 17, 18] (fun b i d1 d2 d3 wr => ∃ k : Nat, k ≤ r.writers.length ∧ i = .int .i64 k ∧ b = .bool (G k) ∧ Below w8.heap.size w8 wr) (fun _ i _ _ _ _ => r.writers.length - (intOf i).toNat)
            case atStart => exact ⟨0, Nat.zero_le _, rfl, by rw [K0.out], Below.refl _ _⟩
            case round =>
              obtain ⟨k, hk, rfl, rfl, hB⟩ := hrel
              have hBz := hB.size
              replace hQ := q_on hQ hB
              have hx := HC.out _ hQ
              replace i1 := i1.mono hB
              replace i3 := i3.mono hB
              replace rT := rT.mono hB
              by_cases hlt : k < r.writers.length
              · have hsc := SC.out k
                obtain ⟨lo, hi, how, hsi⟩ := SI.out k hlt
                rw [hsi] at hsc
                have h3 := since_lit _ _ _ hsi
                generalize hbi : bitB (kn : Int) k = bi at hsc
                generalize G k = g at hsc
                generalize hg2 : G (k + 1) = g2 at hsc
                have hck := hck2.out _ (hwX.trans (hQ.mono hwX.size))
                have hzk := lt_of_cell hck
                replace hg2 := Lib.hid hg2
                replace hsc := Lib.hid hsc
                replace hsi := Lib.hid hsi
                replace hbi := Lib.hid hbi
                clear i1 i3 rT
                have hsl2 : (s : Int) < (r.kept.length : Int) := by omega
                cases g
                all_goals
                  first
                    | (go_wp2_with ((go_at_call 18; (with_reducible refine (A_Since _ _ _ _ _ _ _ _ _ _ r (k : Int) (s : Int) lo hi _ 0 hsi.out _ (M.out _ hQ)).mono ?_); rintro e w20 ⟨rfl, hb⟩; replace hB := q_on hB hb; replace hck := cell_below hb hck; replace hQ := q_on hQ hb; replace hx := HC.out _ hQ; replace hb := al_on w20 (.cells #[.int .i64 lo, .int .i64 hi] 34); replace hB := q_on hB hb; replace hck := cell_below hb hck; replace hzk := lt_of_cell hck; replace hQ := q_on hQ hb; replace hx := HC.out _ hQ; dsimp only))
                       go_roundw
                       case rel => exact ⟨k + 1, by omega, by go_num, by rw [hg2.out, hsc.out]; rfl, hB⟩
                       case measure => simp [intOf]; omega)
                    | (cases bi
                       · go_wp2_with (first
                           | (go_at_call 18; (with_reducible refine (A_Since _ _ _ _ _ _ _ _ _ _ r (k : Int) (s : Int) lo hi _ 0 hsi.out _ (M.out _ hQ)).mono ?_); rintro e w20 ⟨rfl, hb⟩; replace hB := q_on hB hb; replace hck := cell_below hb hck; replace hQ := q_on hQ hb; replace hx := HC.out _ hQ; replace hb := al_on w20 (.cells #[.int .i64 lo, .int .i64 hi] 34); replace hB := q_on hB hb; replace hck := cell_below hb hck; replace hzk := lt_of_cell hck; replace hQ := q_on hQ hb; replace hx := HC.out _ hQ; dsimp only)
                           | (go_at_call 53; (with_reducible refine (Bit_is kn k _ _ hbi.out (by omega) (by omega)).mono ?_); rintro e w21 ⟨rfl, rfl⟩; dsimp only))
                         go_roundw
                         case rel => exact ⟨k + 1, by omega, by go_num, by rw [hg2.out, hsc.out]; rfl, hB⟩
                         case measure => simp [intOf]; omega
                       · rcases h3 with rfl | rfl | rfl
                         all_goals
                           go_wp2_with (first
                             | (go_at_call 18; (with_reducible refine (A_Since _ _ _ _ _ _ _ _ _ _ r (k : Int) (s : Int) lo hi _ 0 hsi.out _ (M.out _ hQ)).mono ?_); rintro e w20 ⟨rfl, hb⟩; replace hB := q_on hB hb; replace hck := cell_below hb hck; replace hQ := q_on hQ hb; replace hx := HC.out _ hQ; replace hb := al_on w20 (.cells #[.int .i64 lo, .int .i64 hi] 34); replace hB := q_on hB hb; replace hck := cell_below hb hck; replace hzk := lt_of_cell hck; replace hQ := q_on hQ hb; replace hx := HC.out _ hQ; dsimp only)
                             | (go_at_call 53; (with_reducible refine (Bit_is kn k _ _ hbi.out (by omega) (by omega)).mono ?_); rintro e w21 ⟨rfl, rfl⟩; dsimp only))
                           go_roundw
                           case rel => exact ⟨k + 1, by omega, by go_num, by rw [hg2.out, hsc.out]; rfl, hB⟩
                           case measure => simp [intOf]; omega)
              · obtain rfl : k = r.writers.length := by omega
                have l1w := o1.len
                have hp := hke.out
                by_cases hl0 : l.length = 0
                all_goals
                  first
                    | (have hG : G r.writers.length = true := hp.trans (decide_eq_true hl0); have hl1 := eqi_t (show (l.length : Int) = 0 by omega))
                    | (have hG : G r.writers.length = false := hp.trans (decide_eq_false hl0); have hl1 := eqi_f (show (l.length : Int) ≠ 0 by omega))
                  rw [hG]
                  clear hp hke hl0 hG SC SI K0
                  go_upto_region 24 with (fail)
                  have HS := Lib.hid (fun (V : World) (h : Below wr.heap.size wr V) => (show (fun V => Below wr.heap.size wr V ∧ V.cell? ⟨w.heap.size, 0, none⟩ = some (.slice a1 r.writers.length k1) ∧ V.cell? ⟨w.heap.size, 1, none⟩ = some (.slice (some ⟨bk, ok, none⟩) r.kept.length k2) ∧ V.cell? ⟨w.heap.size, 2, none⟩ = some (.slice a3 r.leaks.length k3) ∧ V.cell? ⟨w.heap.size, 3, none⟩ = some (.slice a4 r.letters.length k4) ∧ V.cell? ⟨w.heap.size, 4, none⟩ = some (.slice a5 r.heard.length k5) ∧ w.heap.size < V.heap.size) V by obtain ⟨j0, j1, j2, j3, j4, -, -, j5, -⟩ := HC.out _ (q_on hQ h); exact ⟨h, j0, j1, j2, j3, j4, j5⟩))
                  have hB := below_drew' (Below.refl wr.heap.size wr)
                  cases can
                  · as_aux_lemma =>
                    refine wp_region_held_drew (S := (fun V => Below wr.heap.size wr V ∧ V.cell? ⟨w.heap.size, 0, none⟩ = some (.slice a1 r.writers.length k1) ∧ V.cell? ⟨w.heap.size, 1, none⟩ = some (.slice (some ⟨bk, ok, none⟩) r.kept.length k2) ∧ V.cell? ⟨w.heap.size, 2, none⟩ = some (.slice a3 r.leaks.length k3) ∧ V.cell? ⟨w.heap.size, 3, none⟩ = some (.slice a4 r.letters.length k4) ∧ V.cell? ⟨w.heap.size, 4, none⟩ = some (.slice a5 r.heard.length k5) ∧ w.heap.size < V.heap.size)) (by kernel_rfl) (HS.out _ hB) (fun hHeld => ?_)
                    (refine wpAnyH_take (i := 0) (v := ?_) rfl (by kernel_rfl) (by kernel_rfl) (by kernel_rfl) (fun _ _ _ h => h) (Or.inl ⟨by kernel_rfl, ?_⟩) (by assumption) ?_; rotate_left 1; (focus (intro w hSw; (try dsimp only at hSw); go_simp; first | done | with_reducible rfl)); simp only [Act.put, List.getElem_toArray, List.getElem_cons_succ, List.getElem_cons_zero, List.setIfInBounds_toArray, List.set_cons_succ, List.set_cons_zero])
                    (refine wpAnyH_take (i := 1) (v := ?_) rfl (by kernel_rfl) (by kernel_rfl) (by kernel_rfl) (fun _ _ _ h => h) (Or.inl ⟨by kernel_rfl, ?_⟩) (by assumption) ?_; rotate_left 1; (focus (intro w hSw; (try dsimp only at hSw); go_simp; first | done | with_reducible rfl)); simp only [Act.put, List.getElem_toArray, List.getElem_cons_succ, List.getElem_cons_zero, List.setIfInBounds_toArray, List.set_cons_succ, List.set_cons_zero])
                    (refine wpAnyH_take (i := 2) (v := ?_) rfl (by kernel_rfl) (by kernel_rfl) (by kernel_rfl) (fun _ _ _ h => h) (Or.inl ⟨by kernel_rfl, ?_⟩) (by assumption) ?_; rotate_left 1; (focus (intro w hSw; (try dsimp only at hSw); go_simp; first | done | with_reducible rfl)); simp only [Act.put, List.getElem_toArray, List.getElem_cons_succ, List.getElem_cons_zero, List.setIfInBounds_toArray, List.set_cons_succ, List.set_cons_zero])
                    (refine wpAnyH_take (i := 3) (v := ?_) rfl (by kernel_rfl) (by kernel_rfl) (by kernel_rfl) (fun _ _ _ h => h) (Or.inl ⟨by kernel_rfl, ?_⟩) (by assumption) ?_; rotate_left 1; (focus (intro w hSw; (try dsimp only at hSw); go_simp; first | done | with_reducible rfl)); simp only [Act.put, List.getElem_toArray, List.getElem_cons_succ, List.getElem_cons_zero, List.setIfInBounds_toArray, List.set_cons_succ, List.set_cons_zero])
                    (refine wpAnyH_ready (rs := [4]) (by kernel_rfl) (by simp) ?_; refine AllReadyH.cons rfl (fun K hK => ?_) AllReadyH.nil; go_simp)
                    go_wp2_with (go_at_call 42; go_must (refine (Rising_yes _ _ _ _ _ hr.out o1.len (i1.mono hB)).mono ?_; rintro e w5 ⟨rfl, rfl⟩; dsimp only))
                    refine hK.out _ _ (HS.out _ hB) (fun hHeld => ?_)
                    (try simp only [Act.put, List.getElem_toArray, List.getElem_cons_succ, List.getElem_cons_zero, List.setIfInBounds_toArray, List.set_cons_succ, List.set_cons_zero])
                    clear hK
                    (refine wpAnyH_take (i := 5) (v := ?_) rfl (by kernel_rfl) (by kernel_rfl) (by kernel_rfl) (fun _ _ _ h => h) (Or.inl ⟨by kernel_rfl, ?_⟩) (by assumption) ?_; rotate_left 1; (focus (intro w hSw; (try dsimp only at hSw); go_simp; first | done | with_reducible rfl)); simp only [Act.put, List.getElem_toArray, List.getElem_cons_succ, List.getElem_cons_zero, List.setIfInBounds_toArray, List.set_cons_succ, List.set_cons_zero])
                    (refine wpAnyH_take (i := 6) (v := ?_) rfl (by kernel_rfl) (by kernel_rfl) (by kernel_rfl) (fun _ _ _ h => h) (Or.inl ⟨by kernel_rfl, ?_⟩) (by assumption) ?_; rotate_left 1; (focus (intro w hSw; (try dsimp only at hSw); go_simp; first | done | with_reducible rfl)); simp only [Act.put, List.getElem_toArray, List.getElem_cons_succ, List.getElem_cons_zero, List.setIfInBounds_toArray, List.set_cons_succ, List.set_cons_zero])
                    (refine wpAnyH_take (i := 7) (v := ?_) rfl (by kernel_rfl) (by kernel_rfl) (by kernel_rfl) (fun _ _ _ h => h) (Or.inl ⟨by kernel_rfl, ?_⟩) (by assumption) ?_; rotate_left 1; (focus (intro w hSw; (try dsimp only at hSw); go_simp; first | done | with_reducible rfl)); simp only [Act.put, List.getElem_toArray, List.getElem_cons_succ, List.getElem_cons_zero, List.setIfInBounds_toArray, List.set_cons_succ, List.set_cons_zero])
                    (refine wpAnyH_take (i := 8) (v := ?_) rfl (by kernel_rfl) (by kernel_rfl) (by kernel_rfl) (fun _ _ _ h => h) (Or.inl ⟨by kernel_rfl, ?_⟩) (by assumption) ?_; rotate_left 1; (focus (intro w hSw; (try dsimp only at hSw); go_simp; first | done | with_reducible rfl)); simp only [Act.put, List.getElem_toArray, List.getElem_cons_succ, List.getElem_cons_zero, List.setIfInBounds_toArray, List.set_cons_succ, List.set_cons_zero])
                    (refine wpAnyH_take (i := 9) (v := ?_) rfl (by kernel_rfl) (by kernel_rfl) (by kernel_rfl) (fun _ _ _ h => h) (Or.inl ⟨by kernel_rfl, ?_⟩) (by assumption) ?_; rotate_left 1; (focus (intro w hSw; (try dsimp only at hSw); go_simp; first | done | with_reducible rfl)); simp only [Act.put, List.getElem_toArray, List.getElem_cons_succ, List.getElem_cons_zero, List.setIfInBounds_toArray, List.set_cons_succ, List.set_cons_zero])
                    (refine wpAnyH_take (i := 10) (v := ?_) rfl (by kernel_rfl) (by kernel_rfl) (by kernel_rfl) (fun _ _ _ h => h) (Or.inl ⟨by kernel_rfl, ?_⟩) (by assumption) ?_; rotate_left 1; (focus (intro w hSw; (try dsimp only at hSw); go_simp; first | done | with_reducible rfl)); simp only [Act.put, List.getElem_toArray, List.getElem_cons_succ, List.getElem_cons_zero, List.setIfInBounds_toArray, List.set_cons_succ, List.set_cons_zero])
                    (refine wpAnyH_take (i := 12) (v := ?_) rfl (by kernel_rfl) (by kernel_rfl) (by kernel_rfl) (fun _ _ _ h => h) (Or.inl ⟨by kernel_rfl, ?_⟩) (by assumption) ?_; rotate_left 1; (focus (intro w hSw; (try dsimp only at hSw); go_simp; first | done | with_reducible rfl)); simp only [Act.put, List.getElem_toArray, List.getElem_cons_succ, List.getElem_cons_zero, List.setIfInBounds_toArray, List.set_cons_succ, List.set_cons_zero])
                    (refine wpAnyH_ready (rs := [11]) (by kernel_rfl) (by simp) ?_; refine AllReadyH.cons rfl (fun K hK => ?_) AllReadyH.nil; go_simp)
                    go_wp2_with (go_at_call 52; go_must (refine (LE.out aT _ cT _ l _ oT (rT.mono hB) o1 (i1.mono hB)).mono ?_; rintro e w9 ⟨v, rfl, ⟨a8, c8, rfl, o8, r8⟩, hb⟩; dsimp only))
                    replace hB := q_on hB hb
                    clear hb
                    refine hK.out _ _ (HS.out _ hB) (fun hHeld => ?_)
                    (try simp only [Act.put, List.getElem_toArray, List.getElem_cons_succ, List.getElem_cons_zero, List.setIfInBounds_toArray, List.set_cons_succ, List.set_cons_zero])
                    clear hK
                    (refine wpAnyH_ready (rs := [13]) (by kernel_rfl) (by simp) ?_; refine AllReadyH.cons rfl (fun K hK => ?_) AllReadyH.nil; go_simp)
                    go_wp2_with (go_at_call 50; go_must (refine (KL.out a8 c8 _ (M.out _ (q_on hQ hB)) o8 r8).mono ?_; rintro e w10 ⟨rfl, hb⟩; dsimp only))
                    replace hB := q_on hB hb
                    clear hb
                    refine hK.out _ _ (HS.out _ hB) (fun hHeld => ?_)
                    (try simp only [Act.put, List.getElem_toArray, List.getElem_cons_succ, List.getElem_cons_zero, List.setIfInBounds_toArray, List.set_cons_succ, List.set_cons_zero])
                    clear hK
                    (refine wpAnyH_take (i := 14) (v := ?_) rfl (by kernel_rfl) (by kernel_rfl) (by kernel_rfl) (fun _ _ _ h => h) (Or.inl ⟨by kernel_rfl, ?_⟩) (by assumption) ?_; rotate_left 1; (focus (intro w hSw; (try dsimp only at hSw); go_simp; first | done | with_reducible rfl)); simp only [Act.put, List.getElem_toArray, List.getElem_cons_succ, List.getElem_cons_zero, List.setIfInBounds_toArray, List.set_cons_succ, List.set_cons_zero])
                    (refine wpAnyH_take (i := 15) (v := ?_) rfl (by kernel_rfl) (by kernel_rfl) (by kernel_rfl) (fun _ _ _ h => h) (Or.inl ⟨by kernel_rfl, ?_⟩) (by assumption) ?_; rotate_left 1; (focus (intro w hSw; (try dsimp only at hSw); go_simp; first | done | with_reducible rfl)); simp only [Act.put, List.getElem_toArray, List.getElem_cons_succ, List.getElem_cons_zero, List.setIfInBounds_toArray, List.set_cons_succ, List.set_cons_zero])
                    (refine wpAnyH_take (i := 16) (v := ?_) rfl (by kernel_rfl) (by kernel_rfl) (by kernel_rfl) (fun _ _ _ h => h) (Or.inl ⟨by kernel_rfl, ?_⟩) (by assumption) ?_; rotate_left 1; (focus (intro w hSw; (try dsimp only at hSw); go_simp; first | done | with_reducible rfl)); simp only [Act.put, List.getElem_toArray, List.getElem_cons_succ, List.getElem_cons_zero, List.setIfInBounds_toArray, List.set_cons_succ, List.set_cons_zero])
                    (refine wpAnyH_take (i := 17) (v := ?_) rfl (by kernel_rfl) (by kernel_rfl) (by kernel_rfl) (fun _ _ _ h => h) (Or.inl ⟨by kernel_rfl, ?_⟩) (by assumption) ?_; rotate_left 1; (focus (intro w hSw; (try dsimp only at hSw); go_simp; first | done | with_reducible rfl)); simp only [Act.put, List.getElem_toArray, List.getElem_cons_succ, List.getElem_cons_zero, List.setIfInBounds_toArray, List.set_cons_succ, List.set_cons_zero])
                    (refine wpAnyH_take (i := 18) (v := ?_) rfl (by kernel_rfl) (by kernel_rfl) (by kernel_rfl) (fun _ _ _ h => h) (Or.inl ⟨by kernel_rfl, ?_⟩) (by assumption) ?_; rotate_left 1; (focus (intro w hSw; (try dsimp only at hSw); go_simp; first | done | with_reducible rfl)); simp only [Act.put, List.getElem_toArray, List.getElem_cons_succ, List.getElem_cons_zero, List.setIfInBounds_toArray, List.set_cons_succ, List.set_cons_zero])
                    (refine wpAnyH_take (i := 19) (v := undef) rfl (by kernel_rfl) (by kernel_rfl) (by kernel_rfl) (fun _ _ _ h => h) (Or.inr ⟨by kernel_rfl, rfl⟩) (by assumption) ?_; simp only [Act.put, List.getElem_toArray, List.getElem_cons_succ, List.getElem_cons_zero, List.setIfInBounds_toArray, List.set_cons_succ, List.set_cons_zero])
                    (refine wpAnyH_take (i := 20) (v := undef) rfl (by kernel_rfl) (by kernel_rfl) (by kernel_rfl) (fun _ _ _ h => h) (Or.inr ⟨by kernel_rfl, rfl⟩) (by assumption) ?_; simp only [Act.put, List.getElem_toArray, List.getElem_cons_succ, List.getElem_cons_zero, List.setIfInBounds_toArray, List.set_cons_succ, List.set_cons_zero])
                    (refine wpAnyH_take (i := 21) (v := undef) rfl (by kernel_rfl) (by kernel_rfl) (by kernel_rfl) (fun _ _ _ h => h) (Or.inr ⟨by kernel_rfl, rfl⟩) (by assumption) ?_; simp only [Act.put, List.getElem_toArray, List.getElem_cons_succ, List.getElem_cons_zero, List.setIfInBounds_toArray, List.set_cons_succ, List.set_cons_zero])
                    (refine wpAnyH_take (i := 22) (v := undef) rfl (by kernel_rfl) (by kernel_rfl) (by kernel_rfl) (fun _ _ _ h => h) (Or.inr ⟨by kernel_rfl, rfl⟩) (by assumption) ?_; simp only [Act.put, List.getElem_toArray, List.getElem_cons_succ, List.getElem_cons_zero, List.setIfInBounds_toArray, List.set_cons_succ, List.set_cons_zero])
                    (refine wpAnyH_take (i := 23) (v := ?_) rfl (by kernel_rfl) (by kernel_rfl) (by kernel_rfl) (fun _ _ _ h => h) (Or.inl ⟨by kernel_rfl, ?_⟩) (by assumption) ?_; rotate_left 1; (focus (intro w hSw; (try dsimp only at hSw); go_simp; first | done | with_reducible rfl)); simp only [Act.put, List.getElem_toArray, List.getElem_cons_succ, List.getElem_cons_zero, List.setIfInBounds_toArray, List.set_cons_succ, List.set_cons_zero])
                    (refine wpAnyH_take (i := 24) (v := ?_) rfl (by kernel_rfl) (by kernel_rfl) (by kernel_rfl) (fun _ _ _ h => h) (Or.inl ⟨by kernel_rfl, ?_⟩) (by assumption) ?_; rotate_left 1; (focus (intro w hSw; (try dsimp only at hSw); go_simp; first | done | with_reducible rfl)); simp only [Act.put, List.getElem_toArray, List.getElem_cons_succ, List.getElem_cons_zero, List.setIfInBounds_toArray, List.set_cons_succ, List.set_cons_zero])
                    (refine wpAnyH_take (i := 25) (v := ?_) rfl (by kernel_rfl) (by kernel_rfl) (by kernel_rfl) (fun _ _ _ h => h) (Or.inl ⟨by kernel_rfl, ?_⟩) (by assumption) ?_; rotate_left 1; (focus (intro w hSw; (try dsimp only at hSw); go_simp; first | done | with_reducible rfl)); simp only [Act.put, List.getElem_toArray, List.getElem_cons_succ, List.getElem_cons_zero, List.setIfInBounds_toArray, List.set_cons_succ, List.set_cons_zero])
                    (refine wpAnyH_take (i := 26) (v := ?_) rfl (by kernel_rfl) (by kernel_rfl) (by kernel_rfl) (fun _ _ _ h => h) (Or.inl ⟨by kernel_rfl, ?_⟩) (by assumption) ?_; rotate_left 1; (focus (intro w hSw; (try dsimp only at hSw); go_simp; first | done | with_reducible rfl)); simp only [Act.put, List.getElem_toArray, List.getElem_cons_succ, List.getElem_cons_zero, List.setIfInBounds_toArray, List.set_cons_succ, List.set_cons_zero])
                    (refine wpAnyH_take (i := 27) (v := ?_) rfl (by kernel_rfl) (by kernel_rfl) (by kernel_rfl) (fun _ _ _ h => h) (Or.inl ⟨by kernel_rfl, ?_⟩) (by assumption) ?_; rotate_left 1; (focus (intro w hSw; (try dsimp only at hSw); go_simp; first | done | with_reducible rfl)); simp only [Act.put, List.getElem_toArray, List.getElem_cons_succ, List.getElem_cons_zero, List.setIfInBounds_toArray, List.set_cons_succ, List.set_cons_zero])
                    (refine wpAnyH_take (i := 28) (v := ?_) rfl (by kernel_rfl) (by kernel_rfl) (by kernel_rfl) (fun _ _ _ h => h) (Or.inl ⟨by kernel_rfl, ?_⟩) (by assumption) ?_; rotate_left 1; (focus (intro w hSw; (try dsimp only at hSw); go_simp; first | done | with_reducible rfl)); simp only [Act.put, List.getElem_toArray, List.getElem_cons_succ, List.getElem_cons_zero, List.setIfInBounds_toArray, List.set_cons_succ, List.set_cons_zero])
                    (refine wpAnyH_take (i := 29) (v := ?_) rfl (by kernel_rfl) (by kernel_rfl) (by kernel_rfl) (fun _ _ _ h => h) (Or.inl ⟨by kernel_rfl, ?_⟩) (by assumption) ?_; rotate_left 1; (focus (intro w hSw; (try dsimp only at hSw); go_simp; first | done | with_reducible rfl)); simp only [Act.put, List.getElem_toArray, List.getElem_cons_succ, List.getElem_cons_zero, List.setIfInBounds_toArray, List.set_cons_succ, List.set_cons_zero])
                    (refine wpAnyH_take (i := 30) (v := ?_) rfl (by kernel_rfl) (by kernel_rfl) (by kernel_rfl) (fun _ _ _ h => h) (Or.inl ⟨by kernel_rfl, ?_⟩) (by assumption) ?_; rotate_left 1; (focus (intro w hSw; (try dsimp only at hSw); go_simp; first | done | with_reducible rfl)); simp only [Act.put, List.getElem_toArray, List.getElem_cons_succ, List.getElem_cons_zero, List.setIfInBounds_toArray, List.set_cons_succ, List.set_cons_zero])
                    (refine wpAnyH_take (i := 31) (v := ?_) rfl (by kernel_rfl) (by kernel_rfl) (by kernel_rfl) (fun _ _ _ h => h) (Or.inl ⟨by kernel_rfl, ?_⟩) (by assumption) ?_; rotate_left 1; (focus (intro w hSw; (try dsimp only at hSw); go_simp; first | done | with_reducible rfl)); simp only [Act.put, List.getElem_toArray, List.getElem_cons_succ, List.getElem_cons_zero, List.setIfInBounds_toArray, List.set_cons_succ, List.set_cons_zero])
                    (refine wpAnyH_take (i := 32) (v := ?_) rfl (by kernel_rfl) (by kernel_rfl) (by kernel_rfl) (fun _ _ _ h => h) (Or.inl ⟨by kernel_rfl, ?_⟩) (by assumption) ?_; rotate_left 1; (focus (intro w hSw; (try dsimp only at hSw); go_simp; first | done | with_reducible rfl)); simp only [Act.put, List.getElem_toArray, List.getElem_cons_succ, List.getElem_cons_zero, List.setIfInBounds_toArray, List.set_cons_succ, List.set_cons_zero])
                    (refine wpAnyH_ready (rs := [33]) (by kernel_rfl) (by simp) ?_; refine AllReadyH.cons rfl (fun K hK => ?_) AllReadyH.nil; go_simp)
                    go_wp2_with (go_at_call 22; go_must (refine (Awake_any _).mono ?_; rintro e w12 ⟨rfl, hb⟩; dsimp only))
                    replace hB := q_on hB hb
                    clear hb
                    refine hK.out _ _ (HS.out _ hB) (fun hHeld => ?_)
                    (try simp only [Act.put, List.getElem_toArray, List.getElem_cons_succ, List.getElem_cons_zero, List.setIfInBounds_toArray, List.set_cons_succ, List.set_cons_zero])
                    clear hK
                    (refine wpAnyH_take (i := 34) (v := ?_) rfl (by kernel_rfl) (by kernel_rfl) (by kernel_rfl) (fun _ _ _ h => h) (Or.inl ⟨by kernel_rfl, ?_⟩) (by assumption) ?_; rotate_left 1; (focus (intro w hSw; (try dsimp only at hSw); go_simp; first | done | with_reducible rfl)); simp only [Act.put, List.getElem_toArray, List.getElem_cons_succ, List.getElem_cons_zero, List.setIfInBounds_toArray, List.set_cons_succ, List.set_cons_zero])
                    (refine wpAnyH_take (i := 35) (v := ?_) rfl (by kernel_rfl) (by kernel_rfl) (by kernel_rfl) (fun _ _ _ h => h) (Or.inl ⟨by kernel_rfl, ?_⟩) (by assumption) ?_; rotate_left 1; (focus (intro w hSw; (try dsimp only at hSw); go_simp; first | done | with_reducible rfl)); simp only [Act.put, List.getElem_toArray, List.getElem_cons_succ, List.getElem_cons_zero, List.setIfInBounds_toArray, List.set_cons_succ, List.set_cons_zero])
                    refine wpAnyH_done (by kernel_rfl) ?_ _
                    go_wp2
                    go_ret
                    exact ⟨rfl, hwX.trans ((q_on hQ hB).mono hwX.size)⟩
                  · have hf := Lib.hid (hfe.out hcan.out)
                    as_aux_lemma =>
                    refine wp_region_held_drew (S := (fun V => Below wr.heap.size wr V ∧ V.cell? ⟨w.heap.size, 0, none⟩ = some (.slice a1 r.writers.length k1) ∧ V.cell? ⟨w.heap.size, 1, none⟩ = some (.slice (some ⟨bk, ok, none⟩) r.kept.length k2) ∧ V.cell? ⟨w.heap.size, 2, none⟩ = some (.slice a3 r.leaks.length k3) ∧ V.cell? ⟨w.heap.size, 3, none⟩ = some (.slice a4 r.letters.length k4) ∧ V.cell? ⟨w.heap.size, 4, none⟩ = some (.slice a5 r.heard.length k5) ∧ w.heap.size < V.heap.size)) (by kernel_rfl) (HS.out _ hB) (fun hHeld => ?_)
                    (refine wpAnyH_take (i := 0) (v := ?_) rfl (by kernel_rfl) (by kernel_rfl) (by kernel_rfl) (fun _ _ _ h => h) (Or.inl ⟨by kernel_rfl, ?_⟩) (by assumption) ?_; rotate_left 1; (focus (intro w hSw; (try dsimp only at hSw); go_simp; first | done | with_reducible rfl)); simp only [Act.put, List.getElem_toArray, List.getElem_cons_succ, List.getElem_cons_zero, List.setIfInBounds_toArray, List.set_cons_succ, List.set_cons_zero])
                    (refine wpAnyH_take (i := 1) (v := ?_) rfl (by kernel_rfl) (by kernel_rfl) (by kernel_rfl) (fun _ _ _ h => h) (Or.inl ⟨by kernel_rfl, ?_⟩) (by assumption) ?_; rotate_left 1; (focus (intro w hSw; (try dsimp only at hSw); go_simp; first | done | with_reducible rfl)); simp only [Act.put, List.getElem_toArray, List.getElem_cons_succ, List.getElem_cons_zero, List.setIfInBounds_toArray, List.set_cons_succ, List.set_cons_zero])
                    (refine wpAnyH_take (i := 2) (v := ?_) rfl (by kernel_rfl) (by kernel_rfl) (by kernel_rfl) (fun _ _ _ h => h) (Or.inl ⟨by kernel_rfl, ?_⟩) (by assumption) ?_; rotate_left 1; (focus (intro w hSw; (try dsimp only at hSw); go_simp; first | done | with_reducible rfl)); simp only [Act.put, List.getElem_toArray, List.getElem_cons_succ, List.getElem_cons_zero, List.setIfInBounds_toArray, List.set_cons_succ, List.set_cons_zero])
                    (refine wpAnyH_take (i := 3) (v := ?_) rfl (by kernel_rfl) (by kernel_rfl) (by kernel_rfl) (fun _ _ _ h => h) (Or.inl ⟨by kernel_rfl, ?_⟩) (by assumption) ?_; rotate_left 1; (focus (intro w hSw; (try dsimp only at hSw); go_simp; first | done | with_reducible rfl)); simp only [Act.put, List.getElem_toArray, List.getElem_cons_succ, List.getElem_cons_zero, List.setIfInBounds_toArray, List.set_cons_succ, List.set_cons_zero])
                    (refine wpAnyH_ready (rs := [4]) (by kernel_rfl) (by simp) ?_; refine AllReadyH.cons rfl (fun K hK => ?_) AllReadyH.nil; go_simp)
                    go_wp2_with (go_at_call 42; go_must (refine (Rising_yes _ _ _ _ _ hr.out o1.len (i1.mono hB)).mono ?_; rintro e w5 ⟨rfl, rfl⟩; dsimp only))
                    refine hK.out _ _ (HS.out _ hB) (fun hHeld => ?_)
                    (try simp only [Act.put, List.getElem_toArray, List.getElem_cons_succ, List.getElem_cons_zero, List.setIfInBounds_toArray, List.set_cons_succ, List.set_cons_zero])
                    clear hK
                    (refine wpAnyH_take (i := 5) (v := ?_) rfl (by kernel_rfl) (by kernel_rfl) (by kernel_rfl) (fun _ _ _ h => h) (Or.inl ⟨by kernel_rfl, ?_⟩) (by assumption) ?_; rotate_left 1; (focus (intro w hSw; (try dsimp only at hSw); go_simp; first | done | with_reducible rfl)); simp only [Act.put, List.getElem_toArray, List.getElem_cons_succ, List.getElem_cons_zero, List.setIfInBounds_toArray, List.set_cons_succ, List.set_cons_zero])
                    (refine wpAnyH_take (i := 6) (v := ?_) rfl (by kernel_rfl) (by kernel_rfl) (by kernel_rfl) (fun _ _ _ h => h) (Or.inl ⟨by kernel_rfl, ?_⟩) (by assumption) ?_; rotate_left 1; (focus (intro w hSw; (try dsimp only at hSw); go_simp; first | done | with_reducible rfl)); simp only [Act.put, List.getElem_toArray, List.getElem_cons_succ, List.getElem_cons_zero, List.setIfInBounds_toArray, List.set_cons_succ, List.set_cons_zero])
                    (refine wpAnyH_take (i := 7) (v := ?_) rfl (by kernel_rfl) (by kernel_rfl) (by kernel_rfl) (fun _ _ _ h => h) (Or.inl ⟨by kernel_rfl, ?_⟩) (by assumption) ?_; rotate_left 1; (focus (intro w hSw; (try dsimp only at hSw); go_simp; first | done | with_reducible rfl)); simp only [Act.put, List.getElem_toArray, List.getElem_cons_succ, List.getElem_cons_zero, List.setIfInBounds_toArray, List.set_cons_succ, List.set_cons_zero])
                    (refine wpAnyH_take (i := 8) (v := ?_) rfl (by kernel_rfl) (by kernel_rfl) (by kernel_rfl) (fun _ _ _ h => h) (Or.inl ⟨by kernel_rfl, ?_⟩) (by assumption) ?_; rotate_left 1; (focus (intro w hSw; (try dsimp only at hSw); go_simp; first | done | with_reducible rfl)); simp only [Act.put, List.getElem_toArray, List.getElem_cons_succ, List.getElem_cons_zero, List.setIfInBounds_toArray, List.set_cons_succ, List.set_cons_zero])
                    (refine wpAnyH_take (i := 9) (v := ?_) rfl (by kernel_rfl) (by kernel_rfl) (by kernel_rfl) (fun _ _ _ h => h) (Or.inl ⟨by kernel_rfl, ?_⟩) (by assumption) ?_; rotate_left 1; (focus (intro w hSw; (try dsimp only at hSw); go_simp; first | done | with_reducible rfl)); simp only [Act.put, List.getElem_toArray, List.getElem_cons_succ, List.getElem_cons_zero, List.setIfInBounds_toArray, List.set_cons_succ, List.set_cons_zero])
                    (refine wpAnyH_take (i := 10) (v := ?_) rfl (by kernel_rfl) (by kernel_rfl) (by kernel_rfl) (fun _ _ _ h => h) (Or.inl ⟨by kernel_rfl, ?_⟩) (by assumption) ?_; rotate_left 1; (focus (intro w hSw; (try dsimp only at hSw); go_simp; first | done | with_reducible rfl)); simp only [Act.put, List.getElem_toArray, List.getElem_cons_succ, List.getElem_cons_zero, List.setIfInBounds_toArray, List.set_cons_succ, List.set_cons_zero])
                    (refine wpAnyH_take (i := 12) (v := ?_) rfl (by kernel_rfl) (by kernel_rfl) (by kernel_rfl) (fun _ _ _ h => h) (Or.inl ⟨by kernel_rfl, ?_⟩) (by assumption) ?_; rotate_left 1; (focus (intro w hSw; (try dsimp only at hSw); go_simp; first | done | with_reducible rfl)); simp only [Act.put, List.getElem_toArray, List.getElem_cons_succ, List.getElem_cons_zero, List.setIfInBounds_toArray, List.set_cons_succ, List.set_cons_zero])
                    (refine wpAnyH_ready (rs := [11]) (by kernel_rfl) (by simp) ?_; refine AllReadyH.cons rfl (fun K hK => ?_) AllReadyH.nil; go_simp)
                    go_wp2_with (go_at_call 52; go_must (refine (LE.out aT _ cT _ l _ oT (rT.mono hB) o1 (i1.mono hB)).mono ?_; rintro e w9 ⟨v, rfl, ⟨a8, c8, rfl, o8, r8⟩, hb⟩; dsimp only))
                    replace hB := q_on hB hb
                    clear hb
                    refine hK.out _ _ (HS.out _ hB) (fun hHeld => ?_)
                    (try simp only [Act.put, List.getElem_toArray, List.getElem_cons_succ, List.getElem_cons_zero, List.setIfInBounds_toArray, List.set_cons_succ, List.set_cons_zero])
                    clear hK
                    (refine wpAnyH_ready (rs := [13]) (by kernel_rfl) (by simp) ?_; refine AllReadyH.cons rfl (fun K hK => ?_) AllReadyH.nil; go_simp)
                    go_wp2_with (go_at_call 50; go_must (refine (KL.out a8 c8 _ (M.out _ (q_on hQ hB)) o8 r8).mono ?_; rintro e w10 ⟨rfl, hb⟩; dsimp only))
                    replace hB := q_on hB hb
                    clear hb
                    refine hK.out _ _ (HS.out _ hB) (fun hHeld => ?_)
                    (try simp only [Act.put, List.getElem_toArray, List.getElem_cons_succ, List.getElem_cons_zero, List.setIfInBounds_toArray, List.set_cons_succ, List.set_cons_zero])
                    clear hK
                    (refine wpAnyH_take (i := 14) (v := ?_) rfl (by kernel_rfl) (by kernel_rfl) (by kernel_rfl) (fun _ _ _ h => h) (Or.inl ⟨by kernel_rfl, ?_⟩) (by assumption) ?_; rotate_left 1; (focus (intro w hSw; (try dsimp only at hSw); go_simp; first | done | with_reducible rfl)); simp only [Act.put, List.getElem_toArray, List.getElem_cons_succ, List.getElem_cons_zero, List.setIfInBounds_toArray, List.set_cons_succ, List.set_cons_zero])
                    (refine wpAnyH_take (i := 15) (v := ?_) rfl (by kernel_rfl) (by kernel_rfl) (by kernel_rfl) (fun _ _ _ h => h) (Or.inl ⟨by kernel_rfl, ?_⟩) (by assumption) ?_; rotate_left 1; (focus (intro w hSw; (try dsimp only at hSw); go_simp; first | done | with_reducible rfl)); simp only [Act.put, List.getElem_toArray, List.getElem_cons_succ, List.getElem_cons_zero, List.setIfInBounds_toArray, List.set_cons_succ, List.set_cons_zero])
                    (refine wpAnyH_take (i := 16) (v := ?_) rfl (by kernel_rfl) (by kernel_rfl) (by kernel_rfl) (fun _ _ _ h => h) (Or.inl ⟨by kernel_rfl, ?_⟩) (by assumption) ?_; rotate_left 1; (focus (intro w hSw; (try dsimp only at hSw); go_simp; first | done | with_reducible rfl)); simp only [Act.put, List.getElem_toArray, List.getElem_cons_succ, List.getElem_cons_zero, List.setIfInBounds_toArray, List.set_cons_succ, List.set_cons_zero])
                    (refine wpAnyH_take (i := 17) (v := ?_) rfl (by kernel_rfl) (by kernel_rfl) (by kernel_rfl) (fun _ _ _ h => h) (Or.inl ⟨by kernel_rfl, ?_⟩) (by assumption) ?_; rotate_left 1; (focus (intro w hSw; (try dsimp only at hSw); go_simp; first | done | with_reducible rfl)); simp only [Act.put, List.getElem_toArray, List.getElem_cons_succ, List.getElem_cons_zero, List.setIfInBounds_toArray, List.set_cons_succ, List.set_cons_zero])
                    (refine wpAnyH_take (i := 18) (v := ?_) rfl (by kernel_rfl) (by kernel_rfl) (by kernel_rfl) (fun _ _ _ h => h) (Or.inl ⟨by kernel_rfl, ?_⟩) (by assumption) ?_; rotate_left 1; (focus (intro w hSw; (try dsimp only at hSw); go_simp; first | done | with_reducible rfl)); simp only [Act.put, List.getElem_toArray, List.getElem_cons_succ, List.getElem_cons_zero, List.setIfInBounds_toArray, List.set_cons_succ, List.set_cons_zero])
                    (refine wpAnyH_take (i := 19) (v := ?_) rfl (by kernel_rfl) (by kernel_rfl) (by kernel_rfl) (fun _ _ _ h => h) (Or.inl ⟨by kernel_rfl, ?_⟩) (by assumption) ?_; rotate_left 1; (focus (intro w hSw; (try dsimp only at hSw); go_simp; first | done | with_reducible rfl)); simp only [Act.put, List.getElem_toArray, List.getElem_cons_succ, List.getElem_cons_zero, List.setIfInBounds_toArray, List.set_cons_succ, List.set_cons_zero])
                    (refine wpAnyH_take (i := 20) (v := ?_) rfl (by kernel_rfl) (by kernel_rfl) (by kernel_rfl) (fun _ _ _ h => h) (Or.inl ⟨by kernel_rfl, ?_⟩) (by assumption) ?_; rotate_left 1; (focus (intro w hSw; (try dsimp only at hSw); go_simp; first | done | with_reducible rfl)); simp only [Act.put, List.getElem_toArray, List.getElem_cons_succ, List.getElem_cons_zero, List.setIfInBounds_toArray, List.set_cons_succ, List.set_cons_zero])
                    (refine wpAnyH_ready (rs := [21]) (by kernel_rfl) (by simp) ?_; refine AllReadyH.cons rfl (fun K hK => ?_) AllReadyH.nil; go_simp)
                    go_wp2_with (go_at_call 45; go_must (refine (Fewer_no _ _ _ _ _ _ _ hf.out o3.len o1.len (i3.mono hB) (i1.mono hB)).mono ?_; rintro e w11 ⟨rfl, hb⟩; dsimp only))
                    replace hB := q_on hB hb
                    clear hb
                    refine hK.out _ _ (HS.out _ hB) (fun hHeld => ?_)
                    (try simp only [Act.put, List.getElem_toArray, List.getElem_cons_succ, List.getElem_cons_zero, List.setIfInBounds_toArray, List.set_cons_succ, List.set_cons_zero])
                    clear hK
                    (refine wpAnyH_take (i := 22) (v := ?_) rfl (by kernel_rfl) (by kernel_rfl) (by kernel_rfl) (fun _ _ _ h => h) (Or.inl ⟨by kernel_rfl, ?_⟩) (by assumption) ?_; rotate_left 1; (focus (intro w hSw; (try dsimp only at hSw); go_simp; first | done | with_reducible rfl)); simp only [Act.put, List.getElem_toArray, List.getElem_cons_succ, List.getElem_cons_zero, List.setIfInBounds_toArray, List.set_cons_succ, List.set_cons_zero])
                    (refine wpAnyH_take (i := 23) (v := ?_) rfl (by kernel_rfl) (by kernel_rfl) (by kernel_rfl) (fun _ _ _ h => h) (Or.inl ⟨by kernel_rfl, ?_⟩) (by assumption) ?_; rotate_left 1; (focus (intro w hSw; (try dsimp only at hSw); go_simp; first | done | with_reducible rfl)); simp only [Act.put, List.getElem_toArray, List.getElem_cons_succ, List.getElem_cons_zero, List.setIfInBounds_toArray, List.set_cons_succ, List.set_cons_zero])
                    (refine wpAnyH_take (i := 24) (v := ?_) rfl (by kernel_rfl) (by kernel_rfl) (by kernel_rfl) (fun _ _ _ h => h) (Or.inl ⟨by kernel_rfl, ?_⟩) (by assumption) ?_; rotate_left 1; (focus (intro w hSw; (try dsimp only at hSw); go_simp; first | done | with_reducible rfl)); simp only [Act.put, List.getElem_toArray, List.getElem_cons_succ, List.getElem_cons_zero, List.setIfInBounds_toArray, List.set_cons_succ, List.set_cons_zero])
                    (refine wpAnyH_take (i := 25) (v := ?_) rfl (by kernel_rfl) (by kernel_rfl) (by kernel_rfl) (fun _ _ _ h => h) (Or.inl ⟨by kernel_rfl, ?_⟩) (by assumption) ?_; rotate_left 1; (focus (intro w hSw; (try dsimp only at hSw); go_simp; first | done | with_reducible rfl)); simp only [Act.put, List.getElem_toArray, List.getElem_cons_succ, List.getElem_cons_zero, List.setIfInBounds_toArray, List.set_cons_succ, List.set_cons_zero])
                    (refine wpAnyH_take (i := 26) (v := ?_) rfl (by kernel_rfl) (by kernel_rfl) (by kernel_rfl) (fun _ _ _ h => h) (Or.inl ⟨by kernel_rfl, ?_⟩) (by assumption) ?_; rotate_left 1; (focus (intro w hSw; (try dsimp only at hSw); go_simp; first | done | with_reducible rfl)); simp only [Act.put, List.getElem_toArray, List.getElem_cons_succ, List.getElem_cons_zero, List.setIfInBounds_toArray, List.set_cons_succ, List.set_cons_zero])
                    (refine wpAnyH_take (i := 27) (v := ?_) rfl (by kernel_rfl) (by kernel_rfl) (by kernel_rfl) (fun _ _ _ h => h) (Or.inl ⟨by kernel_rfl, ?_⟩) (by assumption) ?_; rotate_left 1; (focus (intro w hSw; (try dsimp only at hSw); go_simp; first | done | with_reducible rfl)); simp only [Act.put, List.getElem_toArray, List.getElem_cons_succ, List.getElem_cons_zero, List.setIfInBounds_toArray, List.set_cons_succ, List.set_cons_zero])
                    (refine wpAnyH_take (i := 28) (v := ?_) rfl (by kernel_rfl) (by kernel_rfl) (by kernel_rfl) (fun _ _ _ h => h) (Or.inl ⟨by kernel_rfl, ?_⟩) (by assumption) ?_; rotate_left 1; (focus (intro w hSw; (try dsimp only at hSw); go_simp; first | done | with_reducible rfl)); simp only [Act.put, List.getElem_toArray, List.getElem_cons_succ, List.getElem_cons_zero, List.setIfInBounds_toArray, List.set_cons_succ, List.set_cons_zero])
                    (refine wpAnyH_take (i := 29) (v := ?_) rfl (by kernel_rfl) (by kernel_rfl) (by kernel_rfl) (fun _ _ _ h => h) (Or.inl ⟨by kernel_rfl, ?_⟩) (by assumption) ?_; rotate_left 1; (focus (intro w hSw; (try dsimp only at hSw); go_simp; first | done | with_reducible rfl)); simp only [Act.put, List.getElem_toArray, List.getElem_cons_succ, List.getElem_cons_zero, List.setIfInBounds_toArray, List.set_cons_succ, List.set_cons_zero])
                    (refine wpAnyH_take (i := 30) (v := ?_) rfl (by kernel_rfl) (by kernel_rfl) (by kernel_rfl) (fun _ _ _ h => h) (Or.inl ⟨by kernel_rfl, ?_⟩) (by assumption) ?_; rotate_left 1; (focus (intro w hSw; (try dsimp only at hSw); go_simp; first | done | with_reducible rfl)); simp only [Act.put, List.getElem_toArray, List.getElem_cons_succ, List.getElem_cons_zero, List.setIfInBounds_toArray, List.set_cons_succ, List.set_cons_zero])
                    (refine wpAnyH_take (i := 31) (v := ?_) rfl (by kernel_rfl) (by kernel_rfl) (by kernel_rfl) (fun _ _ _ h => h) (Or.inl ⟨by kernel_rfl, ?_⟩) (by assumption) ?_; rotate_left 1; (focus (intro w hSw; (try dsimp only at hSw); go_simp; first | done | with_reducible rfl)); simp only [Act.put, List.getElem_toArray, List.getElem_cons_succ, List.getElem_cons_zero, List.setIfInBounds_toArray, List.set_cons_succ, List.set_cons_zero])
                    (refine wpAnyH_take (i := 32) (v := ?_) rfl (by kernel_rfl) (by kernel_rfl) (by kernel_rfl) (fun _ _ _ h => h) (Or.inl ⟨by kernel_rfl, ?_⟩) (by assumption) ?_; rotate_left 1; (focus (intro w hSw; (try dsimp only at hSw); go_simp; first | done | with_reducible rfl)); simp only [Act.put, List.getElem_toArray, List.getElem_cons_succ, List.getElem_cons_zero, List.setIfInBounds_toArray, List.set_cons_succ, List.set_cons_zero])
                    (refine wpAnyH_ready (rs := [33]) (by kernel_rfl) (by simp) ?_; refine AllReadyH.cons rfl (fun K hK => ?_) AllReadyH.nil; go_simp)
                    go_wp2_with (go_at_call 22; go_must (refine (Awake_any _).mono ?_; rintro e w12 ⟨rfl, hb⟩; dsimp only))
                    replace hB := q_on hB hb
                    clear hb
                    refine hK.out _ _ (HS.out _ hB) (fun hHeld => ?_)
                    (try simp only [Act.put, List.getElem_toArray, List.getElem_cons_succ, List.getElem_cons_zero, List.setIfInBounds_toArray, List.set_cons_succ, List.set_cons_zero])
                    clear hK
                    (refine wpAnyH_take (i := 34) (v := ?_) rfl (by kernel_rfl) (by kernel_rfl) (by kernel_rfl) (fun _ _ _ h => h) (Or.inl ⟨by kernel_rfl, ?_⟩) (by assumption) ?_; rotate_left 1; (focus (intro w hSw; (try dsimp only at hSw); go_simp; first | done | with_reducible rfl)); simp only [Act.put, List.getElem_toArray, List.getElem_cons_succ, List.getElem_cons_zero, List.setIfInBounds_toArray, List.set_cons_succ, List.set_cons_zero])
                    (refine wpAnyH_take (i := 35) (v := ?_) rfl (by kernel_rfl) (by kernel_rfl) (by kernel_rfl) (fun _ _ _ h => h) (Or.inl ⟨by kernel_rfl, ?_⟩) (by assumption) ?_; rotate_left 1; (focus (intro w hSw; (try dsimp only at hSw); go_simp; first | done | with_reducible rfl)); simp only [Act.put, List.getElem_toArray, List.getElem_cons_succ, List.getElem_cons_zero, List.setIfInBounds_toArray, List.set_cons_succ, List.set_cons_zero])
                    refine wpAnyH_done (by kernel_rfl) ?_ _
                    go_wp2
                    go_ret
                    exact ⟨rfl, hwX.trans ((q_on hQ hB).mono hwX.size)⟩
          · clear hO
            obtain ⟨can, hcan⟩ : ∃ b, C O = b := ⟨_, rfl⟩
            obtain rfl : can = false := hcan.symm.trans hso
            replace hcu := Lib.hid hcu
            replace hke := Lib.hid hke
            clear hso
            have KO : Hid (∀ (ar : Option Addr) (cr : Nat) (W : World) (h : RoomC W a1 (some ⟨bk, ok, none⟩) a3 a4 a5 k1 k2 k3 k4 k5 r) (h1 : SlOk ar (LO O).length cr) (h2 : RowsC W ar (LO O)), Calls Try.prog 50 #[.agg #[.slice a1 r.writers.length k1, .slice (some ⟨bk, ok, none⟩) r.kept.length k2, .slice a3 r.leaks.length k3, .slice a4 r.letters.length k4, .slice a5 r.heard.length k5], .slice a4 r.letters.length k4, .slice ar (LO O).length cr, .int .i64 (s : Int)] W (fun e w' => e = .returned (.bool false) ∧ Below W.heap.size W w')) := Lib.hid (fun ar cr W h h1 h2 => by have := KP.out ar cr O W h h1 h2; rwa [hcan] at this)
            replace hcan := Lib.hid hcan
            clear KP
            go_upto_region 13 with (go_at_call 32; (with_reducible refine (A_Cut _ _ _ _ _ _ _ _ _ _ r (s : Int) [] 9 hcu.out _ (M.out _ hQ)).mono ?_); rintro e w6 ⟨b1, c1, rfl, o1, i1, hb⟩; replace i3 := i3.mono hb; replace rT := rT.mono hb; replace hQ := q_on hQ hb; replace hx := HC.out _ hQ; dsimp only [List.length_nil])
            have HS := Lib.hid (fun (V : World) (h : Below w6.heap.size w6 V) => (show (fun V => Below w6.heap.size w6 V ∧ V.cell? ⟨w.heap.size, 0, none⟩ = some (.slice a1 r.writers.length k1) ∧ V.cell? ⟨w.heap.size, 1, none⟩ = some (.slice (some ⟨bk, ok, none⟩) r.kept.length k2) ∧ V.cell? ⟨w.heap.size, 2, none⟩ = some (.slice a3 r.leaks.length k3) ∧ V.cell? ⟨w.heap.size, 3, none⟩ = some (.slice a4 r.letters.length k4) ∧ V.cell? ⟨w.heap.size, 4, none⟩ = some (.slice a5 r.heard.length k5) ∧ w.heap.size < V.heap.size) V by obtain ⟨j0, j1, j2, j3, j4, -, -, j5, -⟩ := HC.out _ (q_on hQ h); exact ⟨h, j0, j1, j2, j3, j4, j5⟩))
            have hg0 := below_drew' (Below.refl w6.heap.size w6)
            go_region_held3 (fun V => Below w6.heap.size w6 V ∧ V.cell? ⟨w.heap.size, 0, none⟩ = some (.slice a1 r.writers.length k1) ∧ V.cell? ⟨w.heap.size, 1, none⟩ = some (.slice (some ⟨bk, ok, none⟩) r.kept.length k2) ∧ V.cell? ⟨w.heap.size, 2, none⟩ = some (.slice a3 r.leaks.length k3) ∧ V.cell? ⟨w.heap.size, 3, none⟩ = some (.slice a4 r.letters.length k4) ∧ V.cell? ⟨w.heap.size, 4, none⟩ = some (.slice a5 r.heard.length k5) ∧ w.heap.size < V.heap.size) (first | exact HS.out _ (by assumption)) (first
              | (go_at_call 50; (with_reducible refine (KO.out a9 c9 _ (M.out _ (q_on hQ hg7)) o9 r9).mono ?_); rintro e w8 ⟨rfl, hb⟩; have hg8 : Below w6.heap.size w6 w8 := q_on hg7 hb; dsimp only)
              | (go_at_call 52; (with_reducible refine (LE.out aT _ cT _ O _ oT (rT.mono (And.left (by assumption))) o3 (i3.mono (And.left (by assumption)))).mono ?_); rintro e w7 ⟨v, rfl, ⟨a9, c9, rfl, o9, r9⟩, hb⟩; have hg7 : Below w6.heap.size w6 w7 := q_on (And.left (by assumption)) hb; dsimp only))
            replace i1 := i1.mono hg8
            replace i3 := i3.mono hg8
            replace rT := rT.mono hg8
            replace hQ := q_on hQ hg8
            clear HS hg0 hg7 hg8 r9 o9 KO
            have hx := HC.out _ hQ
            go_wp2
            go_loopw [14, 15, 16, 17, 18] (fun b i d1 d2 d3 wr => ∃ k : Nat, k ≤ r.writers.length ∧ i = .int .i64 k ∧ b = .bool (G k) ∧ Below w8.heap.size w8 wr) (fun _ i _ _ _ _ => r.writers.length - (intOf i).toNat)
            case atStart => exact ⟨0, Nat.zero_le _, rfl, by rw [K0.out], Below.refl _ _⟩
            case round =>
              obtain ⟨k, hk, rfl, rfl, hB⟩ := hrel
              have hBz := hB.size
              replace hQ := q_on hQ hB
              have hx := HC.out _ hQ
              replace i1 := i1.mono hB
              replace i3 := i3.mono hB
              replace rT := rT.mono hB
              by_cases hlt : k < r.writers.length
              · have hsc := SC.out k
                obtain ⟨lo, hi, how, hsi⟩ := SI.out k hlt
                rw [hsi] at hsc
                have h3 := since_lit _ _ _ hsi
                generalize hbi : bitB (kn : Int) k = bi at hsc
                generalize G k = g at hsc
                generalize hg2 : G (k + 1) = g2 at hsc
                have hck := hck2.out _ (hwX.trans (hQ.mono hwX.size))
                have hzk := lt_of_cell hck
                replace hg2 := Lib.hid hg2
                replace hsc := Lib.hid hsc
                replace hsi := Lib.hid hsi
                replace hbi := Lib.hid hbi
                clear i1 i3 rT
                have hsl2 : (s : Int) < (r.kept.length : Int) := by omega
                cases g
                all_goals
                  first
                    | (go_wp2_with ((go_at_call 18; (with_reducible refine (A_Since _ _ _ _ _ _ _ _ _ _ r (k : Int) (s : Int) lo hi _ 0 hsi.out _ (M.out _ hQ)).mono ?_); rintro e w20 ⟨rfl, hb⟩; replace hB := q_on hB hb; replace hck := cell_below hb hck; replace hQ := q_on hQ hb; replace hx := HC.out _ hQ; replace hb := al_on w20 (.cells #[.int .i64 lo, .int .i64 hi] 34); replace hB := q_on hB hb; replace hck := cell_below hb hck; replace hzk := lt_of_cell hck; replace hQ := q_on hQ hb; replace hx := HC.out _ hQ; dsimp only))
                       go_roundw
                       case rel => exact ⟨k + 1, by omega, by go_num, by rw [hg2.out, hsc.out]; rfl, hB⟩
                       case measure => simp [intOf]; omega)
                    | (cases bi
                       · go_wp2_with (first
                           | (go_at_call 18; (with_reducible refine (A_Since _ _ _ _ _ _ _ _ _ _ r (k : Int) (s : Int) lo hi _ 0 hsi.out _ (M.out _ hQ)).mono ?_); rintro e w20 ⟨rfl, hb⟩; replace hB := q_on hB hb; replace hck := cell_below hb hck; replace hQ := q_on hQ hb; replace hx := HC.out _ hQ; replace hb := al_on w20 (.cells #[.int .i64 lo, .int .i64 hi] 34); replace hB := q_on hB hb; replace hck := cell_below hb hck; replace hzk := lt_of_cell hck; replace hQ := q_on hQ hb; replace hx := HC.out _ hQ; dsimp only)
                           | (go_at_call 53; (with_reducible refine (Bit_is kn k _ _ hbi.out (by omega) (by omega)).mono ?_); rintro e w21 ⟨rfl, rfl⟩; dsimp only))
                         go_roundw
                         case rel => exact ⟨k + 1, by omega, by go_num, by rw [hg2.out, hsc.out]; rfl, hB⟩
                         case measure => simp [intOf]; omega
                       · rcases h3 with rfl | rfl | rfl
                         all_goals
                           go_wp2_with (first
                             | (go_at_call 18; (with_reducible refine (A_Since _ _ _ _ _ _ _ _ _ _ r (k : Int) (s : Int) lo hi _ 0 hsi.out _ (M.out _ hQ)).mono ?_); rintro e w20 ⟨rfl, hb⟩; replace hB := q_on hB hb; replace hck := cell_below hb hck; replace hQ := q_on hQ hb; replace hx := HC.out _ hQ; replace hb := al_on w20 (.cells #[.int .i64 lo, .int .i64 hi] 34); replace hB := q_on hB hb; replace hck := cell_below hb hck; replace hzk := lt_of_cell hck; replace hQ := q_on hQ hb; replace hx := HC.out _ hQ; dsimp only)
                             | (go_at_call 53; (with_reducible refine (Bit_is kn k _ _ hbi.out (by omega) (by omega)).mono ?_); rintro e w21 ⟨rfl, rfl⟩; dsimp only))
                           go_roundw
                           case rel => exact ⟨k + 1, by omega, by go_num, by rw [hg2.out, hsc.out]; rfl, hB⟩
                           case measure => simp [intOf]; omega)
              · obtain rfl : k = r.writers.length := by omega
                have l1w := o1.len
                have hG := hke.out
                rw [hG]
                clear hke hG SC SI K0
                go_wp2_with (go_at_call 22; (with_reducible refine (Awake_any _).mono ?_); rintro e w12 ⟨rfl, hb⟩; replace hQ := q_on hQ hb; replace hx := HC.out _ hQ; dsimp only)
                go_ret
                exact ⟨rfl, hwX.trans (hQ.mono hwX.size)⟩
  · have hs := Bool.eq_false_iff.2 hs
    replace hs := Lib.hid hs
    obtain ⟨e0, hc, he0⟩ := cut_none (r := r) (s := 0) (.inl hs.out)
    replace hc := Lib.hid hc
    have hne := nei_t he0
    clear he0
    go_enter Try.func13, Try.ntmps13
    go_upto_region 1 with (fail)
    rw [← hX]
    clear hX
    go_wp2_with (first
      | (go_at_call 22; (with_reducible refine (Awake_any _).mono ?_); rintro e w4 ⟨rfl, hb⟩; replace hQ := q_on hQ hb; replace hx := HC.out _ hQ; dsimp only)
      | (go_at_call 32; (with_reducible refine (A_Cut _ _ _ _ _ _ _ _ _ _ r 0 [] e0 hc.out _ (M.out _ hQ)).mono ?_); rintro e w3 ⟨b1, c1, rfl, o1, i1, hb⟩; replace hQ := q_on hQ hb; replace hx := HC.out _ hQ; dsimp only [List.length_nil])
      | (go_at_call 43; (with_reducible refine (Some_is _ _ _ _ _ _ _ _ _ _ r false hs.out _ (M.out _ hQ)).mono ?_); rintro e w2 ⟨rfl, hb⟩; replace hQ := q_on hQ hb; replace hx := HC.out _ hQ; dsimp only))
    go_ret
    exact ⟨rfl, hwX.trans (hQ.mono hwX.size)⟩
end Go.Proofs.Ytmhbjohpggghgaa
