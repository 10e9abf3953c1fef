/- What is proved here: the walk of SecretTrue: it returns true, and turns nothing that was there. Conditions: the room lies in memory. -/
import Derived.Test.YtmhbjohpggghgaaSwB
import Derived.Test.YtmhbjohpggghgaaSw5
import Derived.Test.YtmhbjohpggghgaaSw3
set_option linter.unusedVariables false
set_option linter.unusedSimpArgs false
namespace Go.Proofs.Ytmhbjohpggghgaa
open Go Go.RowKit
theorem inB_yes {n lo hi : Int} (h1 : lo ≤ n) (h2 : n ≤ hi) : inB n lo hi = true := by unfold inB; simp [h1, h2]
set_option maxRecDepth 100000 in
set_option maxHeartbeats 16000000 in
theorem SecretTrue_walk (a1 a2 a3 a4 a5 : Option Addr) (k1 k2 k3 k4 k5 : Nat) (r : SeRoom) (x0 x1 : Nat) (g0 : x0 ≤ 255) (g1 : x1 ≤ 255) (w : World) (hm : RoomC w a1 a2 a3 a4 a5 k1 k2 k3 k4 k5 r) : Calls Try.prog 8 #[(.agg #[.slice a1 r.writers.length k1, .slice a2 r.kept.length k2, .slice a3 r.leaks.length k3, .slice a4 r.letters.length k4, .slice a5 r.heard.length k5]), .agg #[.int .u8 (x0 : Int), .int .u8 (x1 : Int)]] w fun e w' => e = .returned (.bool true) ∧ Below w.heap.size w w' := by
  obtain ⟨X, hX⟩ : ∃ X : World, X = ((w.alloc (.cells #[.slice a1 r.writers.length k1, .slice a2 r.kept.length k2, .slice a3 r.leaks.length k3, .slice a4 r.letters.length k4, .slice a5 r.heard.length k5] 28)).alloc (.cells #[.int .u8 (x0 : Int), .int .u8 (x1 : Int)] 52)) := ⟨_, rfl⟩
  have hwX : Below w.heap.size w X := by rw [hX]; exact (by (repeat' (first | assumption | exact Below.refl _ _ | refine below_drew' ?_ | refine Below.setCell ?_ (by first | omega | (simp <;> omega)) _ | refine Below.alloc ?_ (by first | omega | (simp <;> omega)) _)))
  have g1 : X.heap[w.heap.size]? = some (.cells #[.slice a1 r.writers.length k1, .slice a2 r.kept.length k2, .slice a3 r.leaks.length k3, .slice a4 r.letters.length k4, .slice a5 r.heard.length k5] 28 (0, 0)) := by rw [hX]; (repeat' (first | exact alloc_at _ _ (by simp) | refine (heap_alloc_old _ _ (by first | omega | (simp <;> omega))).trans ?_))
  have g2 : X.heap[w.heap.size + 1]? = some (.cells #[.int .u8 (x0 : Int), .int .u8 (x1 : Int)] 52 (0, 0)) := by rw [hX]; (repeat' (first | exact alloc_at _ _ (by simp) | refine (heap_alloc_old _ _ (by first | omega | (simp <;> omega))).trans ?_))
  replace g1 := fun (V : World) (h : Below X.heap.size X V) => (h.block _ (lt_of_block g1)).trans g1
  replace g2 := fun (V : World) (h : Below X.heap.size X V) => (h.block _ (lt_of_block g2)).trans g2
  have HC : Hid (∀ V, Below X.heap.size X V → (V.cell? ⟨w.heap.size, 0, none⟩ = some (.slice a1 r.writers.length k1) ∧ V.cell? ⟨w.heap.size, 1, none⟩ = some (.slice a2 r.kept.length k2) ∧ V.cell? ⟨w.heap.size, 2, none⟩ = some (.slice a3 r.leaks.length k3) ∧ V.cell? ⟨w.heap.size, 3, none⟩ = some (.slice a4 r.letters.length k4) ∧ V.cell? ⟨w.heap.size, 4, none⟩ = some (.slice a5 r.heard.length k5) ∧ V.cell? ⟨w.heap.size + 1, 0, none⟩ = some (.int .u8 (x0 : Int)) ∧ V.cell? ⟨w.heap.size + 1, 1, none⟩ = some (.int .u8 (x1 : Int)) ∧ w.heap.size < V.heap.size ∧ w.heap.size + 1 < V.heap.size)) := Lib.hid (fun V h => ⟨blk_cell 0 (g1 V h) rfl, blk_cell 1 (g1 V h) rfl, blk_cell 2 (g1 V h) rfl, blk_cell 3 (g1 V h) rfl, blk_cell 4 (g1 V h) rfl, blk_cell 0 (g2 V h) rfl, blk_cell 1 (g2 V h) rfl, lt_of_block (g1 V h), lt_of_block (g2 V h)⟩)
  have M := Lib.hid (fun (V : World) (h : Below X.heap.size X V) => (hm.mono hwX).mono h)
  clear g1 g2
  have hQ := Below.refl X.heap.size X
  have hx := HC.out _ hQ
  by_cases he : seErr r = 0
  · have hv : decide (seErr r = 0) = true := decide_eq_true he
    have hpos : 0 < (seSets r).length := sets_pos r r.leaks.length
    have hxn := Nat.mod_lt x0 hpos
    obtain ⟨l, hl0⟩ : ∃ l, (seSets r)[x0 % (seSets r).length]? = some l := ⟨_, List.getElem?_eq_getElem hxn⟩
    have hl : l ∈ seSets r := List.mem_of_getElem? hl0
    have hlb : ∀ x ∈ l, 0 ≤ x ∧ x < (r.leaks.length : Int) := setsTo_bd r r.leaks.length l hl
    have HE := fun (W : World) (h : RoomC W a1 a2 a3 a4 a5 k1 k2 k3 k4 k5 r) => Heard_any a1 a2 a3 a4 a5 k1 k2 k3 k4 k5 r x0 g0 l hl0 W h he
    have HW := some_wrong (hearAs_some he hl)
    have TT := fun (i : Nat) (hi : i < r.leaks.length) => true_told he hl hi
    obtain ⟨d, hd⟩ : ∃ d : Nat, d = x1 % 10 := ⟨_, rfl⟩
    have hd9 : d ≤ 9 := by omega
    have fd : (x1 : Int) % 10 = (d : Int) := by omega
    have TK := fun (u s : Nat) (hu : u < r.writers.length) (hs : s < r.kept.length) => true_knows he hl hu hs hd9
    have TS := fun (u s : Nat) (hu : u < r.writers.length) (hs : s < r.kept.length) => true_since he hl hu hs
    have hvK := seValid_of (hearAs_err he l)
    have vk := (seValid_of he).nk
    have DY : ∀ (b5 al : Option Addr) (d5 cl u s : Nat) (W : World) (h : RoomC W a1 a2 a3 a4 b5 k1 k2 k3 k4 d5 (hearAs r l)) (ho : SlOk al l.length cl) (hi : IntsC W al l) (hu : u < r.writers.length) (hs : s < r.kept.length), Calls Try.prog 40 #[.agg #[.slice a1 r.writers.length k1, .slice a2 r.kept.length k2, .slice a3 r.leaks.length k3, .slice a4 r.letters.length k4, .slice b5 (hearAs r l).heard.length d5], .slice al l.length cl, .int .i64 (u : Int), .int .i64 (s : Int)] W fun e w' => e = .returned (.int .i64 (dayOf r l u s)) ∧ Below W.heap.size W w' :=
      fun b5 al d5 cl u s W h ho hi hu hs => RDay_any a1 a2 a3 a4 b5 k1 k2 k3 k4 d5 (hearAs r l) al l cl u s W h hvK ho hi hlb hu (by omega)
    have l1 := hm.ok1.len
    have l2 := hm.ok2.len
    have l3 := hm.ok3.len
    have hL : Lens (hearAs r l) r.writers.length r.kept.length r.leaks.length r.letters.length (hearAs r l).heard.length := ⟨rfl, rfl, rfl, rfl, rfl⟩
    generalize hearAs r l = K at HE HW TT TK TS DY hvK hL
    generalize dayOf r l = f at TK TS DY
    replace TT := Lib.hid TT
    replace TK := Lib.hid TK
    replace TS := Lib.hid TS
    replace DY := Lib.hid DY
    replace HE := Lib.hid HE
    replace HW := Lib.hid HW
    replace hv := Lib.hid hv
    clear hl hl0 hlb hpos hxn hd he vk hvK
    go_enter Try.func8, Try.ntmps8
    go_upto_region 1 with (fail)
    rw [← hX]
    clear hX
    go_upto_region 5 with (first
      | (go_at_call 38; (with_reducible refine (HE.out _ (M.out _ hQ)).mono ?_); rintro e w4 ⟨b5, d5, al, cl, rfl, mK, ol, il, hb⟩; replace hQ := q_on hQ hb; replace hx := HC.out _ hQ; dsimp only)
      | (go_at_call 37; (with_reducible refine (Valid_is _ _ _ _ _ _ _ _ _ _ r true hv.out _ (M.out _ hQ)).mono ?_); rintro e w3 ⟨rfl, hb⟩; replace hQ := q_on hQ hb; replace hx := HC.out _ hQ; dsimp only))
    obtain ⟨Z, hZ⟩ : ∃ Z : World, Z = w4.alloc (.cells #[.slice a1 r.writers.length k1, .slice a2 r.kept.length k2, .slice a3 r.leaks.length k3, .slice a4 r.letters.length k4, .slice b5 K.heard.length d5] 28) := ⟨_, rfl⟩
    rw [← hZ]
    have h4Z : Below w4.heap.size w4 Z := by rw [hZ]; exact al_on _ _
    have hZ1 : Z.heap[w4.heap.size]? = some (.cells #[.slice a1 r.writers.length k1, .slice a2 r.kept.length k2, .slice a3 r.leaks.length k3, .slice a4 r.letters.length k4, .slice b5 K.heard.length d5] 28 (0, 0)) := by rw [hZ]; exact alloc_at _ _ rfl
    clear hZ
    have MK := mK.mono h4Z
    replace il := il.mono h4Z
    have hXZ := q_on hQ h4Z
    have HD : Hid (∀ V, Below Z.heap.size Z V → (V.cell? ⟨w4.heap.size, 0, none⟩ = some (.slice a1 r.writers.length k1) ∧ V.cell? ⟨w4.heap.size, 1, none⟩ = some (.slice a2 r.kept.length k2) ∧ V.cell? ⟨w4.heap.size, 2, none⟩ = some (.slice a3 r.leaks.length k3) ∧ V.cell? ⟨w4.heap.size, 3, none⟩ = some (.slice a4 r.letters.length k4) ∧ V.cell? ⟨w4.heap.size, 4, none⟩ = some (.slice b5 K.heard.length d5) ∧ w4.heap.size < V.heap.size ∧ V.cell? ⟨w.heap.size + 1, 0, none⟩ = some (.int .u8 (x0 : Int)) ∧ V.cell? ⟨w.heap.size + 1, 1, none⟩ = some (.int .u8 (x1 : Int)) ∧ w.heap.size + 1 < V.heap.size)) := Lib.hid (fun V h => by
      have v := (h.block _ (lt_of_block hZ1)).trans hZ1
      obtain ⟨-, -, -, -, -, y0, y1, -, y2⟩ := HC.out _ (q_on hXZ h)
      exact ⟨blk_cell 0 v rfl, blk_cell 1 v rfl, blk_cell 2 v rfl, blk_cell 3 v rfl, blk_cell 4 v rfl, lt_of_block v, y0, y1, y2⟩)
    have N := Lib.hid (fun (V : World) (h : Below Z.heap.size Z V) => MK.mono h)
    have I := Lib.hid (fun (V : World) (h : Below Z.heap.size Z V) => il.mono h)
    have hwZ := hwX.trans (hXZ.mono hwX.size)
    clear HC M hZ1 MK mK il h4Z hXZ hQ hx hwX HE hv hb
    have hQ := Below.refl Z.heap.size Z
    have hx := HD.out _ hQ
    go_wp2_with (first
      | (go_at_call 25; (with_reducible refine (C_Wrong _ _ _ _ _ _ _ _ _ _ _ _ _ _ _ K hL [] 0 HW.out _ (N.out _ hQ)).mono ?_); rintro e w5 ⟨b9, c9, rfl, -, -, hb⟩; replace hQ := q_on hQ hb; replace hx := HD.out _ hQ; dsimp only [List.length_nil]))
    (try simp only [fd])
    clear hx fd
    go_loopw [12, 13, 14, 15] (fun i v1 v2 v3 wr => ∃ k : Nat, k ≤ r.leaks.length ∧ i = .int .i64 k ∧ Below w5.heap.size w5 wr) (fun i _ _ _ _ => r.leaks.length - (intOf i).toNat)
    case atStart => exact ⟨0, Nat.zero_le _, rfl, Below.refl _ _⟩
    case round =>
      obtain ⟨k, hk, rfl, hB⟩ := hrel
      replace hQ := q_on hQ hB
      have hx := HD.out _ hQ
      by_cases hlt : k < r.leaks.length
      · obtain ⟨m, e1, h1, h2⟩ := TT.out k hlt
        have hm3 := told_lit _ _ e1
        replace e1 := Lib.hid e1
        cases hb7 : hasB l k
        all_goals
          have hbh := Lib.hid hb7
          rcases hm3 with rfl | rfl | rfl
          all_goals
            first
              | (exact absurd rfl (h1 hb7))
              | (exact absurd rfl (h2 hb7))
              | (clear h1 h2 hb7
                 go_wp2_with (first
                   | (go_at_call 39; (with_reducible refine (Has_is _ _ _ _ _ _ hbh.out ol.len (I.out _ hQ)).mono ?_); rintro e w8 ⟨rfl, rfl⟩; dsimp only)
                   | (go_at_call 23; (with_reducible refine (C_Told _ _ _ _ _ _ _ _ _ _ _ _ _ _ _ K hL (k : Int) _ 0 e1.out _ (N.out _ hQ)).mono ?_); rintro e w7 ⟨rfl, hb⟩; replace hB := q_on hB hb; replace hQ := q_on hQ hb; replace hx := HD.out _ hQ; dsimp only))
                 go_roundw
                 case rel => exact ⟨k + 1, by omega, by go_num, hB⟩
                 case measure => simp [intOf]; omega)
      · obtain rfl : k = r.leaks.length := by omega
        clear hk TT
        rename World => U
        go_wp2
        clear hx
        go_loopw [16, 17, 18, 19, 20, 21, 22, 23] (fun i v1 v2 v3 v4 v5 v6 v7 wr => ∃ k : Nat, k ≤ r.writers.length ∧ i = .int .i64 k ∧ Below U.heap.size U wr) (fun i _ _ _ _ _ _ _ _ => r.writers.length - (intOf i).toNat)
        case atStart => exact ⟨0, Nat.zero_le _, rfl, Below.refl _ _⟩
        case round =>
          clear hB
          obtain ⟨k, hk, rfl, hB⟩ := hrel
          replace hQ := q_on hQ hB
          have hx := HD.out _ hQ
          by_cases hlt : k < r.writers.length
          · go_wp2
            rename World => R
            clear hx
            go_loopw [17, 18, 19, 20, 21, 22, 23] (fun i v2 v3 v4 v5 v6 v7 wr => ∃ j : Nat, j ≤ r.kept.length ∧ i = .int .i64 j ∧ Below R.heap.size R wr) (fun i _ _ _ _ _ _ _ => r.kept.length - (intOf i).toNat)
            case atStart => exact ⟨0, Nat.zero_le _, rfl, Below.refl _ _⟩
            case round =>
              obtain ⟨j, hj, rfl, hC⟩ := hrel
              replace hQ := q_on hQ hC
              have hx := HD.out _ hQ
              by_cases hlt2 : j < r.kept.length
              · obtain ⟨n, e1, h1, h2⟩ := TK.out k j hlt hlt2
                obtain ⟨lo, hi, how, e2, h3, h4⟩ := TS.out k j hlt hlt2
                have hn3 := knows_lit _ _ _ _ e1
                have ho3 := since_lit _ _ _ e2
                replace e1 := Lib.hid e1
                replace e2 := Lib.hid e2
                replace h1 := Lib.hid h1
                replace h2 := Lib.hid h2
                replace h3 := Lib.hid h3
                replace h4 := Lib.hid h4
                replace DY := Lib.hid (fun b5 al d5 cl W h ho hi => DY.out b5 al d5 cl k j W h ho hi hlt hlt2)
                generalize f k j = fx at h1 h2 h3 h4 DY
                go_upto_region 25 with (first
                         | (go_at_call 18; (with_reducible refine (C_Since _ _ _ _ _ _ _ _ _ _ _ _ _ _ _ K hL (k : Int) (j : Int) lo hi _ 0 e2.out _ (N.out _ hQ)).mono ?_); rintro e w12 ⟨rfl, hb⟩; replace hC := q_on hC hb; replace hQ := q_on hQ hb; have s1 := sp_new w12 lo hi 34; replace hb := al_on w12 (.cells #[.int .i64 lo, .int .i64 hi] 34); replace hC := q_on hC hb; obtain ⟨t1, t2, t3⟩ := s1; replace hQ := q_on hQ hb; replace hx := HD.out _ hQ; dsimp only)
                         | (go_at_call 20; (with_reducible refine (C_Knows _ _ _ _ _ _ _ _ _ _ _ _ _ _ _ K hL (k : Int) (j : Int) (d : Int) _ 0 e1.out _ (N.out _ hQ)).mono ?_); rintro e w11 ⟨rfl, hb⟩; replace hC := q_on hC hb; replace hQ := q_on hQ hb; replace hx := HD.out _ hQ; dsimp only)
                         | (go_at_call 40; (with_reducible refine (DY.out _ _ _ _ _ (N.out _ hQ) ol (I.out _ hQ)).mono ?_); rintro e w10 ⟨rfl, hb⟩; replace hC := q_on hC hb; replace hQ := q_on hQ hb; replace hx := HD.out _ hQ; dsimp only))
                obtain ⟨U1, hU1⟩ : ∃ U1 : World, U1 = w12.alloc (.cells #[.int .i64 lo, .int .i64 hi] 34) := ⟨_, rfl⟩
                rw [← hU1] at hQ hx hC t1 t2 t3 ⊢
                clear hU1 hb DY e1 e2
                go_cut [151] from 128 to 151 (fun v W => v = .bool false ∧ W = U1)
                case first =>
                  clear h3 h4
                  by_cases hA : fx ≤ (d : Int)
                  · rcases hn3 with rfl | rfl | rfl
                    all_goals
                      first
                        | (exact absurd rfl (h1.out hA))
                        | (clear h1 h2
                           go_wp2
                           go_meet
                           case rel => exact ⟨rfl, rfl⟩)
                  · have hB9 : (d : Int) < fx := by omega
                    rcases hn3 with rfl | rfl | rfl
                    all_goals
                      first
                        | (exact absurd rfl (h2.out hB9))
                        | (clear h1 h2
                           go_wp2
                           go_meet
                           case rel => exact ⟨rfl, rfl⟩)
                case rest =>
                  obtain ⟨rfl, rfl⟩ := hcut
                  rename World => U2
                  clear h1 h2 hn3
                  go_upto_region 27 with (fail)
                  go_cut [171] from 152 to 171 (fun v W => v = .bool false ∧ Below U2.heap.size U2 W)
                  case first =>
                    by_cases h9 : fx ≤ 9
                    · have hin := Lib.hid (inB_yes (h3.out h9).2.1 (h3.out h9).2.2)
                      rcases ho3 with rfl | rfl | rfl
                      all_goals
                        first
                          | (exact absurd rfl (h3.out h9).1)
                          | (clear h3 h4
                             go_wp2_with ((go_at_call 41; (with_reducible refine (Inside_is _ _ _ true _ hin.out).mono ?_); rintro e w13 ⟨rfl, hbI⟩; dsimp only))
                             go_meet
                             case rel => exact ⟨rfl, hbI⟩)
                    · have h10 : 9 < fx := by omega
                      rcases ho3 with rfl | rfl | rfl
                      all_goals
                        first
                          | (exact absurd rfl (h4.out h10))
                          | (clear h3 h4
                             go_wp2
                             go_meet
                             case rel => exact ⟨rfl, Below.refl _ _⟩)
                  case rest =>
                    obtain ⟨rfl, hbI⟩ := hcut
                    replace hC := q_on hC hbI
                    clear h3 h4 ho3 t1 t2 t3 hx
                    go_wp2
                    go_roundw
                    case rel => exact ⟨j + 1, by omega, by go_num, hC⟩
                    case measure => simp [intOf]; omega
              · obtain rfl : j = r.kept.length := by omega
                clear hj
                go_wp2
                go_roundw
                case rel => exact ⟨k + 1, by omega, by go_num, q_on hB hC⟩
                case measure => simp [intOf]; omega
          · obtain rfl : k = r.writers.length := by omega
            clear hk
            go_wp2_with (go_at_call 22; (with_reducible refine (Awake_any _).mono ?_); rintro e w20 ⟨rfl, hb⟩; replace hQ := q_on hQ hb; replace hx := HD.out _ hQ; dsimp only)
            go_ret
            exact ⟨rfl, hwZ.trans (hQ.mono hwZ.size)⟩
  · have hw := wrong_bad he
    have hv : decide (seErr r = 0) = false := decide_eq_false he
    have hne := nei_t he
    generalize seErr r = e0 at hw hne
    replace hw := Lib.hid hw
    replace hv := Lib.hid hv
    clear he
    go_enter Try.func8, Try.ntmps8
    go_upto_region 1 with (fail)
    rw [← hX]
    clear hX
    go_wp2_with (first
      | (go_at_call 22; (with_reducible refine (Awake_any _).mono ?_); rintro e w4 ⟨rfl, hb⟩; replace hQ := q_on hQ hb; replace hx := HC.out _ hQ; dsimp only)
      | (go_at_call 25; (with_reducible refine (A_Wrong _ _ _ _ _ _ _ _ _ _ r [] e0 hw.out _ (M.out _ hQ)).mono ?_); rintro e w2 ⟨b1, c1, rfl, o1, i1, hb⟩; replace hQ := q_on hQ hb; replace hx := HC.out _ hQ; dsimp only [List.length_nil])
      | (go_at_call 37; (with_reducible refine (Valid_is _ _ _ _ _ _ _ _ _ _ r false hv.out _ (M.out _ hQ)).mono ?_); rintro e w3 ⟨rfl, hb⟩; replace hQ := q_on hQ hb; replace hx := HC.out _ hQ; dsimp only))
    go_ret
    exact ⟨rfl, hwX.trans (hQ.mono hwX.size)⟩
end Go.Proofs.Ytmhbjohpggghgaa
