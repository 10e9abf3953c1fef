/- What is proved here: the walk of TopNamed: it returns true, and turns nothing that was there. Conditions: the town lies in memory; its letters are bytes. -/
import Derived.Test.YtklconegomgjaaaGreatPeTownXG
import Derived.Test.YtklconegomgjaaaGreatPeAw2
import Derived.Test.YtklconegomgjaaaGreatEaAw2
import Derived.Test.YtklconegomgjaaaGreatErE
set_option linter.unusedVariables false
set_option linter.unusedSimpArgs false
namespace Go.Proofs.YtklconegomgjaaaGreat
open Go Go.RowKit Go.Shelf

set_option maxRecDepth 100000 in
set_option maxHeartbeats 16000000 in
theorem TopNamed_walk (a1 a2 a3 a4 : Option Addr) (k1 k2 k3 k4 : Nat) (t : PeW) (x0 x1 : Nat) (gx0 : x0 ≤ 255) (gx1 : x1 ≤ 255) (w : World) (hm : TownC w a1 a2 a3 a4 k1 k2 k3 k4 t) (hlb : ∀ x ∈ t.ear.alphas, ∀ i (h : i < x.letters.length), 0 ≤ x.letters[i].letter ∧ x.letters[i].letter ≤ 255) :
    Calls Tryz.prog 3 #[(.agg #[.int .i64 t.ear.sounds, .slice a1 t.ear.alphas.length k1, .slice a2 t.ear.spells.length k2, .int .i64 t.vills, .slice a3 t.ments.length k3, .slice a4 t.ties.length k4]), .agg #[.int .u8 (x0 : Int), .int .u8 (x1 : Int)]] w fun e w' => e = .returned (.bool true) ∧ Below w.heap.size w w' := by
  have l3 := hm.okm.len
  have q3 := hm.okm.1
  obtain ⟨Y, hY⟩ : ∃ Y : World, Y = (w.alloc (.cells #[.int .i64 t.ear.sounds, .slice a1 t.ear.alphas.length k1, .slice a2 t.ear.spells.length k2, .int .i64 t.vills, .slice a3 t.ments.length k3, .slice a4 t.ties.length k4] 29)).alloc (.cells #[.int .u8 (x0 : Int), .int .u8 (x1 : Int)] 30) := ⟨_, rfl⟩
  have hbY : Below w.heap.size w Y := by rw [hY]; exact ((Below.refl _ _).alloc (Nat.le_refl _) _).alloc (by simp) _
  have hB1 : Y.heap[w.heap.size]? = some (.cells #[.int .i64 t.ear.sounds, .slice a1 t.ear.alphas.length k1, .slice a2 t.ear.spells.length k2, .int .i64 t.vills, .slice a3 t.ments.length k3, .slice a4 t.ties.length k4] 29 (0, 0)) := by rw [hY]; exact (heap_alloc_old _ _ (by simp)).trans (alloc_atE _ _ rfl)
  have hB2 : Y.heap[w.heap.size + 1]? = some (.cells #[.int .u8 (x0 : Int), .int .u8 (x1 : Int)] 30 (0, 0)) := by rw [hY]; exact alloc_atE _ _ (by simp)
  have HY := Lib.hid hY
  clear hY
  have hmY := hm.mono hbY
  have HBY := Lib.hid hbY
  have M := Lib.hid (fun (V : World) (h : Below Y.heap.size Y V) => hmY.mono h)
  have CK := Lib.hid (RCheck03_any a1 a2 a3 a4 k1 k2 k3 k4 t Y hmY hlb)
  have HC : Hid (∀ V, Below Y.heap.size Y V → (V.cell? ⟨w.heap.size, 0, none⟩ = some (.int .i64 t.ear.sounds) ∧ V.cell? ⟨w.heap.size, 1, none⟩ = some (.slice a1 t.ear.alphas.length k1) ∧ V.cell? ⟨w.heap.size, 2, none⟩ = some (.slice a2 t.ear.spells.length k2) ∧ V.cell? ⟨w.heap.size, 3, none⟩ = some (.int .i64 t.vills) ∧ V.cell? ⟨w.heap.size, 4, none⟩ = some (.slice a3 t.ments.length k3) ∧ V.cell? ⟨w.heap.size, 5, none⟩ = some (.slice a4 t.ties.length k4) ∧ w.heap.size < V.heap.size ∧ V.cell? ⟨w.heap.size + 1, 0, none⟩ = some (.int .u8 (x0 : Int)) ∧ V.cell? ⟨w.heap.size + 1, 1, none⟩ = some (.int .u8 (x1 : Int)) ∧ w.heap.size + 1 < V.heap.size)) := Lib.hid (fun V h => by
    have q1 := (h.block _ (lt_of_block hB1)).trans hB1
    have q2 := (h.block _ (lt_of_block hB2)).trans hB2
    exact ⟨blk_cell 0 q1 rfl, blk_cell 1 q1 rfl, blk_cell 2 q1 rfl, blk_cell 3 q1 rfl, blk_cell 4 q1 rfl, blk_cell 5 q1 rfl, lt_of_block q1, blk_cell 0 q2 rfl, blk_cell 1 q2 rfl, lt_of_block q2⟩)
  clear hB1 hB2 hm hmY hbY hlb
  have hQ := Below.refl Y.heap.size Y
  have hx := HC.out _ hQ
  go_enter Tryz.func3, Tryz.ntmps3
  go_upto_region 1 with (fail)
  rw [← HY.out]
  go_upto_region 2 with (go_at_call 5; go_must ((with_reducible refine CK.out.mono ?_); rintro e w1 ⟨cx, cy, cr, rfl, hcr, hb⟩; replace hQ := q_onE hQ hb; replace hx := HC.out _ hQ; dsimp only))
  clear CK
  by_cases hbad : cr ≠ 0 ∨ t.ments.length < 2
  · have hce2 : (cr != 0) = true ∨ ((cr != 0) = false ∧ (t.ments.length : Int) < 2) := by
      by_cases h1 : cr = 0
      · exact .inr ⟨nei_f h1, by rcases hbad with h | h; exact absurd h1 h; omega⟩
      · exact .inl (nei_t h1)
    clear hbad hcr
    rcases hce2 with c1 | ⟨c1, c2⟩
    all_goals
      go_wp2_with (first
        | (go_at_call 7; (with_reducible refine (PAwake_any _).mono ?_); rintro e w5 ⟨rfl, hb⟩; replace hQ := q_onE hQ hb; replace hx := HC.out _ hQ; dsimp only)
        | (go_at_call 6; (with_reducible refine (EAwake_any _).mono ?_); rintro e w4 ⟨rfl, hb⟩; replace hQ := q_onE hQ hb; replace hx := HC.out _ hQ; dsimp only))
      go_ret
      exact ⟨rfl, HBY.out.trans (hQ.mono HBY.out.size)⟩
  · have hc0 : cr = 0 := Classical.byContradiction fun h => hbad (.inl h)
    have hw0 : ¬ (t.ments.length : Int) < 2 := fun h => hbad (.inr (by omega))
    have hv := hcr.out hc0
    have c1 := nei_f hc0
    have c2 : ((t.ments.length : Int) == 0) = false := eqi_f (by omega)
    have hn0 : 0 < t.ments.length := by omega
    have hn5 := hv.nm
    obtain ⟨a, ha⟩ : ∃ n : Nat, n = x0 % t.ments.length := ⟨_, rfl⟩
    have hal : a < t.ments.length := by rw [ha]; exact Nat.mod_lt _ hn0
    have f1 : (x0 : Int) % (t.ments.length : Int) = (a : Int) := by rw [ha]; exact (Int.natCast_emod _ _).symm
    have f1t : (x0 : Int).tmod (t.ments.length : Int) = (a : Int) := by rw [Int.tmod_eq_emod_of_nonneg (by omega)]; exact f1
    obtain ⟨b, hbb⟩ : ∃ n : Nat, n = x1 % t.ments.length := ⟨_, rfl⟩
    have hbl : b < t.ments.length := by rw [hbb]; exact Nat.mod_lt _ hn0
    have f2 : (x1 : Int) % (t.ments.length : Int) = (b : Int) := by rw [hbb]; exact (Int.natCast_emod _ _).symm
    have f2t : (x1 : Int).tmod (t.ments.length : Int) = (b : Int) := by rw [Int.tmod_eq_emod_of_nonneg (by omega)]; exact f2
    have HV := Lib.hid hv
    have F1 := Lib.hid (And.intro f1 f1t)
    have F2 := Lib.hid (And.intro f2 f2t)
    clear ha hbb hbad hc0 hv f1 f1t f2 f2t hcr
    go_upto_region 4 with (fail)
    go_cut [8, 9] from 41 to 54 (fun u v W => u = .int .i64 (a : Int) ∧ v = .int .i64 (b : Int) ∧ Below Y.heap.size Y W)
    case first =>
      go_quiet (fail)
      go_wp2
      go_meet
      case rel => exact ⟨by simp only [F1.out.1, F1.out.2], by simp only [F2.out.1, F2.out.2], hQ.trans ((below_draws _ _ _).mono hQ.size)⟩
    case rest =>
      obtain ⟨rfl, rfl, hQ3⟩ := hcut
      rename World => W3
      clear hx hQ F1 F2 hb c1 c2 hw0
      obtain ⟨hx, hMa, hMb⟩ : _ ∧ _ ∧ _ := ⟨HC.out _ hQ3, (M.out _ hQ3).ments a hal, (M.out _ hQ3).ments b hbl⟩
      obtain ⟨bm, om, rfl, hbz, p0, -, -, -, -⟩ := hMa
      obtain ⟨bm', om', hee, -, p1, -, -, -, -⟩ := hMb
      cases hee
      have hok := HV.out.ok
      have hsa := hok.ment a hal
      have hsb := hok.ment b hbl
      obtain ⟨p, hp⟩ : ∃ p : Nat, t.ments[a].spell = (p : Int) := ⟨t.ments[a].spell.toNat, by omega⟩
      obtain ⟨q, hq⟩ : ∃ q : Nat, t.ments[b].spell = (q : Int) := ⟨t.ments[b].spell.toNat, by omega⟩
      have hpa : spOf t a = p := by unfold spOf; rw [mentAt_is hal, hp]; rfl
      have hqb : spOf t b = q := by unfold spOf; rw [mentAt_is hbl, hq]; rfl
      rw [hp] at p0
      rw [hq] at p1
      have hpl : p < t.ear.spells.length := by omega
      have hql : q < t.ear.spells.length := by omega
      have HPA := Lib.hid hpa
      have HQB := Lib.hid hqb
      clear hp hq hpa hqb hsa hsb hok
      have hai : (a : Int) < (k3 : Int) := by omega
      have hbi : (b : Int) < (k3 : Int) := by omega
      go_upto_region 5 with (fail)
      go_cut [10, 11] from 55 to 66 (fun u v W => u = .int .i64 (p : Int) ∧ v = .int .i64 (q : Int) ∧ Below W3.heap.size W3 W)
      case first =>
        go_quiet (fail)
        go_wp2
        go_meet
        case rel => exact ⟨rfl, rfl, below_draws _ _ _⟩
      case rest =>
        obtain ⟨rfl, rfl, hQ4⟩ := hcut
        rename World => W4
        replace hQ4 := q_onE hQ3 hQ4
        clear hx hQ3 p0 p1 hbz hai hbi
        have hx := HC.out _ hQ4
        by_cases hab : a = b
        · have e1 := eqi_t (show (a : Int) = (b : Int) by omega)
          have hQ := hQ4
          clear hab
          go_wp2_with (first
            | (go_at_call 7; (with_reducible refine (PAwake_any _).mono ?_); rintro e w5 ⟨rfl, hb⟩; replace hQ := q_onE hQ hb; replace hx := HC.out _ hQ; dsimp only)
            | (go_at_call 6; (with_reducible refine (EAwake_any _).mono ?_); rintro e w4 ⟨rfl, hb⟩; replace hQ := q_onE hQ hb; replace hx := HC.out _ hQ; dsimp only))
          go_ret
          exact ⟨rfl, HBY.out.trans (hQ.mono HBY.out.size)⟩
        · have e1 := eqi_f (show ¬ (a : Int) = (b : Int) by omega)
          have HAB := Lib.hid hab
          clear hab
          obtain ⟨pq, hpq⟩ : ∃ pq : Bool, pq = decide (p = q) := ⟨_, rfl⟩
          obtain ⟨can, hcan⟩ : ∃ c : Bool, c = canB t a b := ⟨_, rfl⟩
          have HCAN : Hid (can = (pq || alikeN t.ear p q != 2)) := Lib.hid (by rw [hcan, hpq]; unfold canB; rw [HPA.out, HQB.out])
          have HPQ := Lib.hid hpq
          have HCB := Lib.hid hcan
          clear hpq hcan
          go_upto_region 8 with (fail)
          go_cut [12] from 74 to 76 (fun v W => v = .bool pq ∧ W = W4)
          case first =>
            by_cases h9 : p = q
            · have e2 := eqi_t (show (p : Int) = (q : Int) by omega)
              have HB9 := Lib.hid (show pq = true by rw [HPQ.out]; exact decide_eq_true h9)
              clear h9
              go_wp2
              go_meet
              case rel => exact ⟨by rw [HB9.out], rfl⟩
            · have e2 := eqi_f (show ¬ (p : Int) = (q : Int) by omega)
              have HB9 := Lib.hid (show pq = false by rw [HPQ.out]; exact decide_eq_false h9)
              clear h9
              go_wp2
              go_meet
              case rel => exact ⟨by rw [HB9.out], rfl⟩
          case rest =>
            obtain ⟨rfl, hW⟩ := hcut
            obtain rfl := hW.symm
            go_upto_if 78 with (fail)
            go_cut [12, 13, 14] from 79 to 90 (fun v u1 u2 W => v = .bool can ∧ Below W4.heap.size W4 W)
            case first =>
              cases pq
              · have hne : p ≠ q := by have := HPQ.out; simpa using this.symm
                have AL := EAlike_any a1 a2 k1 k2 t.ear p q W4 (M.out _ hQ4).book HV.out.ear hpl hql hne
                obtain ⟨n, hn⟩ : ∃ n, n = alikeN t.ear p q := ⟨_, rfl⟩
                rw [← hn] at AL HCAN
                replace AL := Lib.hid AL
                clear hn hne
                by_cases hn2 : n = 2
                · have e2 := nei_f hn2
                  have HB9 := Lib.hid (show can = false by rw [HCAN.out, hn2]; rfl)
                  clear hn2
                  go_wp2_with (go_at_call 8; go_must ((with_reducible refine AL.out.mono ?_); rintro e w5 ⟨rfl, hb⟩; dsimp only))
                  go_meet
                  case rel => exact ⟨by rw [HB9.out], hb⟩
                · have e2 := nei_t hn2
                  have HB9 := Lib.hid (show can = true by rw [HCAN.out]; simpa using hn2)
                  clear hn2
                  go_wp2_with (go_at_call 8; go_must ((with_reducible refine AL.out.mono ?_); rintro e w5 ⟨rfl, hb⟩; dsimp only))
                  go_meet
                  case rel => exact ⟨by rw [HB9.out], hb⟩
              · have HB9 := Lib.hid (show can = true by rw [HCAN.out]; rfl)
                go_wp2
                go_meet
                case rel => exact ⟨by rw [HB9.out], Below.refl _ _⟩
            case rest =>
              obtain ⟨rfl, hQ5⟩ := hcut
              rename World => W5
              replace hQ5 := q_onE hQ4 hQ5
              clear hx hQ4 e1
              have hQ := hQ5
              have hx := HC.out _ hQ
              have HCA : Hid (whyN t a b = 1 ↔ can = false) := Lib.hid (by rw [HCB.out]; exact why_sound HV.out.ok hal hbl)
              have WY := fun (V : World) (h : Below Y.heap.size Y V) => PWhyX_any a1 a2 _ a4 k1 k2 k3 k4 t a b V (M.out V h) HV.out HAB.out hal hbl
              have SM := fun (V : World) (h : Below Y.heap.size Y V) => PSame_any a1 a2 _ a4 k1 k2 k3 k4 t a b V (M.out V h) HV.out HAB.out hal hbl
              obtain ⟨wy, hwy⟩ : ∃ n, n = whyN t a b := ⟨_, rfl⟩
              rw [← hwy] at HCA WY
              clear hwy HCAN HPQ
              have HSA : ∃ (sn : Int) (se : Int), (se = 0 ∧ (can = false → sn = 2) ∨ se = 8) ∧ ∀ (V : World), Below Y.heap.size Y V → Calls Tryz.prog 10 #[.agg #[.int .i64 t.ear.sounds, .slice a1 t.ear.alphas.length k1, .slice a2 t.ear.spells.length k2, .int .i64 t.vills, .slice (some ⟨bm, om, none⟩) t.ments.length k3, .slice a4 t.ties.length k4], .int .i64 (a : Int), .int .i64 (b : Int)] V fun e w' => e = .returned (.tuple #[.int .i64 sn, .int .i64 se]) ∧ Below V.heap.size V w' := by
                by_cases hf : fairL t 0 = []
                · refine ⟨0, 8, .inr rfl, fun V h => ?_⟩
                  have := SM V h
                  rw [if_pos hf] at this
                  exact this
                · refine ⟨settledN (sameN t a b) (fairL t 0).length, 0, .inl ⟨rfl, fun h => named_never HV.out.ok hal hbl HAB.out (by rw [← HCB.out]; exact h) hf⟩, fun V h => ?_⟩
                  have := SM V h
                  rw [if_neg hf] at this
                  exact this
              clear SM
              obtain ⟨sn, se, hse, SM⟩ := HSA
              replace SM := Lib.hid SM
              replace WY := Lib.hid WY
              have HSE := Lib.hid hse
              clear hse
              go_upto_region 16 with (first
                | (go_at_call 10; (with_reducible refine (SM.out _ hQ).mono ?_); rintro e w6 ⟨rfl, hb⟩; replace hQ := q_onE hQ hb; replace hx := HC.out _ hQ; dsimp only)
                | (go_at_call 9; (with_reducible refine (WY.out _ hQ).mono ?_); rintro e w7 ⟨rfl, hb⟩; replace hQ := q_onE hQ hb; replace hx := HC.out _ hQ; dsimp only))
              go_cut [124] from 105 to 124 (fun v W => v = .bool false ∧ W = w6)
              case first =>
                cases can
                · have hw1 : wy = 1 := HCA.out.2 rfl
                  rcases HSE.out with ⟨rfl, hs2⟩ | rfl
                  · have hs3 := hs2 rfl
                    subst hw1
                    subst hs3
                    go_wp2
                    go_meet
                    case rel => exact ⟨rfl, rfl⟩
                  · subst hw1
                    go_wp2
                    go_meet
                    case rel => exact ⟨rfl, rfl⟩
                · have hw1 : ¬ wy = 1 := fun h => by cases HCA.out.1 h
                  have e2 := eqi_f hw1
                  clear hw1
                  rcases HSE.out with ⟨rfl, -⟩ | rfl
                  all_goals
                    go_wp2
                    go_meet
                    case rel => exact ⟨rfl, rfl⟩
              case rest =>
                obtain ⟨rfl, hW⟩ := hcut
                obtain rfl := hW.symm
                clear hx hb hQ5
                have hx := HC.out _ hQ
                go_upto_region 19 with (fail)
                obtain ⟨G, hG⟩ : ∃ G : World, G = w6.alloc (.cells #[.int .i64 t.ear.sounds, .slice a1 t.ear.alphas.length k1, .slice a2 t.ear.spells.length k2, .int .i64 t.vills, .slice (some ⟨bm, om, none⟩) t.ments.length k3, .slice a4 t.ties.length k4] 29) := ⟨_, rfl⟩
                rw [← hG]
                have hbG : Below w6.heap.size w6 G := by rw [hG]; exact alE_on _ _
                have hTG : G.heap[w6.heap.size]? = some (.cells #[.int .i64 t.ear.sounds, .slice a1 t.ear.alphas.length k1, .slice a2 t.ear.spells.length k2, .int .i64 t.vills, .slice (some ⟨bm, om, none⟩) t.ments.length k3, .slice a4 t.ties.length k4] 29 (0, 0)) := by rw [hG]; exact alloc_atE _ _ rfl
                have hsG : G.heap.size = w6.heap.size + 1 := by rw [hG]; simp
                clear hG hx
                have g5 := blk_cell 5 hTG rfl
                have g4 := blk_cell 4 hTG rfl
                have y5 := blk_free 5 hTG
                have y4 := blk_free 4 hTG
                have gz := lt_of_block hTG
                simp only [List.getElem_toArray, List.getElem_cons_zero, List.getElem_cons_succ] at g4 g5
                go_upto_region 20 with (fail)
                obtain ⟨H, hH⟩ : ∃ H : World, H = (G.setCell ⟨w6.heap.size, 5, none⟩ (.slice none 0 0)).setCell ⟨w6.heap.size, 4, none⟩ (.slice none 0 0) := ⟨_, rfl⟩
                rw [← hH]
                have hbH : Below w6.heap.size w6 H := by rw [hH]; exact (hbG.setCell (Nat.le_refl _) _).setCell (Nat.le_refl _) _
                have hTH := blk_set 4 (.slice none 0 0) (blk_set 5 (.slice none 0 0) hTG)
                rw [← hH] at hTH
                simp only [List.setIfInBounds_toArray, List.set_cons_zero, List.set_cons_succ] at hTH
                have hsH : H.heap.size = w6.heap.size + 1 := by rw [hH]; simpa using hsG
                clear hH g5 g4 y5 y4 gz hTG hbG hsG
                go_upto_region 22 with (fail)
                have hI0 : PnI w6 (H.alloc (.cells #[.int .i64 0, .int .i64 199] 36)) w6.heap.size a1 a2 k1 k2 t 0 none 0 := by
                  refine ⟨hbH.alloc hbH.size _, (heap_alloc_old _ _ (lt_of_block hTH)).trans hTH, alloc_atE _ _ hsH.symm, ⟨Nat.le_refl _, by decide, fun _ => rfl⟩, PeMentsC.nil _ _⟩
                clear hTH hbH
                obtain ⟨T, hT⟩ : ∃ T, T = w6.heap.size := ⟨_, rfl⟩
                have HT := Lib.hid hT
                rw [← hT] at hI0 ⊢
                clear hT hsH
                go_loopw [21] (fun i V => ∃ (n : Nat) (a : Option Addr) (c : Nat), n ≤ t.ments.length ∧ i = .int .i64 n ∧ PnI w6 V T a1 a2 k1 k2 t n a c) (fun i _ => t.ments.length - (intOf i).toNat)
                case atStart => exact ⟨0, none, 0, Nat.zero_le _, rfl, hI0⟩
                case round =>
                  clear hI0
                  rename World => V
                  obtain ⟨n, a7, c7, hn, rfl, hI⟩ := hrel
                  have hQV := q_onE hQ (show Below w6.heap.size w6 V from hI.q)
                  have hx := HC.out _ hQV
                  by_cases hlt : n < t.ments.length
                  · have hni : (n : Int) < (k3 : Int) := by omega
                    have HCS := Lib.hid (plainTo_succ hlt)
                    obtain ⟨b9, o9, hee, hb9, e0, -, -, -, -⟩ := (M.out _ hQV).ments n hlt
                    cases hee
                    generalize t.ments[n].spell = sp at HCS e0
                    have SF4 : Hid (∀ W, Below V.heap.size V W → (fun W => Below V.heap.size V W ∧ W.cell? ⟨w.heap.size, 4, none⟩ = some (.slice (some ⟨bm, om, none⟩) t.ments.length k3) ∧ W.cell? ⟨bm, om + n * 5, none⟩ = some (.int .i64 sp) ∧ W.cell? ⟨T + 1, 0, none⟩ = some (.int .i64 0) ∧ W.cell? ⟨T + 1, 1, none⟩ = some (.int .i64 199) ∧ w.heap.size < W.heap.size ∧ bm < W.heap.size ∧ T + 1 < W.heap.size) W) := Lib.hid (fun W h => by
                      obtain ⟨-, -, -, -, h4, -, hz, -, -, -⟩ := HC.out _ (q_onE hQV h)
                      have k1 := (h.block _ (lt_of_block hI.sp)).trans hI.sp
                      exact ⟨h, h4, cell_below h e0, blk_cell 0 k1 rfl, blk_cell 1 k1 rfl, hz, Nat.lt_of_lt_of_le hb9 h.size, lt_of_block k1⟩)
                    clear e0
                    go_upto_region 24 with (fail)
                    clear hx
                    go_cut [22] from 136 to 143 (fun v W => v = .pointer (some ⟨V.heap.size, 0, none⟩) ∧ Below V.heap.size V W ∧ W.heap[V.heap.size]? = some (.cells #[.int .i64 sp, .int .i64 (-1), .int .i64 0, .int .i64 199, .int .i64 (-1)] 38 (0, 0)))
                    case first =>
                      have hV0 := below_drew' (Below.refl V.heap.size V)
                      refine wp_only ?_
                      refine wp_region_z (fun W => Below V.heap.size V W ∧ W.cell? ⟨w.heap.size, 4, none⟩ = some (.slice (some ⟨bm, om, none⟩) t.ments.length k3) ∧ W.cell? ⟨bm, om + n * 5, none⟩ = some (.int .i64 sp) ∧ W.cell? ⟨T + 1, 0, none⟩ = some (.int .i64 0) ∧ W.cell? ⟨T + 1, 1, none⟩ = some (.int .i64 199) ∧ w.heap.size < W.heap.size ∧ bm < W.heap.size ∧ T + 1 < W.heap.size) 9 (by kernel_rfl) (SF4.out V.drew hV0) (fun hHeld => ?_)
                      (refine wpZ_take (i := 0) (v := ?_) rfl (by kernel_rfl) (by kernel_rfl) (by kernel_rfl) (by kernel_rfl) (fun _ _ _ h => h) (Or.inl ⟨by kernel_rfl, ?_⟩) (by assumption) ?_; rotate_left 1; (focus (intro w hSw; (try dsimp only at hSw); go_simp; first | done | with_reducible rfl)); simp only [Act.put, List.getElem_toArray, List.getElem_cons_succ, List.getElem_cons_zero, List.setIfInBounds_toArray, List.set_cons_succ, List.set_cons_zero])
                      (refine wpZ_take (i := 1) (v := ?_) rfl (by kernel_rfl) (by kernel_rfl) (by kernel_rfl) (by kernel_rfl) (fun _ _ _ h => h) (Or.inl ⟨by kernel_rfl, ?_⟩) (by assumption) ?_; rotate_left 1; (focus (intro w hSw; (try dsimp only at hSw); go_simp; first | done | with_reducible rfl)); simp only [Act.put, List.getElem_toArray, List.getElem_cons_succ, List.getElem_cons_zero, List.setIfInBounds_toArray, List.set_cons_succ, List.set_cons_zero])
                      (refine wpZ_take (i := 2) (v := ?_) rfl (by kernel_rfl) (by kernel_rfl) (by kernel_rfl) (by kernel_rfl) (fun _ _ _ h => h) (Or.inl ⟨by kernel_rfl, ?_⟩) (by assumption) ?_; rotate_left 1; (focus (intro w hSw; (try dsimp only at hSw); go_simp; first | done | with_reducible rfl)); simp only [Act.put, List.getElem_toArray, List.getElem_cons_succ, List.getElem_cons_zero, List.setIfInBounds_toArray, List.set_cons_succ, List.set_cons_zero])
                      (refine wpZ_take (i := 3) (v := ?_) rfl (by kernel_rfl) (by kernel_rfl) (by kernel_rfl) (by kernel_rfl) (fun _ _ _ h => h) (Or.inl ⟨by kernel_rfl, ?_⟩) (by assumption) ?_; rotate_left 1; (focus (intro w hSw; (try dsimp only at hSw); go_simp; first | done | with_reducible rfl)); simp only [Act.put, List.getElem_toArray, List.getElem_cons_succ, List.getElem_cons_zero, List.setIfInBounds_toArray, List.set_cons_succ, List.set_cons_zero])
                      (refine wpZ_take (i := 4) (v := ?_) rfl (by kernel_rfl) (by kernel_rfl) (by kernel_rfl) (by kernel_rfl) (fun _ _ _ h => h) (Or.inl ⟨by kernel_rfl, ?_⟩) (by assumption) ?_; rotate_left 1; (focus (intro w hSw; (try dsimp only at hSw); go_simp; first | done | with_reducible rfl)); simp only [Act.put, List.getElem_toArray, List.getElem_cons_succ, List.getElem_cons_zero, List.setIfInBounds_toArray, List.set_cons_succ, List.set_cons_zero])
                      (refine wpZ_take (i := 5) (v := ?_) rfl (by kernel_rfl) (by kernel_rfl) (by kernel_rfl) (by kernel_rfl) (fun _ _ _ h => h) (Or.inl ⟨by kernel_rfl, ?_⟩) (by assumption) ?_; rotate_left 1; (focus (intro w hSw; (try dsimp only at hSw); go_simp; first | done | with_reducible rfl)); simp only [Act.put, List.getElem_toArray, List.getElem_cons_succ, List.getElem_cons_zero, List.setIfInBounds_toArray, List.set_cons_succ, List.set_cons_zero])
                      (refine wpZ_take (i := 6) (v := ?_) rfl (by kernel_rfl) (by kernel_rfl) (by kernel_rfl) (by kernel_rfl) (fun _ _ _ h => h) (Or.inl ⟨by kernel_rfl, ?_⟩) (by assumption) ?_; rotate_left 1; (focus (intro w hSw; (try dsimp only at hSw); go_simp; first | done | with_reducible rfl)); simp only [Act.put, List.getElem_toArray, List.getElem_cons_succ, List.getElem_cons_zero, List.setIfInBounds_toArray, List.set_cons_succ, List.set_cons_zero])
                      (refine wpZ_take (i := 7) (v := ?_) rfl (by kernel_rfl) (by kernel_rfl) (by kernel_rfl) (by kernel_rfl) (fun _ _ _ h => h) (Or.inl ⟨by kernel_rfl, ?_⟩) (by assumption) ?_; rotate_left 1; (focus (intro w hSw; (try dsimp only at hSw); go_simp; first | done | with_reducible rfl)); simp only [Act.put, List.getElem_toArray, List.getElem_cons_succ, List.getElem_cons_zero, List.setIfInBounds_toArray, List.set_cons_succ, List.set_cons_zero])
                      refine wpZ_ready (rs := [8]) (by kernel_rfl) (by simp) (AllZ.cons rfl (fun K hK => ?_) AllZ.nil)
                      go_simp
                      refine hK.out _ _ (fun _ => SF4.out _ (below_drew' (alE_on V _))) ?_
                      (try simp only [Act.put, List.getElem_toArray, List.getElem_cons_succ, List.getElem_cons_zero, List.setIfInBounds_toArray, List.set_cons_succ, List.set_cons_zero])
                      clear hK
                      have hszd : V.drew.heap.size = V.heap.size := rfl
                      obtain ⟨V1, hV1⟩ : ∃ V1 : World, V1 = (V.alloc (.cells #[.int .i64 0, .int .i64 0, .int .i64 0, .int .i64 0, .int .i64 0] 38)).drew := ⟨_, rfl⟩
                      rw [← hV1]
                      have hbV1 : Below V.heap.size V V1 := by rw [hV1]; exact below_drew' (alE_on V _)
                      have hM1 : V1.heap[V.heap.size]? = some (.cells #[.int .i64 0, .int .i64 0, .int .i64 0, .int .i64 0, .int .i64 0] 38 (0, 0)) := by rw [hV1]; exact alloc_atE V _ rfl
                      clear hV1 hszd hV0
                      have w0 := blk_cell 0 hM1 rfl
                      have w1 := blk_cell 1 hM1 rfl
                      have w2 := blk_cell 2 hM1 rfl
                      have w3 := blk_cell 3 hM1 rfl
                      have w4 := blk_cell 4 hM1 rfl
                      have v0 := blk_free 0 hM1
                      have v1 := blk_free 1 hM1
                      have v2 := blk_free 2 hM1
                      have v3 := blk_free 3 hM1
                      have v4 := blk_free 4 hM1
                      have vz := lt_of_block hM1
                      simp only [List.getElem_toArray, List.getElem_cons_zero, List.getElem_cons_succ] at w0 w1 w2 w3 w4
                      have hM2 := Lib.hid (blk_set 4 (.int .i64 (-1)) (blk_set 3 (.int .i64 199) (blk_set 2 (.int .i64 0) (blk_set 1 (.int .i64 (-1)) (blk_set 0 (.int .i64 sp) hM1)))))
                      have hb2 := Lib.hid (((((hbV1.setCell (p := ⟨V.heap.size, 0, none⟩) (Nat.le_refl _) (.int .i64 sp)).setCell (p := ⟨V.heap.size, 1, none⟩) (Nat.le_refl _) (.int .i64 (-1))).setCell (p := ⟨V.heap.size, 2, none⟩) (Nat.le_refl _) (.int .i64 0)).setCell (p := ⟨V.heap.size, 3, none⟩) (Nat.le_refl _) (.int .i64 199)).setCell (p := ⟨V.heap.size, 4, none⟩) (Nat.le_refl _) (.int .i64 (-1)))
                      clear hM1
                      refine wpZ_ready (rs := [9]) (by kernel_rfl) (by simp) (AllZ.cons rfl (fun K hK => ?_) AllZ.nil)
                      (go_simp; refine hK.out _ _ (fun h => absurd rfl h) ?_; (try simp only [Act.put, List.getElem_toArray, List.getElem_cons_succ, List.getElem_cons_zero, List.setIfInBounds_toArray, List.set_cons_succ, List.set_cons_zero]); clear hK; refine wpZ_done (by kernel_rfl) ?_ _)
                      dsimp only [onlyN]
                      go_wp2
                      go_meet
                      case rel => exact ⟨rfl, hb2.out, hM2.out⟩
                    case rest =>
                      obtain ⟨rfl, hbU, hOb⟩ := hcut
                      rename World => U
                      clear SF4 hb9 hni
                      have hIU := hI.on hbU
                      obtain ⟨po, hpo⟩ : ∃ po, po = V.heap.size := ⟨_, rfl⟩
                      rw [← hpo] at hOb ⊢
                      obtain ⟨L1, hL1⟩ : ∃ L1, L1 = plainTo t n := ⟨_, rfl⟩
                      obtain ⟨L2, hL2⟩ : ∃ L2, L2 = plainTo t (n + 1) := ⟨_, rfl⟩
                      have htk : Hid (L2 = L1 ++ [(⟨sp, -1, 0, 199, -1⟩ : PeM)]) := Lib.hid (by rw [hL2, hL1, HCS.out])
                      have hsz := hIU.ok
                      have hzV := hIU.mc
                      have hVo := hIU.tw
                      rw [← hL1] at hsz hzV hVo
                      have hll : L1.length ≤ 5 := by rw [hL1, plainTo_len (by omega)]; omega
                      have HL2 := Lib.hid hL2
                      have zoV := lt_of_block hVo
                      have SF : Hid (∀ W, Below U.heap.size U W → (fun W => Below U.heap.size U W ∧ W.cell? ⟨T, 4, none⟩ = some (.slice a7 L1.length c7) ∧ W.cell? ⟨po, 0, none⟩ = some (.int .i64 sp) ∧ W.cell? ⟨po, 1, none⟩ = some (.int .i64 (-1)) ∧ W.cell? ⟨po, 2, none⟩ = some (.int .i64 0) ∧ W.cell? ⟨po, 3, none⟩ = some (.int .i64 199) ∧ W.cell? ⟨po, 4, none⟩ = some (.int .i64 (-1)) ∧ T < W.heap.size ∧ po < W.heap.size) W) := Lib.hid (fun W h => by
                        have k1 := (h.block _ (lt_of_block hVo)).trans hVo
                        have k2 := (h.block _ (lt_of_block hOb)).trans hOb
                        exact ⟨h, blk_cell 4 k1 rfl, blk_cell 0 k2 rfl, blk_cell 1 k2 rfl, blk_cell 2 k2 rfl, blk_cell 3 k2 rfl, blk_cell 4 k2 rfl, lt_of_block k1, lt_of_block k2⟩)
                      clear hL1 hL2 hOb HCS hpo hI hbU hQV
                      clear V
                      obtain ⟨V, hVU⟩ : ∃ V, V = U := ⟨_, rfl⟩
                      subst hVU
                      go_upto_region 25 with (fail)
                      refine wp_region_z (fun W => Below V.heap.size V W ∧ W.cell? ⟨T, 4, none⟩ = some (.slice a7 L1.length c7) ∧ W.cell? ⟨po, 0, none⟩ = some (.int .i64 sp) ∧ W.cell? ⟨po, 1, none⟩ = some (.int .i64 (-1)) ∧ W.cell? ⟨po, 2, none⟩ = some (.int .i64 0) ∧ W.cell? ⟨po, 3, none⟩ = some (.int .i64 199) ∧ W.cell? ⟨po, 4, none⟩ = some (.int .i64 (-1)) ∧ T < W.heap.size ∧ po < W.heap.size) 8 (by kernel_rfl) (SF.out V.drew (by (repeat' (first | assumption | exact Below.refl _ _ | refine Below.drew ?_ | refine Below.alloc ?_ (by first | omega | (simp <;> omega)) _)))) (fun hHeld => ?_)
                      (refine wpZ_take (i := 1) (v := ?_) rfl (by kernel_rfl) (by kernel_rfl) (by kernel_rfl) (by kernel_rfl) (fun _ _ _ h => h) (Or.inl ⟨by kernel_rfl, ?_⟩) (by assumption) ?_; rotate_left 1; (focus (intro w hSw; (try dsimp only at hSw); go_simp; first | done | with_reducible rfl)); simp only [Act.put, List.getElem_toArray, List.getElem_cons_succ, List.getElem_cons_zero, List.setIfInBounds_toArray, List.set_cons_succ, List.set_cons_zero])
                      (refine wpZ_take (i := 2) (v := ?_) rfl (by kernel_rfl) (by kernel_rfl) (by kernel_rfl) (by kernel_rfl) (fun _ _ _ h => h) (Or.inl ⟨by kernel_rfl, ?_⟩) (by assumption) ?_; rotate_left 1; (focus (intro w hSw; (try dsimp only at hSw); go_simp; first | done | with_reducible rfl)); simp only [Act.put, List.getElem_toArray, List.getElem_cons_succ, List.getElem_cons_zero, List.setIfInBounds_toArray, List.set_cons_succ, List.set_cons_zero])
                      (refine wpZ_take (i := 4) (v := ?_) rfl (by kernel_rfl) (by kernel_rfl) (by kernel_rfl) (by kernel_rfl) (fun _ _ _ h => h) (Or.inl ⟨by kernel_rfl, ?_⟩) (by assumption) ?_; rotate_left 1; (focus (intro w hSw; (try dsimp only at hSw); go_simp; first | done | with_reducible rfl)); simp only [Act.put, List.getElem_toArray, List.getElem_cons_succ, List.getElem_cons_zero, List.setIfInBounds_toArray, List.set_cons_succ, List.set_cons_zero])
                      refine wpZ_ready (rs := [0, 5]) (by kernel_rfl) (by simp) (AllZ.cons rfl (fun K hK => ?_) (AllZ.cons rfl (fun K hK => ?_) AllZ.nil)); (focus ((go_simp; refine hK.out _ _ (fun _ => SF.out _ (by (repeat' (first | assumption | exact Below.refl _ _ | refine Below.drew ?_ | refine Below.alloc ?_ (by first | omega | (simp <;> omega)) _)))) ?_; (try simp only [Act.put, List.getElem_toArray, List.getElem_cons_succ, List.getElem_cons_zero, List.setIfInBounds_toArray, List.set_cons_succ, List.set_cons_zero]); clear hK); refine wpZ_ready (rs := [3, 5]) (by kernel_rfl) (by simp) (AllZ.cons rfl (fun K hK => ?_) (AllZ.cons rfl (fun K hK => ?_) AllZ.nil)); (focus (have hm0 : ((V.alloc (.cells #[] 38)).drew).ownsRow V.heap.size 38 5 (.slice (some ⟨V.heap.size, 0, none⟩) 0 0) 0 [] := (made_row2 (Nat.le_refl _) _ _).drew; refine step_app (.tmp 144) (.tmp 146) (v := .slice (some ⟨V.heap.size, 0, none⟩) 0 0) E_ment (by rfl) (by rfl) (by rfl) (by rfl) V.heap.size 0 L1.length [] (flatC mentCells L1) hm0 (SrcAt.mentsN hsz.2.2 (hzV.mono (by (repeat' (first | assumption | exact Below.refl _ _ | refine Below.drew ?_ | refine Below.alloc ?_ (by first | omega | (simp <;> omega)) _))))) (by omega) (by decide) (by first | omega | (simp [drewE_heap] <;> omega)) ?_; intro v1 V1 ho1 hg1 _; (have hB1 : Below V.heap.size V V1 := app_grown (by (repeat' (first | assumption | exact Below.refl _ _ | refine Below.drew ?_ | refine Below.alloc ?_ (by first | omega | (simp <;> omega)) _))) hm0 hg1); (rw [Nat.zero_add, List.nil_append] at ho1); have hz1v := hB1.size; refine hK.out _ _ (fun _ => SF.out _ hB1) ?_; (try simp only [Act.put, List.getElem_toArray, List.getElem_cons_succ, List.getElem_cons_zero, List.setIfInBounds_toArray, List.set_cons_succ, List.set_cons_zero]); clear hK; refine wpZ_ready (rs := [5]) (by kernel_rfl) (by simp) (AllZ.cons rfl (fun K hK => ?_) AllZ.nil); (go_simp; refine hK.out _ _ (fun _ => SF.out _ (by (repeat' (first | assumption | exact Below.refl _ _ | refine Below.drew ?_ | refine Below.alloc ?_ (by first | omega | (simp <;> omega)) _)))) ?_; (try simp only [Act.put, List.getElem_toArray, List.getElem_cons_succ, List.getElem_cons_zero, List.setIfInBounds_toArray, List.set_cons_succ, List.set_cons_zero]); clear hK); have hs2 := SrcAt.ment1 V1 sp (-1) 0 199 (-1) 38; refine wpZ_ready (rs := [6]) (by kernel_rfl) (by simp) (AllZ.cons rfl (fun K hK => ?_) AllZ.nil); refine step_app (.tmp 147) (.tmp 149) (v := v1) E_ment (by rfl) (by rfl) (by rfl) (by rfl) V.heap.size L1.length 1 (flatC mentCells L1) [.int .i64 sp, .int .i64 (-1), .int .i64 0, .int .i64 199, .int .i64 (-1)] (by first | exact ho1 | exact ho1.alloc _) hs2 (by omega) (by decide) (by first | omega | (simp [drewE_heap] <;> omega)) ?_; intro v2 V2 ho2 hg2 _; (have hB2 : Below V.heap.size V V2 := app_grown (by (repeat' (first | assumption | exact Below.refl _ _ | refine Below.drew ?_ | refine Below.alloc ?_ (by first | omega | (simp <;> omega)) _))) (by first | exact ho1 | exact ho1.alloc _) hg2); (rw [ment_snocN, ← htk.out] at ho2); (have e2 : L1.length + 1 = L2.length := by rw [htk.out]; simp); (rw [e2] at ho2); clear e2; (obtain ⟨-, a9, c9, rfl, hs9, -⟩ := ments_ownN ho2); (have hc2 : V2.heap[T]? = _ := (hB2.block _ zoV).trans hVo); have hHeld2 := SF.out _ hB2; refine hK.out _ _ (fun _ => hHeld2) ?_; (try simp only [Act.put, List.getElem_toArray, List.getElem_cons_succ, List.getElem_cons_zero, List.setIfInBounds_toArray, List.set_cons_succ, List.set_cons_zero]); clear hK; (refine wpZ_take (i := 7) (v := ?_) rfl (by kernel_rfl) (by kernel_rfl) (by kernel_rfl) (by kernel_rfl) (fun _ _ _ h => h) (Or.inl ⟨by kernel_rfl, ?_⟩) (by assumption) ?_; rotate_left 1; (focus (intro w hSw; (try dsimp only at hSw); go_simp; first | done | with_reducible rfl)); simp only [Act.put, List.getElem_toArray, List.getElem_cons_succ, List.getElem_cons_zero, List.setIfInBounds_toArray, List.set_cons_succ, List.set_cons_zero]); have k2 : V2.cell? ⟨T, 4, none⟩ = some (.slice a7 L1.length c7) := blk_cell 4 hc2 rfl; have k3 := blk_free 4 hc2; have zo2 := lt_of_block hc2; refine wpZ_ready (rs := [8]) (by kernel_rfl) (by simp) (AllZ.cons rfl (fun K hK => ?_) AllZ.nil); (go_simp; refine hK.out _ _ (fun h => absurd rfl h) ?_; (try simp only [Act.put, List.getElem_toArray, List.getElem_cons_succ, List.getElem_cons_zero, List.setIfInBounds_toArray, List.set_cons_succ, List.set_cons_zero]); clear hK; refine wpZ_done (by kernel_rfl) ?_ _))); rotate_left 1; (focus ((go_simp; refine hK.out _ _ (fun _ => SF.out _ (by (repeat' (first | assumption | exact Below.refl _ _ | refine Below.drew ?_ | refine Below.alloc ?_ (by first | omega | (simp <;> omega)) _)))) ?_; (try simp only [Act.put, List.getElem_toArray, List.getElem_cons_succ, List.getElem_cons_zero, List.setIfInBounds_toArray, List.set_cons_succ, List.set_cons_zero]); clear hK); refine wpZ_ready (rs := [3]) (by kernel_rfl) (by simp) (AllZ.cons rfl (fun K hK => ?_) AllZ.nil); have hm0 : (((V.alloc (.cells #[] 38)).alloc (.cells #[.int .i64 sp, .int .i64 (-1), .int .i64 0, .int .i64 199, .int .i64 (-1)] 38)).drew).ownsRow V.heap.size 38 5 (.slice (some ⟨V.heap.size, 0, none⟩) 0 0) 0 [] := ((made_row2 (Nat.le_refl _) _ _).alloc _).drew; have hsr : SrcAt (((V.alloc (.cells #[] 38)).alloc (.cells #[.int .i64 sp, .int .i64 (-1), .int .i64 0, .int .i64 199, .int .i64 (-1)] 38)).drew) (.slice (some ⟨V.heap.size + 1, 0, none⟩) 1 1) 1 5 [.int .i64 sp, .int .i64 (-1), .int .i64 0, .int .i64 199, .int .i64 (-1)] := (by have h := (SrcAt.ment1 (V.alloc (.cells #[] 38)) sp (-1) 0 199 (-1) 38).below (below_drew' (Below.refl _ _)); rwa [show (V.alloc (.cells #[] 38)).heap.size = V.heap.size + 1 from by simp] at h); refine step_app (.tmp 144) (.tmp 146) (v := .slice (some ⟨V.heap.size, 0, none⟩) 0 0) E_ment (by rfl) (by rfl) (by rfl) (by rfl) V.heap.size 0 L1.length [] (flatC mentCells L1) hm0 (SrcAt.mentsN hsz.2.2 (hzV.mono (by (repeat' (first | assumption | exact Below.refl _ _ | refine Below.drew ?_ | refine Below.alloc ?_ (by first | omega | (simp <;> omega)) _))))) (by omega) (by decide) (by first | omega | (simp [drewE_heap] <;> omega)) ?_; intro v1 V1 ho1 hg1 _; (have hB1 : Below V.heap.size V V1 := app_grown (by (repeat' (first | assumption | exact Below.refl _ _ | refine Below.drew ?_ | refine Below.alloc ?_ (by first | omega | (simp <;> omega)) _))) hm0 hg1); (rw [Nat.zero_add, List.nil_append] at ho1); have hz1v := hB1.size; refine hK.out _ _ (fun _ => SF.out _ hB1) ?_; (try simp only [Act.put, List.getElem_toArray, List.getElem_cons_succ, List.getElem_cons_zero, List.setIfInBounds_toArray, List.set_cons_succ, List.set_cons_zero]); clear hK; have hs2 := src_grown hsr hg1 (by simp [Value.ownBlock]); refine wpZ_ready (rs := [6]) (by kernel_rfl) (by simp) (AllZ.cons rfl (fun K hK => ?_) AllZ.nil); refine step_app (.tmp 147) (.tmp 149) (v := v1) E_ment (by rfl) (by rfl) (by rfl) (by rfl) V.heap.size L1.length 1 (flatC mentCells L1) [.int .i64 sp, .int .i64 (-1), .int .i64 0, .int .i64 199, .int .i64 (-1)] (by first | exact ho1 | exact ho1.alloc _) hs2 (by omega) (by decide) (by first | omega | (simp [drewE_heap] <;> omega)) ?_; intro v2 V2 ho2 hg2 _; (have hB2 : Below V.heap.size V V2 := app_grown (by (repeat' (first | assumption | exact Below.refl _ _ | refine Below.drew ?_ | refine Below.alloc ?_ (by first | omega | (simp <;> omega)) _))) (by first | exact ho1 | exact ho1.alloc _) hg2); (rw [ment_snocN, ← htk.out] at ho2); (have e2 : L1.length + 1 = L2.length := by rw [htk.out]; simp); (rw [e2] at ho2); clear e2; (obtain ⟨-, a9, c9, rfl, hs9, -⟩ := ments_ownN ho2); (have hc2 : V2.heap[T]? = _ := (hB2.block _ zoV).trans hVo); have hHeld2 := SF.out _ hB2; refine hK.out _ _ (fun _ => hHeld2) ?_; (try simp only [Act.put, List.getElem_toArray, List.getElem_cons_succ, List.getElem_cons_zero, List.setIfInBounds_toArray, List.set_cons_succ, List.set_cons_zero]); clear hK; (refine wpZ_take (i := 7) (v := ?_) rfl (by kernel_rfl) (by kernel_rfl) (by kernel_rfl) (by kernel_rfl) (fun _ _ _ h => h) (Or.inl ⟨by kernel_rfl, ?_⟩) (by assumption) ?_; rotate_left 1; (focus (intro w hSw; (try dsimp only at hSw); go_simp; first | done | with_reducible rfl)); simp only [Act.put, List.getElem_toArray, List.getElem_cons_succ, List.getElem_cons_zero, List.setIfInBounds_toArray, List.set_cons_succ, List.set_cons_zero]); have k2 : V2.cell? ⟨T, 4, none⟩ = some (.slice a7 L1.length c7) := blk_cell 4 hc2 rfl; have k3 := blk_free 4 hc2; have zo2 := lt_of_block hc2; refine wpZ_ready (rs := [8]) (by kernel_rfl) (by simp) (AllZ.cons rfl (fun K hK => ?_) AllZ.nil); (go_simp; refine hK.out _ _ (fun h => absurd rfl h) ?_; (try simp only [Act.put, List.getElem_toArray, List.getElem_cons_succ, List.getElem_cons_zero, List.setIfInBounds_toArray, List.set_cons_succ, List.set_cons_zero]); clear hK; refine wpZ_done (by kernel_rfl) ?_ _))))); rotate_left 2; (focus ((go_simp; refine hK.out _ _ (fun _ => SF.out _ (by (repeat' (first | assumption | exact Below.refl _ _ | refine Below.drew ?_ | refine Below.alloc ?_ (by first | omega | (simp <;> omega)) _)))) ?_; (try simp only [Act.put, List.getElem_toArray, List.getElem_cons_succ, List.getElem_cons_zero, List.setIfInBounds_toArray, List.set_cons_succ, List.set_cons_zero]); clear hK); refine wpZ_ready (rs := [0]) (by kernel_rfl) (by simp) (AllZ.cons rfl (fun K hK => ?_) AllZ.nil); (go_simp; refine hK.out _ _ (fun _ => SF.out _ (by (repeat' (first | assumption | exact Below.refl _ _ | refine Below.drew ?_ | refine Below.alloc ?_ (by first | omega | (simp <;> omega)) _)))) ?_; (try simp only [Act.put, List.getElem_toArray, List.getElem_cons_succ, List.getElem_cons_zero, List.setIfInBounds_toArray, List.set_cons_succ, List.set_cons_zero]); clear hK); refine wpZ_ready (rs := [3]) (by kernel_rfl) (by simp) (AllZ.cons rfl (fun K hK => ?_) AllZ.nil); have hm0 : (((V.alloc (.cells #[.int .i64 sp, .int .i64 (-1), .int .i64 0, .int .i64 199, .int .i64 (-1)] 38)).alloc (.cells #[] 38)).drew).ownsRow V.heap.size 38 5 (.slice (some ⟨V.heap.size + 1, 0, none⟩) 0 0) 0 [] := (by have h := (made_row2 (B := V.heap.size) (W := V.alloc (.cells #[.int .i64 sp, .int .i64 (-1), .int .i64 0, .int .i64 199, .int .i64 (-1)] 38)) (by simp) 38 5).drew; rwa [show (V.alloc (.cells #[.int .i64 sp, .int .i64 (-1), .int .i64 0, .int .i64 199, .int .i64 (-1)] 38)).heap.size = V.heap.size + 1 from by simp] at h); have hsr : SrcAt (((V.alloc (.cells #[.int .i64 sp, .int .i64 (-1), .int .i64 0, .int .i64 199, .int .i64 (-1)] 38)).alloc (.cells #[] 38)).drew) (.slice (some ⟨V.heap.size, 0, none⟩) 1 1) 1 5 [.int .i64 sp, .int .i64 (-1), .int .i64 0, .int .i64 199, .int .i64 (-1)] := (SrcAt.ment1 V sp (-1) 0 199 (-1) 38).below (below_drew' (alE_on _ _)); refine step_app (.tmp 144) (.tmp 146) (v := .slice (some ⟨V.heap.size + 1, 0, none⟩) 0 0) E_ment (by rfl) (by rfl) (by rfl) (by rfl) V.heap.size 0 L1.length [] (flatC mentCells L1) hm0 (SrcAt.mentsN hsz.2.2 (hzV.mono (by (repeat' (first | assumption | exact Below.refl _ _ | refine Below.drew ?_ | refine Below.alloc ?_ (by first | omega | (simp <;> omega)) _))))) (by omega) (by decide) (by first | omega | (simp [drewE_heap] <;> omega)) ?_; intro v1 V1 ho1 hg1 _; (have hB1 : Below V.heap.size V V1 := app_grown (by (repeat' (first | assumption | exact Below.refl _ _ | refine Below.drew ?_ | refine Below.alloc ?_ (by first | omega | (simp <;> omega)) _))) hm0 hg1); (rw [Nat.zero_add, List.nil_append] at ho1); have hz1v := hB1.size; refine hK.out _ _ (fun _ => SF.out _ hB1) ?_; (try simp only [Act.put, List.getElem_toArray, List.getElem_cons_succ, List.getElem_cons_zero, List.setIfInBounds_toArray, List.set_cons_succ, List.set_cons_zero]); clear hK; have hs2 := src_grown hsr hg1 (by simp [Value.ownBlock]); refine wpZ_ready (rs := [6]) (by kernel_rfl) (by simp) (AllZ.cons rfl (fun K hK => ?_) AllZ.nil); refine step_app (.tmp 147) (.tmp 149) (v := v1) E_ment (by rfl) (by rfl) (by rfl) (by rfl) V.heap.size L1.length 1 (flatC mentCells L1) [.int .i64 sp, .int .i64 (-1), .int .i64 0, .int .i64 199, .int .i64 (-1)] (by first | exact ho1 | exact ho1.alloc _) hs2 (by omega) (by decide) (by first | omega | (simp [drewE_heap] <;> omega)) ?_; intro v2 V2 ho2 hg2 _; (have hB2 : Below V.heap.size V V2 := app_grown (by (repeat' (first | assumption | exact Below.refl _ _ | refine Below.drew ?_ | refine Below.alloc ?_ (by first | omega | (simp <;> omega)) _))) (by first | exact ho1 | exact ho1.alloc _) hg2); (rw [ment_snocN, ← htk.out] at ho2); (have e2 : L1.length + 1 = L2.length := by rw [htk.out]; simp); (rw [e2] at ho2); clear e2; (obtain ⟨-, a9, c9, rfl, hs9, -⟩ := ments_ownN ho2); (have hc2 : V2.heap[T]? = _ := (hB2.block _ zoV).trans hVo); have hHeld2 := SF.out _ hB2; refine hK.out _ _ (fun _ => hHeld2) ?_; (try simp only [Act.put, List.getElem_toArray, List.getElem_cons_succ, List.getElem_cons_zero, List.setIfInBounds_toArray, List.set_cons_succ, List.set_cons_zero]); clear hK; (refine wpZ_take (i := 7) (v := ?_) rfl (by kernel_rfl) (by kernel_rfl) (by kernel_rfl) (by kernel_rfl) (fun _ _ _ h => h) (Or.inl ⟨by kernel_rfl, ?_⟩) (by assumption) ?_; rotate_left 1; (focus (intro w hSw; (try dsimp only at hSw); go_simp; first | done | with_reducible rfl)); simp only [Act.put, List.getElem_toArray, List.getElem_cons_succ, List.getElem_cons_zero, List.setIfInBounds_toArray, List.set_cons_succ, List.set_cons_zero]); have k2 : V2.cell? ⟨T, 4, none⟩ = some (.slice a7 L1.length c7) := blk_cell 4 hc2 rfl; have k3 := blk_free 4 hc2; have zo2 := lt_of_block hc2; refine wpZ_ready (rs := [8]) (by kernel_rfl) (by simp) (AllZ.cons rfl (fun K hK => ?_) AllZ.nil); (go_simp; refine hK.out _ _ (fun h => absurd rfl h) ?_; (try simp only [Act.put, List.getElem_toArray, List.getElem_cons_succ, List.getElem_cons_zero, List.setIfInBounds_toArray, List.set_cons_succ, List.set_cons_zero]); clear hK; refine wpZ_done (by kernel_rfl) ?_ _)))
                      all_goals
                        go_wp2
                        go_roundw
                        case rel =>
                          have e2 := HL2.out
                          subst e2
                          exact ⟨n + 1, a9, c9, by omega, by go_num, PnI.app hIU (by rw [HT.out]; exact Nat.le_refl _) hB2 hs9 ho2⟩
                        case measure => simp [intOf]; omega
                  · obtain rfl : n = t.ments.length := by omega
                    have hTN := hI.town (M.out _ hQ).book
                    have hVp := plain_valid HV.out
                    have SM2 := PSame_any a1 a2 a7 none k1 k2 c7 0 (plainT t) a b V hTN hVp HAB.out (by rw [plain_len]; exact hal) (by rw [plain_len]; exact hbl)
                    rw [if_neg (plain_some HV.out), named_plain HV.out hal hbl HAB.out, ← HCB.out] at SM2
                    have htw := hI.tw
                    rw [plainTo_all] at htw
                    obtain ⟨NP, hNP⟩ : ∃ NP, NP = (plainT t).ments.length := ⟨_, rfl⟩
                    replace SM2 : Calls Tryz.prog 10 #[.agg #[.int .i64 t.ear.sounds, .slice a1 t.ear.alphas.length k1, .slice a2 t.ear.spells.length k2, .int .i64 t.vills, .slice a7 (plainT t).ments.length c7, .slice none 0 0], .int .i64 (a : Int), .int .i64 (b : Int)] V fun e w' => e = .returned (.tuple #[.int .i64 (if can = true then 0 else 2), .int .i64 0]) ∧ Below V.heap.size V w' := SM2
                    rw [← hNP] at SM2 htw
                    replace SM2 := Lib.hid SM2
                    have HR := Lib.hid (HBY.out.trans (hQV.mono HBY.out.size))
                    have z0 := blk_cell 0 htw rfl
                    have z1 := blk_cell 1 htw rfl
                    have z2 := blk_cell 2 htw rfl
                    have z3 := blk_cell 3 htw rfl
                    have z4 := blk_cell 4 htw rfl
                    have z5 := blk_cell 5 htw rfl
                    have zz := lt_of_block htw
                    simp only [List.getElem_toArray, List.getElem_cons_zero, List.getElem_cons_succ] at z0 z1 z2 z3 z4 z5
                    clear htw hTN hVp hI hQV hNP
                    replace hQ := Below.refl V.heap.size V
                    cases can
                    all_goals
                      go_wp2_with (first
                        | (go_at_call 7; (with_reducible refine (PAwake_any _).mono ?_); rintro e w9 ⟨rfl, hb⟩; replace hQ := q_onE hQ hb; dsimp only)
                        | (go_at_call 6; (with_reducible refine (EAwake_any _).mono ?_); rintro e w8 ⟨rfl, hb⟩; replace hQ := q_onE hQ hb; dsimp only)
                        | (go_at_call 10; (with_reducible refine SM2.out.mono ?_); simp only [Bool.false_eq_true, if_false, if_true]; rintro e w10 ⟨rfl, hb⟩; replace hQ := q_onE hQ hb; dsimp only))
                      go_ret
                      exact ⟨rfl, HR.out.trans (hQ.mono HR.out.size)⟩
end Go.Proofs.YtklconegomgjaaaGreat
