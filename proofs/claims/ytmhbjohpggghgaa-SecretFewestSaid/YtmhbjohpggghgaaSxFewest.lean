/- What is proved here: the walk of SecretFewest: it returns true, and turns nothing that was there. Conditions: the room lies in memory. -/
import Derived.Test.YtmhbjohpggghgaaSwB
import Derived.Test.YtmhbjohpggghgaaSw3
set_option linter.unusedVariables false
set_option linter.unusedSimpArgs false
namespace Go.Proofs.Ytmhbjohpggghgaa
open Go Go.RowKit
theorem But_is (a1 a2 a3 a4 a5 : Option Addr) (k1 k2 k3 k4 k5 : Nat) (r : SeRoom) (l : List Int) (K : SeRoom) (hK : butRoom r l = K) (ab : Option Addr) (cb : Nat) (w : World) (hm : RoomC w a1 a2 a3 a4 a5 k1 k2 k3 k4 k5 r) (hn : r.heard.length ≤ 3) (hsb : SlOk ab l.length cb) (hib : IntsC w ab l) :
    Calls Try.prog 44 #[(.agg #[.slice a1 r.writers.length k1, .slice a2 r.kept.length k2, .slice a3 r.leaks.length k3, .slice a4 r.letters.length k4, .slice a5 r.heard.length k5]), .slice ab l.length cb] w fun e w' => ∃ b5 d5, e = .returned (.agg #[.slice a1 r.writers.length k1, .slice a2 r.kept.length k2, .slice a3 r.leaks.length k3, .slice a4 r.letters.length k4, .slice b5 K.heard.length d5]) ∧ RoomC w' a1 a2 a3 a4 b5 k1 k2 k3 k4 d5 K ∧ Lens K r.writers.length r.kept.length r.leaks.length r.letters.length K.heard.length ∧ Below w.heap.size w w' := by
  subst hK
  exact (RBut_any a1 a2 a3 a4 a5 k1 k2 k3 k4 k5 r ab l cb w hm hn hsb hib).mono fun e w' ⟨b5, d5, h1, h2, h3⟩ => ⟨b5, d5, h1, h2, ⟨rfl, rfl, rfl, rfl, rfl⟩, h3⟩
set_option maxRecDepth 100000 in
set_option maxHeartbeats 4000000 in
theorem SecretFewest_walk (a1 a2 a3 a4 a5 : Option Addr) (k1 k2 k3 k4 k5 : Nat) (r : SeRoom) (x : Nat) (hx0 : x ≤ 255) (w : World) (hm : RoomC w a1 a2 a3 a4 a5 k1 k2 k3 k4 k5 r) : Calls Try.prog 9 #[(.agg #[.slice a1 r.writers.length k1, .slice a2 r.kept.length k2, .slice a3 r.leaks.length k3, .slice a4 r.letters.length k4, .slice a5 r.heard.length k5]), .int .u8 (x : Int)] w fun e w' => e = .returned (.bool true) ∧ Below w.heap.size w w' := by
  obtain ⟨X, hX⟩ : ∃ X : World, X = (w.alloc (.cells #[.slice a1 r.writers.length k1, .slice a2 r.kept.length k2, .slice a3 r.leaks.length k3, .slice a4 r.letters.length k4, .slice a5 r.heard.length k5] 28)) := ⟨_, rfl⟩
  have hwX : Below w.heap.size w X := by rw [hX]; exact (by (repeat' (first | assumption | exact Below.refl _ _ | refine below_drew' ?_ | refine Below.setCell ?_ (by first | omega | (simp <;> omega)) _ | refine Below.alloc ?_ (by first | omega | (simp <;> omega)) _)))
  have g1 : X.heap[w.heap.size]? = some (.cells #[.slice a1 r.writers.length k1, .slice a2 r.kept.length k2, .slice a3 r.leaks.length k3, .slice a4 r.letters.length k4, .slice a5 r.heard.length k5] 28 (0, 0)) := by rw [hX]; (repeat' (first | exact alloc_at _ _ (by simp) | refine (heap_alloc_old _ _ (by first | omega | (simp <;> omega))).trans ?_))
  replace g1 := fun (V : World) (h : Below X.heap.size X V) => (h.block _ (lt_of_block g1)).trans g1
  have HC : Hid (∀ V, Below X.heap.size X V → (V.cell? ⟨w.heap.size, 0, none⟩ = some (.slice a1 r.writers.length k1) ∧ V.cell? ⟨w.heap.size, 1, none⟩ = some (.slice a2 r.kept.length k2) ∧ V.cell? ⟨w.heap.size, 2, none⟩ = some (.slice a3 r.leaks.length k3) ∧ V.cell? ⟨w.heap.size, 3, none⟩ = some (.slice a4 r.letters.length k4) ∧ V.cell? ⟨w.heap.size, 4, none⟩ = some (.slice a5 r.heard.length k5) ∧ w.heap.size < V.heap.size)) := Lib.hid (fun V h => ⟨blk_cell 0 (g1 V h) rfl, blk_cell 1 (g1 V h) rfl, blk_cell 2 (g1 V h) rfl, blk_cell 3 (g1 V h) rfl, blk_cell 4 (g1 V h) rfl, lt_of_block (g1 V h)⟩)
  have M := Lib.hid (fun (V : World) (h : Below X.heap.size X V) => (hm.mono hwX).mono h)
  clear g1
  have hQ := Below.refl X.heap.size X
  have hx := HC.out _ hQ
  by_cases he : seErr r = 0
  · obtain ⟨l, hw, hli, hso, hfe⟩ := fewest_is he (idxTo_incr (x : Int) r.heard.length)
    have hr := rising_incr hli
    have hll := incr_len hli
    have vh := (seValid_of he).nh
    have hv : decide (seErr r = 0) = true := decide_eq_true he
    have IL := Lib.hid (idxTo_len (x : Int))
    generalize hK1 : butRoom r l = K1 at hso
    generalize hO : idxTo (x : Int) r.heard.length = O at hfe
    generalize hK2 : butRoom r O = K2 at hfe
    replace hK1 := Lib.hid hK1
    replace hK2 := Lib.hid hK2
    replace hw := Lib.hid hw
    replace hr := Lib.hid hr
    replace hso := Lib.hid hso
    replace hv := Lib.hid hv
    replace hO := Lib.hid hO
    clear hli he
    go_enter Try.func9, Try.ntmps9
    go_upto_region 1 with (fail)
    rw [← hX]
    clear hX
    go_wp2_with (first
      | (go_at_call 37; (with_reducible refine (Valid_is _ _ _ _ _ _ _ _ _ _ r true hv.out _ (M.out _ hQ)).mono ?_); rintro e w3 ⟨rfl, hb⟩; replace i1 := i1.mono hb; replace hQ := q_on hQ hb; replace hx := HC.out _ hQ; dsimp only)
      | (go_at_call 25; (with_reducible refine (A_Wrong _ _ _ _ _ _ _ _ _ _ r l 0 hw.out _ (M.out _ hQ)).mono ?_); rintro e w2 ⟨b1, c1, rfl, o1, i1, hb⟩; replace hQ := q_on hQ hb; replace hx := HC.out _ hQ; dsimp only))
    go_loopw [7, 8] (fun o i wq => ∃ k : Nat, k ≤ r.heard.length ∧ i = .int .i64 k ∧ wq.ownsRow w3.heap.size 3 1 o (idxTo (x : Int) k).length ((idxTo (x : Int) k).map (Value.int .i64)) ∧ Below w3.heap.size w3 wq) (fun _ i _ => r.heard.length - (intOf i).toNat)
    case atStart => exact ⟨0, Nat.zero_le _, rfl, World.ownsRow_nil _ _ _ _, Below.refl _ _⟩
    case round =>
      obtain ⟨k, hk, rfl, hown, hB⟩ := hrel
      have hBz := hB.size
      have hQ5 := q_on hQ hB
      have hx := HC.out _ hQ5
      by_cases hlt : k < r.heard.length
      · have hy := Lib.hid (idxTo_yes (b := (x : Int)) (j := k))
        have hn := Lib.hid (idxTo_no (b := (x : Int)) (j := k))
        have hpl := IL.out k
        generalize hL : idxTo (x : Int) k = L at hown hy hn hpl
        clear hL
        cases hbit : bitB (x : Int) k
        · have hs0 := shr_no (by omega) hbit
          go_wp2
          go_roundw
          case rel => exact ⟨k + 1, by omega, by go_num, by rw [hn.out hbit]; exact hown, hB⟩
          case measure => simp [intOf]; omega
        · have hs1 := shr_yes (by omega) hbit
          go_wp2_with (at_builtin; go_must (refine wpList_app (.tmp 40) (.tmp 42) E_int rfl rfl rfl rfl w3.heap.size L.length 1 (L.map (Value.int .i64)) [.int .i64 (k : Int)] (hown.alloc _) (SrcAt.one _ _ _ rfl) (by omega) (by decide) (by simp; omega) ?_; intro v2 w8 ho2 hg2 _; (have hb2 := app_next hB (Nat.le_refl _) (Nat.le_refl _) hown hg2); clear hg2; simp only [Act.put, List.setIfInBounds_toArray, List.set_cons_succ, List.set_cons_zero]))
          go_roundw
          case rel => exact ⟨k + 1, by omega, by go_num, by rw [hy.out hbit]; simpa using ho2, hb2⟩
          case measure => simp [intOf]; omega
      · obtain rfl : k = r.heard.length := by omega
        rw [hO.out] at hown
        obtain ⟨a3, c3, rfl, o3, i3⟩ := ints_ownV hown
        replace i1 := i1.mono hB
        replace hQ := hQ5
        clear hQ5 hB hBz hk hlt hO
        have hol := o3.len
        rcases Bool.eq_false_or_eq_true (someB K2) with hs2 | hs2
        · have hf := Lib.hid (hfe hs2)
          replace hs2 := Lib.hid hs2
          clear hfe
          go_wp2_with (first
            | ((go_at_call 22; (with_reducible refine (Awake_any _).mono ?_); rintro e w11 ⟨rfl, hb⟩; replace hQ := q_on hQ hb; replace hx := HC.out _ hQ; dsimp only))
            | (go_at_call 45; (with_reducible refine (Fewer_no _ _ _ _ _ _ _ hf.out o3.len o1.len i3 i1).mono ?_); rintro e w10 ⟨rfl, hb⟩; replace i1 := i1.mono hb; replace i3 := i3.mono hb; replace hQ := q_on hQ hb; replace hx := HC.out _ hQ; dsimp only)
            | (go_at_call 43; (with_reducible refine (C_Some _ _ _ _ _ _ _ _ _ _ _ _ _ _ _ K2 hL2 true hs2.out _ m2).mono ?_); rintro e w9 ⟨rfl, hb⟩; replace i1 := i1.mono hb; replace i3 := i3.mono hb; replace hQ := q_on hQ hb; replace hx := HC.out _ hQ; dsimp only)
            | (go_at_call 44; (with_reducible refine (But_is _ _ _ _ _ _ _ _ _ _ r O K2 hK2.out _ _ _ (M.out _ hQ) vh o3 i3).mono ?_); rintro e w8 ⟨b52, d52, rfl, m2, hL2, hb⟩; replace i1 := i1.mono hb; replace i3 := i3.mono hb; replace hQ := q_on hQ hb; replace hx := HC.out _ hQ; dsimp only)
            | (go_at_call 43; (with_reducible refine (C_Some _ _ _ _ _ _ _ _ _ _ _ _ _ _ _ K1 hL1 true hso.out _ m1).mono ?_); rintro e w7 ⟨rfl, hb⟩; replace i1 := i1.mono hb; replace i3 := i3.mono hb; replace hQ := q_on hQ hb; replace hx := HC.out _ hQ; dsimp only)
            | (go_at_call 44; (with_reducible refine (But_is _ _ _ _ _ _ _ _ _ _ r l K1 hK1.out _ _ _ (M.out _ hQ) vh o1 i1).mono ?_); rintro e w6 ⟨b51, d51, rfl, m1, hL1, hb⟩; replace i1 := i1.mono hb; replace i3 := i3.mono hb; replace hQ := q_on hQ hb; replace hx := HC.out _ hQ; dsimp only)
            | (go_at_call 42; (with_reducible refine (Rising_yes _ _ _ _ _ hr.out o1.len i1).mono ?_); rintro e w5 ⟨rfl, rfl⟩; dsimp only))
          go_ret
          exact ⟨rfl, hwX.trans (hQ.mono hwX.size)⟩
        · replace hs2 := Lib.hid hs2
          clear hfe
          go_wp2_with (first
            | ((go_at_call 22; (with_reducible refine (Awake_any _).mono ?_); rintro e w11 ⟨rfl, hb⟩; replace hQ := q_on hQ hb; replace hx := HC.out _ hQ; dsimp only))
            | (go_at_call 43; (with_reducible refine (C_Some _ _ _ _ _ _ _ _ _ _ _ _ _ _ _ K2 hL2 false hs2.out _ m2).mono ?_); rintro e w9 ⟨rfl, hb⟩; replace i1 := i1.mono hb; replace i3 := i3.mono hb; replace hQ := q_on hQ hb; replace hx := HC.out _ hQ; dsimp only)
            | (go_at_call 44; (with_reducible refine (But_is _ _ _ _ _ _ _ _ _ _ r O K2 hK2.out _ _ _ (M.out _ hQ) vh o3 i3).mono ?_); rintro e w8 ⟨b52, d52, rfl, m2, hL2, hb⟩; replace i1 := i1.mono hb; replace i3 := i3.mono hb; replace hQ := q_on hQ hb; replace hx := HC.out _ hQ; dsimp only)
            | (go_at_call 43; (with_reducible refine (C_Some _ _ _ _ _ _ _ _ _ _ _ _ _ _ _ K1 hL1 true hso.out _ m1).mono ?_); rintro e w7 ⟨rfl, hb⟩; replace i1 := i1.mono hb; replace i3 := i3.mono hb; replace hQ := q_on hQ hb; replace hx := HC.out _ hQ; dsimp only)
            | (go_at_call 44; (with_reducible refine (But_is _ _ _ _ _ _ _ _ _ _ r l K1 hK1.out _ _ _ (M.out _ hQ) vh o1 i1).mono ?_); rintro e w6 ⟨b51, d51, rfl, m1, hL1, hb⟩; replace i1 := i1.mono hb; replace i3 := i3.mono hb; replace hQ := q_on hQ hb; replace hx := HC.out _ hQ; dsimp only)
            | (go_at_call 42; (with_reducible refine (Rising_yes _ _ _ _ _ hr.out o1.len i1).mono ?_); rintro e w5 ⟨rfl, rfl⟩; dsimp only))
          go_ret
          exact ⟨rfl, hwX.trans (hQ.mono hwX.size)⟩
  · have hw := wrong_bad he
    have hv : decide (seErr r = 0) = false := decide_eq_false he
    have hne := nei_t he
    generalize seErr r = e0 at hw hne
    replace hw := Lib.hid hw
    replace hv := Lib.hid hv
    clear he
    go_enter Try.func9, Try.ntmps9
    go_upto_region 1 with (fail)
    rw [← hX]
    clear hX
    go_wp2_with (first
      | (go_at_call 22; (with_reducible refine (Awake_any _).mono ?_); rintro e w4 ⟨rfl, hb⟩; replace hQ := q_on hQ hb; replace hx := HC.out _ hQ; dsimp only)
      | (go_at_call 37; (with_reducible refine (Valid_is _ _ _ _ _ _ _ _ _ _ r false hv.out _ (M.out _ hQ)).mono ?_); rintro e w3 ⟨rfl, hb⟩; replace hQ := q_on hQ hb; replace hx := HC.out _ hQ; dsimp only)
      | (go_at_call 25; (with_reducible refine (A_Wrong _ _ _ _ _ _ _ _ _ _ r [] e0 hw.out _ (M.out _ hQ)).mono ?_); rintro e w2 ⟨b1, c1, rfl, o1, i1, hb⟩; replace hQ := q_on hQ hb; replace hx := HC.out _ hQ; dsimp only))
    go_ret
    exact ⟨rfl, hwX.trans (hQ.mono hwX.size)⟩
end Go.Proofs.Ytmhbjohpggghgaa
