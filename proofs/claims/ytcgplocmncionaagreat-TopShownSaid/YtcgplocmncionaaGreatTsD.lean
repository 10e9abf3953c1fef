/- What is proved here: the walk of TopShown: it returns true, and turns nothing that was there. Conditions: the room lies in memory. -/
import Derived.Test.YtcgplocmncionaaGreatSeOpenG
import Derived.Test.YtcgplocmncionaaGreatTsC
import Derived.Test.YtcgplocmncionaaGreatChAw2
import Derived.Test.YtcgplocmncionaaGreatTsE
set_option linter.unusedVariables false
set_option linter.unusedSimpArgs false
namespace Go.Proofs.YtcgplocmncionaaGreat
open Go Go.RowKit Go.Shelf

set_option maxRecDepth 100000 in
set_option maxHeartbeats 16000000 in
theorem TopShown_walk (a1 a2 a3 a4 a5 : Option Addr) (k1 k2 k3 k4 k5 : Nat) (r : SeRoom) (x0 x1 x2 : Nat) (gx0 : x0 ≤ 255) (gx1 : x1 ≤ 255) (gx2 : x2 ≤ 255) (w : World) (hm : RoomC w a1 a2 a3 a4 a5 k1 k2 k3 k4 k5 r) : Calls Tryz.prog 3 #[(.agg #[.slice a1 r.writers.length k1, .slice a2 r.kept.length k2, .slice a3 r.leaks.length k3, .slice a4 r.letters.length k4, .slice a5 r.heard.length k5]), .agg #[.int .u8 (x0 : Int), .int .u8 (x1 : Int), .int .u8 (x2 : Int)]] w fun e w' => e = .returned (.bool true) ∧ Below w.heap.size w w' := by
  obtain ⟨X, hX⟩ : ∃ X : World, X = ((w.alloc (.cells #[.slice a1 r.writers.length k1, .slice a2 r.kept.length k2, .slice a3 r.leaks.length k3, .slice a4 r.letters.length k4, .slice a5 r.heard.length k5] 28)).alloc (.cells #[.int .u8 (x0 : Int), .int .u8 (x1 : Int), .int .u8 (x2 : Int)] 29)) := ⟨_, rfl⟩
  have hwX : Below w.heap.size w X := by rw [hX]; exact (by (repeat' (first | assumption | exact Below.refl _ _ | refine below_drew' ?_ | refine Below.setCell ?_ (by first | omega | (simp <;> omega)) _ | refine Below.alloc ?_ (by first | omega | (simp <;> omega)) _)))
  have g1 : X.heap[w.heap.size]? = some (.cells #[.slice a1 r.writers.length k1, .slice a2 r.kept.length k2, .slice a3 r.leaks.length k3, .slice a4 r.letters.length k4, .slice a5 r.heard.length k5] 28 (0, 0)) := by rw [hX]; (repeat' (first | exact alloc_at _ _ (by simp) | refine (heap_alloc_old _ _ (by first | omega | (simp <;> omega))).trans ?_))
  have g2 : X.heap[w.heap.size + 1]? = some (.cells #[.int .u8 (x0 : Int), .int .u8 (x1 : Int), .int .u8 (x2 : Int)] 29 (0, 0)) := by rw [hX]; (repeat' (first | exact alloc_at _ _ (by simp) | refine (heap_alloc_old _ _ (by first | omega | (simp <;> omega))).trans ?_))
  have q4 : X.cell? ⟨w.heap.size, 4, none⟩ = some (.slice a5 r.heard.length k5) := blk_cell 4 g1 rfl
  have f4 := blk_free 4 g1
  have zX := lt_of_block g1
  go_enter Tryz.func3, Tryz.ntmps3
  go_upto_region 1 with (fail)
  rw [← hX]
  clear hX
  go_upto_region 2 with (fail)
  obtain ⟨Y, hY⟩ : ∃ Y : World, Y = X.setCell ⟨w.heap.size, 4, none⟩ (.slice none 0 0) := ⟨_, rfl⟩
  rw [← hY]
  have hwY : Below w.heap.size w Y := by rw [hY]; exact hwX.setCell (Nat.le_refl _) _
  obtain ⟨R, hR⟩ : ∃ R, R = ({ r with heard := [] } : SeRoom) := ⟨_, rfl⟩
  have HR0 : Hid (R.heard = []) := Lib.hid (by rw [hR])
  have hMY : RoomC Y a1 a2 a3 a4 none k1 k2 k3 k4 0 R := by
    have h := hm.mono hwY
    rw [hR]
    exact ⟨h.ok1, h.ok2, h.ok3, h.ok4, ⟨Nat.le_refl _, by show 0 ≤ 9223372036854775807; omega, fun _ => rfl⟩, h.writers, h.kept, h.leaks, h.letters, fun i hi => absurd hi (Nat.not_lt_zero i), h.wsize⟩
  have h1 : Y.heap[w.heap.size]? = some (.cells #[.slice a1 R.writers.length k1, .slice a2 R.kept.length k2, .slice a3 R.leaks.length k3, .slice a4 R.letters.length k4, .slice none R.heard.length 0] 28 (0, 0)) := by rw [hY, hR]; exact blk_set 4 _ g1
  have h2 : Y.heap[w.heap.size + 1]? = some (.cells #[.int .u8 (x0 : Int), .int .u8 (x1 : Int), .int .u8 (x2 : Int)] 29 (0, 0)) := by rw [hY]; exact (Below.heap_setCell _ _ _ _ (by simp)).trans g2
  have HC : Hid (∀ V, Below Y.heap.size Y V → (V.cell? ⟨w.heap.size, 0, none⟩ = some (.slice a1 R.writers.length k1) ∧ V.cell? ⟨w.heap.size, 1, none⟩ = some (.slice a2 R.kept.length k2) ∧ V.cell? ⟨w.heap.size, 2, none⟩ = some (.slice a3 R.leaks.length k3) ∧ V.cell? ⟨w.heap.size, 3, none⟩ = some (.slice a4 R.letters.length k4) ∧ V.cell? ⟨w.heap.size, 4, none⟩ = some (.slice none R.heard.length 0) ∧ w.heap.size < V.heap.size ∧ V.cell? ⟨w.heap.size + 1, 0, none⟩ = some (.int .u8 (x0 : Int)) ∧ V.cell? ⟨w.heap.size + 1, 1, none⟩ = some (.int .u8 (x1 : Int)) ∧ V.cell? ⟨w.heap.size + 1, 2, none⟩ = some (.int .u8 (x2 : Int)) ∧ w.heap.size + 1 < V.heap.size)) := Lib.hid (fun V h => by
    have v1 := (h.block _ (lt_of_block h1)).trans h1
    have v2 := (h.block _ (lt_of_block h2)).trans h2
    exact ⟨blk_cell 0 v1 rfl, blk_cell 1 v1 rfl, blk_cell 2 v1 rfl, blk_cell 3 v1 rfl, blk_cell 4 v1 rfl, lt_of_block v1, blk_cell 0 v2 rfl, blk_cell 1 v2 rfl, blk_cell 2 v2 rfl, lt_of_block v2⟩)
  have M := Lib.hid (fun (V : World) (h : Below Y.heap.size Y V) => hMY.mono h)
  have hQ := Below.refl Y.heap.size Y
  have hx := HC.out _ hQ
  have l1 := hMY.ok1.len
  have l2 := hMY.ok2.len
  have l3 := hMY.ok3.len
  have l4 := hMY.ok4.len
  have hwYz := Lib.hid hwY
  clear hY hR g1 g2 q4 f4 h1 h2 hwX hm hMY hwY zX
  have CK := fun (V : World) (h : Below Y.heap.size Y V) => RCheck_any _ _ _ _ _ _ _ _ _ _ R V (M.out V h)
  have HSE : Hid (seErr R = (seCheck R).2.2) := Lib.hid rfl
  obtain ⟨p1, hp1⟩ : ∃ p, p = (seCheck R).1 := ⟨_, rfl⟩
  obtain ⟨p2, hp2⟩ : ∃ p, p = (seCheck R).2.1 := ⟨_, rfl⟩
  obtain ⟨ce, hce⟩ : ∃ p, p = (seCheck R).2.2 := ⟨_, rfl⟩
  rw [← hce] at HSE
  simp only [← hp1, ← hp2, ← hce] at CK
  clear hp1 hp2 hce
  replace CK := Lib.hid CK
  go_upto_region 3 with (go_at_call 4; go_must (refine (CK.out _ hQ).mono ?_; rintro e w2 ⟨rfl, hb⟩; replace hQ := q_on hQ hb; replace hx := HC.out _ hQ; dsimp only))
  by_cases hbad : ce ≠ 0 ∨ R.writers.length = 0 ∨ R.kept.length = 0
  · obtain ⟨m, e0, hk, he0⟩ := none_knows (r := R) (by rw [HSE.out]; exact hbad)
    have hne := nei_t he0
    have hce2 : (ce != 0) = true ∨ ((ce != 0) = false ∧ (((R.writers.length : Int) == 0) = true ∨ ((R.writers.length : Int) == 0) = false ∧ ((R.kept.length : Int) == 0) = true)) := by
      by_cases h1 : ce = 0
      · refine .inr ⟨nei_f h1, ?_⟩
        by_cases h2 : R.writers.length = 0
        · exact .inl (eqi_t (by omega))
        · exact .inr ⟨eqi_f (by omega), eqi_t (by rcases hbad with h | h | h; exact absurd h1 h; exact absurd h h2; omega)⟩
      · exact .inl (nei_t h1)
    replace hk := Lib.hid hk
    clear he0 hbad
    rcases hce2 with c1 | ⟨c1, c2 | ⟨c2, c3⟩⟩
    all_goals
      go_wp2_with (first
        | (go_at_call 7; (with_reducible refine (Awake_any _).mono ?_); rintro e w5 ⟨rfl, hb⟩; replace hQ := q_on hQ hb; replace hx := HC.out _ hQ; dsimp only)
        | (go_at_call 6; (with_reducible refine (CAwake_any _).mono ?_); rintro e w4 ⟨rfl, hb⟩; replace hQ := q_on hQ hb; replace hx := HC.out _ hQ; dsimp only)
        | (go_at_call 5; (with_reducible refine (A_Knows _ _ _ _ _ _ _ _ _ _ R 0 0 0 m e0 hk.out _ (M.out _ hQ)).mono ?_); rintro e w3 ⟨rfl, hb⟩; replace hQ := q_on hQ hb; replace hx := HC.out _ hQ; dsimp only))
      go_ret
      exact ⟨rfl, hwYz.out.trans (hQ.mono hwYz.out.size)⟩
  · have hc0 : ce = 0 := Classical.byContradiction fun h => hbad (.inl h)
    have hw0 : 0 < R.writers.length := Nat.pos_of_ne_zero fun h => hbad (.inr (.inl h))
    have hk0 : 0 < R.kept.length := Nat.pos_of_ne_zero fun h => hbad (.inr (.inr h))
    have he : seErr R = 0 := by rw [HSE.out]; exact hc0
    have hv := seValid_of he
    have c1 := nei_f hc0
    have c2 : ((R.writers.length : Int) == 0) = false := eqi_f (by omega)
    have c3 : ((R.kept.length : Int) == 0) = false := eqi_f (by omega)
    have n1 := hv.nw
    have n2 := hv.nk
    have n3 := hv.nl
    have n4 := hv.nt
    obtain ⟨who, hwho⟩ : ∃ n : Nat, n = x0 % R.writers.length := ⟨_, rfl⟩
    have hul : who < R.writers.length := by rw [hwho]; exact Nat.mod_lt _ hw0
    have f1 : (x0 : Int) % (R.writers.length : Int) = (who : Int) := by rw [hwho]; exact (Int.natCast_emod _ _).symm
    have f1t : (x0 : Int).tmod (R.writers.length : Int) = (who : Int) := by rw [Int.tmod_eq_emod_of_nonneg (by omega)]; exact f1
    obtain ⟨s, hsn⟩ : ∃ n : Nat, n = x1 % R.kept.length := ⟨_, rfl⟩
    have hsl : s < R.kept.length := by rw [hsn]; exact Nat.mod_lt _ hk0
    have f2 : (x1 : Int) % (R.kept.length : Int) = (s : Int) := by rw [hsn]; exact (Int.natCast_emod _ _).symm
    have f2t : (x1 : Int).tmod (R.kept.length : Int) = (s : Int) := by rw [Int.tmod_eq_emod_of_nonneg (by omega)]; exact f2
    have HE := Lib.hid he
    have HV := Lib.hid hv
    have F1 := Lib.hid (And.intro f1 f1t)
    have F2 := Lib.hid (And.intro f2 f2t)
    clear hwho hsn hbad hc0 he hv f1 f1t f2 f2t CK
    go_upto_region 6 with (fail)
    clear c1 c2 c3 HSE
    go_cut [10, 11] from 67 to 80 (fun u v W => u = .int .i64 (who : Int) ∧ v = .int .i64 (s : Int) ∧ Below Y.heap.size Y W)
    case first =>
      go_quiet (fail)
      go_wp2
      go_meet
      case rel => exact ⟨by simp only [F1.out.1, F1.out.2], by simp only [F2.out.1, F2.out.2], hQ.trans ((below_draws _ _ _).mono hQ.size)⟩
    case rest =>
      obtain ⟨rfl, rfl, hQ3⟩ := hcut
      rename World => W3
      clear hx hQ F1 F2 hb
      have hx := HC.out _ hQ3
      go_upto_region 9 with (fail)
      go_loopw [12, 13] (fun o i V => ∃ k : Nat, k ≤ R.leaks.length ∧ i = .int .i64 k ∧ V.ownsRow W3.heap.size 3 1 o (sureT R k).length ((sureT R k).map (Value.int .i64)) ∧ Below W3.heap.size W3 V) (fun _ i _ => R.leaks.length - (intOf i).toNat)
      case atStart => exact ⟨0, Nat.zero_le _, rfl, World.ownsRow_nil _ _ _ _, Below.refl _ _⟩
      case round =>
        clear hx
        rename World => V
        obtain ⟨k, hk, rfl, hown, hB⟩ := hrel
        have hB1 := hB.size
        have hQ := hQ3.trans (hB.mono hQ3.size)
        have hx := HC.out _ hQ
        by_cases hlt : k < R.leaks.length
        · have hst := Lib.hid (sureT_step hlt)
          have hkl := sureT_len R k
          obtain ⟨b, off, rfl, hbb, e1, e2, e3⟩ := (M.out _ hQ).leaks k hlt
          have hki : (k : Int) < R.leaks.length := by omega
          generalize R.leaks[k] = x at e1 e2 e3 hst
          obtain ⟨xs, xd, su⟩ := x
          simp only at e1 e2 e3 hst
          generalize sureT R k = L at hown hst hkl
          cases su
          · replace hst := Lib.hid (hst.out.trans (if_neg (by decide)))
            go_wp2
            go_roundw
            case rel => exact ⟨k + 1, by omega, by go_num, by rw [hst.out]; exact hown, hB⟩
            case measure => simp [intOf]; omega
          · replace hst := Lib.hid (hst.out.trans (if_pos rfl))
            go_wp2_with (at_builtin; go_must (refine wpList_app (.tmp 94) (.tmp 96) E_int rfl rfl rfl rfl W3.heap.size L.length 1 (L.map (Value.int .i64)) [.int .i64 (k : Int)] (hown.alloc _) (SrcAt.one _ _ _ rfl) (by omega) (by decide) (by simp; omega) ?_; intro v2 w2 ho2 hg2 _; (have hb2 := app_next hB (Nat.le_refl _) (Nat.le_refl _) hown hg2); clear hg2; simp only [Act.put, List.setIfInBounds_toArray, List.set_cons_succ, List.set_cons_zero]))
            go_roundw
            case rel => exact ⟨k + 1, by omega, by go_num, by rw [hst.out]; simpa using ho2, hb2⟩
            case measure => simp [intOf]; omega
        · obtain rfl : k = R.leaks.length := by omega
          obtain ⟨aS, cS, rfl, hso, hsi, -⟩ := ints_ownN hown
          clear hown hB hB1
          obtain ⟨T, hT⟩ : ∃ T, T = sureT R R.leaks.length := ⟨_, rfl⟩
          rw [← hT] at hso hsi ⊢
          have HT : Hid (T = sureLk R) := Lib.hid hT
          have hTb : ∀ x ∈ T, 0 ≤ x ∧ x < (R.leaks.length : Int) := by rw [hT]; exact sureLk_bd R
          have HTB := Lib.hid hTb
          clear hT hTb hk
          go_upto_region 16 with (fail)
          obtain ⟨Z, hZ⟩ : ∃ Z : World, Z = (V.alloc (.cells #[.string ⟨#[115, 104, 101]⟩] 9)).alloc (.cells #[.int .i64 1, .int .i64 (R.kept.length : Int), .slice (some ⟨V.heap.size, 0, none⟩) 1 1, .int .i64 (R.letters.length : Int), .slice none 0 0, .slice none 0 0] 41) := ⟨_, rfl⟩
          rw [← hZ]
          have hVZ : Below V.heap.size V Z := by rw [hZ]; exact (al_on _ _).trans ((al_on _ _).mono (by simp))
          have hI0 : TsI Y Z V.heap.size (V.heap.size + 1) aS T R who 0 none 0 := ⟨q_on hQ hVZ, by rw [hZ]; exact (heap_alloc_old _ _ (by simp)).trans (alloc_at _ _ rfl), by rw [hZ]; exact alloc_at _ _ (by simp), ⟨Nat.le_refl _, by omega, fun _ => rfl⟩, fun i hi => absurd hi (Nat.not_lt_zero i), (IntsB.of hsi).below hVZ⟩
          have hpz : Y.heap.size ≤ V.heap.size := hQ.size
          obtain ⟨ps, hps⟩ : ∃ ps, ps = V.heap.size := ⟨_, rfl⟩
          rw [← hps] at hI0 hpz ⊢
          clear hZ hVZ hsi hx hQ hps hQ3
          clear V
          go_loopw [15, 16] (fun m i V => ∃ (k : Nat) (a : Option Addr) (c : Nat), k ≤ R.letters.length ∧ i = .int .i64 k ∧ m = .int .i64 (manyTo R who s k : Int) ∧ TsI Y V ps (ps + 1) aS T R who k a c) (fun _ i _ => R.letters.length - (intOf i).toNat)
          case atStart => exact ⟨0, none, 0, Nat.zero_le _, rfl, rfl, hI0⟩
          case round =>
            clear hI0
            rename World => V0
            obtain ⟨k, a, c, hk, rfl, rfl, hI⟩ := hrel
            have hx := HC.out _ hI.q
            by_cases hlt : k < R.letters.length
            · have hki : (k : Int) < R.letters.length := by omega
              have hv4 := HV.out.letters k hlt
              obtain ⟨b, off, rfl, hbb, e1, e2, e3⟩ := (M.out _ hI.q).letters k hlt
              have HCS := Lib.hid (copiesTo_succ (who := who) hlt)
              have HMS := Lib.hid (manyTo_succ (who := who) (s := s) hlt)
              obtain ⟨xl, hxl⟩ : ∃ xl, xl = R.letters[k] := ⟨_, rfl⟩
              rw [← hxl] at hv4 e1 e2 e3 HCS HMS
              clear hxl
              obtain ⟨day, sec, wri⟩ := xl
              simp only at hv4 e1 e2 e3
              obtain ⟨f, rfl⟩ : ∃ f : Nat, sec = f := ⟨sec.toNat, by omega⟩
              have hp8 : (2 : Int) ^ R.kept.length ≤ 8 := by
                have : R.kept.length = 0 ∨ R.kept.length = 1 ∨ R.kept.length = 2 ∨ R.kept.length = 3 := by omega
                rcases this with e | e | e | e <;> rw [e] <;> decide
              have hf8 : f < 8 := by omega
              have hdd : 0 ≤ day ∧ day ≤ 10 := by omega
              have hml := manyTo_le R who s k
              clear hp8
              go_upto_region 21 with (fail)
              obtain ⟨U, hU⟩ : ∃ U : World, U = (V0.alloc (.cells #[.int .i64 day, .int .i64 1, .int .i64 wri] 43)).alloc (.cells #[.int .i64 ((k : Int) + 1), .int .i64 0, .int .i64 (f : Int), .int .i64 0] 45) := ⟨_, rfl⟩
              rw [← hU]
              have hVU : Below V0.heap.size V0 U := by rw [hU]; exact (al_on _ _).trans ((al_on _ _).mono (by simp))
              have hLU : U.heap[V0.heap.size]? = some (.cells #[.int .i64 day, .int .i64 1, .int .i64 wri] 43 (0, 0)) := by rw [hU]; exact (heap_alloc_old _ _ (by simp)).trans (alloc_at _ _ rfl)
              have hOU : U.heap[V0.heap.size + 1]? = some (.cells #[.int .i64 ((k : Int) + 1), .int .i64 0, .int .i64 (f : Int), .int .i64 0] 45 (0, 0)) := by rw [hU]; exact alloc_at _ _ (by simp)
              clear hU e1 e2 e3 hx
              have hIU := hI.on hVU
              obtain ⟨D, hD⟩ : ∃ D, D = fromD R [⟨day, 1, wri⟩] T 0 who := ⟨_, rfl⟩
              have HVB : Hid (visB R who ⟨day, (f : Int), wri⟩ = (decide (wri ≠ -1) && decide (D ≤ 9))) := Lib.hid (by rw [hD, HT.out]; rfl)
              have FR := Lib.hid (fun (W : World) (h : Below U.heap.size U W) => From_one _ _ _ _ _ _ _ _ _ _ R day 1 wri aS T cS 0 who D W (M.out W (q_on hIU.q h)) HV.out hdd ⟨by decide, by decide⟩ hso ((hIU.su.ints hIU.sz).mono h) HTB.out (by omega) hul hD.symm)
              clear hD
              obtain ⟨vb, hvb⟩ : ∃ vb, vb = visB R who ⟨day, (f : Int), wri⟩ := ⟨_, rfl⟩
              rw [← hvb] at HVB HMS
              have HVX := Lib.hid hvb
              clear hvb
              have b0 := blk_cell 0 hLU rfl
              have b1 := blk_cell 1 hLU rfl
              have b2 := blk_cell 2 hLU rfl
              have bz := lt_of_block hLU
              have o2 := blk_cell 2 hOU rfl
              have o3 := blk_cell 3 hOU rfl
              have of := blk_free 3 hOU
              have oz := lt_of_block hOU
              simp only [List.getElem_toArray, List.getElem_cons_zero, List.getElem_cons_succ] at b0 b1 b2 o2 o3
              have hx := HC.out _ hIU.q
              have HVU := Lib.hid hVU
              clear hVU
              go_cut [137] from 123 to 136 (fun g W => g = .bool vb ∧ Below U.heap.size U W)
              case first =>
                by_cases hw : wri = -1
                · have g1 := nei_f hw
                  obtain rfl : vb = false := by rw [HVB.out, hw]; rfl
                  clear hw FR
                  go_wp2
                  go_meet
                  case rel => exact ⟨rfl, Below.refl _ _⟩
                · have g1 := nei_t hw
                  replace HVB := Lib.hid (show vb = decide (D ≤ 9) by rw [HVB.out, decide_eq_true hw]; rfl)
                  clear hw
                  have hwi : (who : Int) < R.writers.length := by omega
                  go_wp2_with (go_at_call 8; go_must (refine (FR.out U (Below.refl _ _)).mono ?_; rintro e w9 ⟨g, rfl, hgc, hgz, hb9⟩; dsimp only))
                  go_meet
                  case rel => exact ⟨by rw [HVB.out], hb9⟩
              case rest =>
                obtain ⟨rfl, hUW⟩ := hcut
                rename World => W
                clear hx b0 b1 b2 bz o2 o3 of oz FR HVB
                have hOW := (hUW.block _ (lt_of_block hOU)).trans hOU
                have hVW := HVU.out.trans (hUW.mono HVU.out.size)
                have hIW := hI.on hVW
                clear hUW hOU hLU hIU
                have o2 := blk_cell 2 hOW rfl
                have o3 := blk_cell 3 hOW rfl
                have of := blk_free 3 hOW
                have oz := lt_of_block hOW
                simp only [List.getElem_toArray, List.getElem_cons_zero, List.getElem_cons_succ] at o2 o3
                go_upto_if 137 with (fail)
                go_cut [15] from 138 to 144 (fun m W2 => m = .int .i64 (manyTo R who s (k + 1) : Int) ∧ Below V0.heap.size V0 W2 ∧ W2.heap[V0.heap.size + 1]? = some (.cells #[.int .i64 ((k : Int) + 1), .int .i64 0, .int .i64 (f : Int), .int .i64 (if vb = true then 1 else 0)] 45 (0, 0)))
                case first =>
                  cases vb
                  · go_wp2
                    go_meet
                    case rel => exact ⟨by rw [HMS.out]; simp, hVW, hOW⟩
                  · have hOS := Lib.hid (blk_set 3 (.int .i64 1) hOW)
                    have hbS := Lib.hid (hVW.setCell (p := ⟨V0.heap.size + 1, 3, none⟩) (Nat.le_succ _) (.int .i64 1))
                    obtain ⟨fb, hfb⟩ : ∃ fb, fb = bitB (f : Int) s := ⟨_, rfl⟩
                    have HMS2 : Hid (manyTo R who s (k + 1) = manyTo R who s k + if fb = true then 1 else 0) := Lib.hid (by rw [HMS.out, hfb]; simp)
                    have BT := Lib.hid (fun (W : World) => Bit_is f s fb W hfb.symm (by omega) (by omega))
                    clear hfb
                    cases fb
                    · go_wp2_with (go_at_call 9; go_must (refine (BT.out _).mono ?_; rintro e w9 ⟨rfl, rfl⟩; dsimp only))
                      go_meet
                      case rel => exact ⟨by rw [HMS2.out]; simp, hbS.out, hOS.out⟩
                    · go_wp2_with (go_at_call 9; go_must (refine (BT.out _).mono ?_; rintro e w9 ⟨rfl, rfl⟩; dsimp only))
                      go_meet
                      case rel => exact ⟨by rw [HMS2.out]; simp, hbS.out, hOS.out⟩
                case rest =>
                  obtain ⟨rfl, hVb, hOb⟩ := hcut
                  rename World => V
                  clear o2 o3 of oz hVW hOW hIW
                  have hIV := hI.on hVb
                  obtain ⟨kn, hkn⟩ : ∃ kn : Int, kn = (k : Int) + 1 := ⟨_, rfl⟩
                  obtain ⟨mb, hmb⟩ : ∃ mb : Int, mb = if vb = true then 1 else 0 := ⟨_, rfl⟩
                  obtain ⟨fI, hfI⟩ : ∃ fI : Int, fI = (f : Int) := ⟨_, rfl⟩
                  rw [← hkn, ← hmb, ← hfI] at hOb
                  obtain ⟨L1, hL1⟩ : ∃ L1, L1 = copiesTo R who k := ⟨_, rfl⟩
                  obtain ⟨L2, hL2⟩ : ∃ L2, L2 = copiesTo R who (k + 1) := ⟨_, rfl⟩
                  have htk : Hid (L2 = L1 ++ [(⟨kn, 0, fI, mb⟩ : ChC)]) := Lib.hid (by rw [hL2, hL1, HCS.out, hkn, hmb, hfI, HVX.out]; rfl)
                  have hsz := hIV.ok
                  have hzV := hIV.cp
                  have hVo := hIV.ch
                  rw [← hL1] at hsz hzV hVo
                  have hll : L1.length ≤ 4 := by rw [hL1, (copiesTo_at R who k hk).1]; omega
                  have hbb : (L1.length + 1) * 32 ≤ 140737488355328 := by omega
                  have HL2 := Lib.hid hL2
                  have zoV := lt_of_block hVo
                  have hzo := lt_of_block hOb
                  obtain ⟨po, hpo⟩ : ∃ po, po = V0.heap.size + 1 := ⟨_, rfl⟩
                  rw [← hpo] at hOb hzo ⊢
                  have SF : Hid (∀ W, Below V.heap.size V W → (fun W => Below V.heap.size V W ∧ W.cell? ⟨ps + 1, 4, none⟩ = some (.slice a L1.length c) ∧ W.cell? ⟨po, 0, none⟩ = some (.int .i64 kn) ∧ W.cell? ⟨po, 1, none⟩ = some (.int .i64 0) ∧ W.cell? ⟨po, 2, none⟩ = some (.int .i64 fI) ∧ W.cell? ⟨po, 3, none⟩ = some (.int .i64 mb) ∧ ps + 1 < W.heap.size ∧ po < W.heap.size) W) := Lib.hid (fun W h => by
                    have k1 := (h.block _ (lt_of_block hVo)).trans hVo
                    have k2 := (h.block _ (lt_of_block hOb)).trans hOb
                    exact ⟨h, blk_cell 4 k1 rfl, blk_cell 0 k2 rfl, blk_cell 1 k2 rfl, blk_cell 2 k2 rfl, blk_cell 3 k2 rfl, lt_of_block k1, lt_of_block k2⟩)
                  clear hL1 hL2 hOb HCS HVX hkn hmb hfI hpo HMS
                  go_upto_region 25 with (fail)
                  refine wp_region_z (fun W => Below V.heap.size V W ∧ W.cell? ⟨ps + 1, 4, none⟩ = some (.slice a L1.length c) ∧ W.cell? ⟨po, 0, none⟩ = some (.int .i64 kn) ∧ W.cell? ⟨po, 1, none⟩ = some (.int .i64 0) ∧ W.cell? ⟨po, 2, none⟩ = some (.int .i64 fI) ∧ W.cell? ⟨po, 3, none⟩ = some (.int .i64 mb) ∧ ps + 1 < W.heap.size ∧ po < W.heap.size) 8 (by kernel_rfl) (SF.out V.drew (by (repeat' (first | assumption | exact Below.refl _ _ | refine Below.drew ?_ | refine Below.alloc ?_ (by first | omega | (simp <;> omega)) _)))) (fun hHeld => ?_)
                  (refine wpZ_take (i := 1) (v := ?_) rfl (by kernel_rfl) (by kernel_rfl) (by kernel_rfl) (by kernel_rfl) (fun _ _ _ h => h) (Or.inl ⟨by kernel_rfl, ?_⟩) (by assumption) ?_; rotate_left 1; (focus (intro w hSw; (try dsimp only at hSw); go_simp; first | done | with_reducible rfl)); simp only [Act.put, List.getElem_toArray, List.getElem_cons_succ, List.getElem_cons_zero, List.setIfInBounds_toArray, List.set_cons_succ, List.set_cons_zero])
                  (refine wpZ_take (i := 2) (v := ?_) rfl (by kernel_rfl) (by kernel_rfl) (by kernel_rfl) (by kernel_rfl) (fun _ _ _ h => h) (Or.inl ⟨by kernel_rfl, ?_⟩) (by assumption) ?_; rotate_left 1; (focus (intro w hSw; (try dsimp only at hSw); go_simp; first | done | with_reducible rfl)); simp only [Act.put, List.getElem_toArray, List.getElem_cons_succ, List.getElem_cons_zero, List.setIfInBounds_toArray, List.set_cons_succ, List.set_cons_zero])
                  (refine wpZ_take (i := 4) (v := ?_) rfl (by kernel_rfl) (by kernel_rfl) (by kernel_rfl) (by kernel_rfl) (fun _ _ _ h => h) (Or.inl ⟨by kernel_rfl, ?_⟩) (by assumption) ?_; rotate_left 1; (focus (intro w hSw; (try dsimp only at hSw); go_simp; first | done | with_reducible rfl)); simp only [Act.put, List.getElem_toArray, List.getElem_cons_succ, List.getElem_cons_zero, List.setIfInBounds_toArray, List.set_cons_succ, List.set_cons_zero])
                  refine wpZ_ready (rs := [0, 5]) (by kernel_rfl) (by simp) (AllZ.cons rfl (fun K hK => ?_) (AllZ.cons rfl (fun K hK => ?_) AllZ.nil)); (focus ((go_simp; refine hK.out _ _ (fun _ => SF.out _ (by (repeat' (first | assumption | exact Below.refl _ _ | refine Below.drew ?_ | refine Below.alloc ?_ (by first | omega | (simp <;> omega)) _)))) ?_; (try simp only [Act.put, List.getElem_toArray, List.getElem_cons_succ, List.getElem_cons_zero, List.setIfInBounds_toArray, List.set_cons_succ, List.set_cons_zero]); clear hK); refine wpZ_ready (rs := [3, 5]) (by kernel_rfl) (by simp) (AllZ.cons rfl (fun K hK => ?_) (AllZ.cons rfl (fun K hK => ?_) AllZ.nil)); (focus (have hm0 : ((V.alloc (.cells #[] 45)).drew).ownsRow V.heap.size 45 4 (.slice (some ⟨V.heap.size, 0, none⟩) 0 0) 0 [] := (made_row2 (Nat.le_refl _) _ _).drew; refine step_app2 (.tmp 145) (.tmp 147) (v := .slice (some ⟨V.heap.size, 0, none⟩) 0 0) E_chcopy (by rfl) (by rfl) (by rfl) (by rfl) V.heap.size 0 L1.length [] (flatC copyCells L1) hm0 (SrcAt.chcopies hsz.2.2 (hzV.mono (by (repeat' (first | assumption | exact Below.refl _ _ | refine Below.drew ?_ | refine Below.alloc ?_ (by first | omega | (simp <;> omega)) _))))) (by omega) (by omega) (by first | omega | (simp [drew_heap] <;> omega)) ?_; intro v1 V1 ho1 hg1 _; (have hB1 : Below V.heap.size V V1 := app_grown (by (repeat' (first | assumption | exact Below.refl _ _ | refine Below.drew ?_ | refine Below.alloc ?_ (by first | omega | (simp <;> omega)) _))) hm0 hg1); (rw [Nat.zero_add, List.nil_append] at ho1); have hz1v := hB1.size; refine hK.out _ _ (fun _ => SF.out _ hB1) ?_; (try simp only [Act.put, List.getElem_toArray, List.getElem_cons_succ, List.getElem_cons_zero, List.setIfInBounds_toArray, List.set_cons_succ, List.set_cons_zero]); clear hK; refine wpZ_ready (rs := [5]) (by kernel_rfl) (by simp) (AllZ.cons rfl (fun K hK => ?_) AllZ.nil); (go_simp; refine hK.out _ _ (fun _ => SF.out _ (by (repeat' (first | assumption | exact Below.refl _ _ | refine Below.drew ?_ | refine Below.alloc ?_ (by first | omega | (simp <;> omega)) _)))) ?_; (try simp only [Act.put, List.getElem_toArray, List.getElem_cons_succ, List.getElem_cons_zero, List.setIfInBounds_toArray, List.set_cons_succ, List.set_cons_zero]); clear hK); have hs2 := SrcAt.chcopy1 V1 kn 0 fI mb 45; refine wpZ_ready (rs := [6]) (by kernel_rfl) (by simp) (AllZ.cons rfl (fun K hK => ?_) AllZ.nil); refine step_app2 (.tmp 148) (.tmp 150) (v := v1) E_chcopy (by rfl) (by rfl) (by rfl) (by rfl) V.heap.size L1.length 1 (flatC copyCells L1) [.int .i64 kn, .int .i64 0, .int .i64 fI, .int .i64 mb] (by first | exact ho1 | exact ho1.alloc _) hs2 (by omega) (by omega) (by first | omega | (simp [drew_heap] <;> omega)) ?_; intro v2 V2 ho2 hg2 _; (have hB2 : Below V.heap.size V V2 := app_grown (by (repeat' (first | assumption | exact Below.refl _ _ | refine Below.drew ?_ | refine Below.alloc ?_ (by first | omega | (simp <;> omega)) _))) (by first | exact ho1 | exact ho1.alloc _) hg2); (rw [chcopy_snoc, ← htk.out] at ho2); (have e2 : L1.length + 1 = L2.length := by rw [htk.out]; simp); (rw [e2] at ho2); clear e2; (obtain ⟨-, a9, c9, rfl, hs9, -⟩ := chcopies_own ho2); (have hc2 : V2.heap[ps + 1]? = _ := (hB2.block _ zoV).trans hVo); have hHeld2 := SF.out _ hB2; refine hK.out _ _ (fun _ => hHeld2) ?_; (try simp only [Act.put, List.getElem_toArray, List.getElem_cons_succ, List.getElem_cons_zero, List.setIfInBounds_toArray, List.set_cons_succ, List.set_cons_zero]); clear hK; (refine wpZ_take (i := 7) (v := ?_) rfl (by kernel_rfl) (by kernel_rfl) (by kernel_rfl) (by kernel_rfl) (fun _ _ _ h => h) (Or.inl ⟨by kernel_rfl, ?_⟩) (by assumption) ?_; rotate_left 1; (focus (intro w hSw; (try dsimp only at hSw); go_simp; first | done | with_reducible rfl)); simp only [Act.put, List.getElem_toArray, List.getElem_cons_succ, List.getElem_cons_zero, List.setIfInBounds_toArray, List.set_cons_succ, List.set_cons_zero]); have k2 : V2.cell? ⟨ps + 1, 4, none⟩ = some (.slice a L1.length c) := blk_cell 4 hc2 rfl; have k3 := blk_free 4 hc2; have zo2 := lt_of_block hc2; refine wpZ_ready (rs := [8]) (by kernel_rfl) (by simp) (AllZ.cons rfl (fun K hK => ?_) AllZ.nil); (go_simp; refine hK.out _ _ (fun h => absurd rfl h) ?_; (try simp only [Act.put, List.getElem_toArray, List.getElem_cons_succ, List.getElem_cons_zero, List.setIfInBounds_toArray, List.set_cons_succ, List.set_cons_zero]); clear hK; refine wpZ_done (by kernel_rfl) ?_ _))); rotate_left 1; (focus ((go_simp; refine hK.out _ _ (fun _ => SF.out _ (by (repeat' (first | assumption | exact Below.refl _ _ | refine Below.drew ?_ | refine Below.alloc ?_ (by first | omega | (simp <;> omega)) _)))) ?_; (try simp only [Act.put, List.getElem_toArray, List.getElem_cons_succ, List.getElem_cons_zero, List.setIfInBounds_toArray, List.set_cons_succ, List.set_cons_zero]); clear hK); refine wpZ_ready (rs := [3]) (by kernel_rfl) (by simp) (AllZ.cons rfl (fun K hK => ?_) AllZ.nil); have hm0 : (((V.alloc (.cells #[] 45)).alloc (.cells #[.int .i64 kn, .int .i64 0, .int .i64 fI, .int .i64 mb] 45)).drew).ownsRow V.heap.size 45 4 (.slice (some ⟨V.heap.size, 0, none⟩) 0 0) 0 [] := ((made_row2 (Nat.le_refl _) _ _).alloc _).drew; have hsr : SrcAt (((V.alloc (.cells #[] 45)).alloc (.cells #[.int .i64 kn, .int .i64 0, .int .i64 fI, .int .i64 mb] 45)).drew) (.slice (some ⟨V.heap.size + 1, 0, none⟩) 1 1) 1 4 [.int .i64 kn, .int .i64 0, .int .i64 fI, .int .i64 mb] := (by have h := (SrcAt.chcopy1 (V.alloc (.cells #[] 45)) kn 0 fI mb 45).below (below_drew' (Below.refl _ _)); rwa [show (V.alloc (.cells #[] 45)).heap.size = V.heap.size + 1 from by simp] at h); refine step_app2 (.tmp 145) (.tmp 147) (v := .slice (some ⟨V.heap.size, 0, none⟩) 0 0) E_chcopy (by rfl) (by rfl) (by rfl) (by rfl) V.heap.size 0 L1.length [] (flatC copyCells L1) hm0 (SrcAt.chcopies hsz.2.2 (hzV.mono (by (repeat' (first | assumption | exact Below.refl _ _ | refine Below.drew ?_ | refine Below.alloc ?_ (by first | omega | (simp <;> omega)) _))))) (by omega) (by omega) (by first | omega | (simp [drew_heap] <;> omega)) ?_; intro v1 V1 ho1 hg1 _; (have hB1 : Below V.heap.size V V1 := app_grown (by (repeat' (first | assumption | exact Below.refl _ _ | refine Below.drew ?_ | refine Below.alloc ?_ (by first | omega | (simp <;> omega)) _))) hm0 hg1); (rw [Nat.zero_add, List.nil_append] at ho1); have hz1v := hB1.size; refine hK.out _ _ (fun _ => SF.out _ hB1) ?_; (try simp only [Act.put, List.getElem_toArray, List.getElem_cons_succ, List.getElem_cons_zero, List.setIfInBounds_toArray, List.set_cons_succ, List.set_cons_zero]); clear hK; have hs2 := src_grown hsr hg1 (by simp [Value.ownBlock]); refine wpZ_ready (rs := [6]) (by kernel_rfl) (by simp) (AllZ.cons rfl (fun K hK => ?_) AllZ.nil); refine step_app2 (.tmp 148) (.tmp 150) (v := v1) E_chcopy (by rfl) (by rfl) (by rfl) (by rfl) V.heap.size L1.length 1 (flatC copyCells L1) [.int .i64 kn, .int .i64 0, .int .i64 fI, .int .i64 mb] (by first | exact ho1 | exact ho1.alloc _) hs2 (by omega) (by omega) (by first | omega | (simp [drew_heap] <;> omega)) ?_; intro v2 V2 ho2 hg2 _; (have hB2 : Below V.heap.size V V2 := app_grown (by (repeat' (first | assumption | exact Below.refl _ _ | refine Below.drew ?_ | refine Below.alloc ?_ (by first | omega | (simp <;> omega)) _))) (by first | exact ho1 | exact ho1.alloc _) hg2); (rw [chcopy_snoc, ← htk.out] at ho2); (have e2 : L1.length + 1 = L2.length := by rw [htk.out]; simp); (rw [e2] at ho2); clear e2; (obtain ⟨-, a9, c9, rfl, hs9, -⟩ := chcopies_own ho2); (have hc2 : V2.heap[ps + 1]? = _ := (hB2.block _ zoV).trans hVo); have hHeld2 := SF.out _ hB2; refine hK.out _ _ (fun _ => hHeld2) ?_; (try simp only [Act.put, List.getElem_toArray, List.getElem_cons_succ, List.getElem_cons_zero, List.setIfInBounds_toArray, List.set_cons_succ, List.set_cons_zero]); clear hK; (refine wpZ_take (i := 7) (v := ?_) rfl (by kernel_rfl) (by kernel_rfl) (by kernel_rfl) (by kernel_rfl) (fun _ _ _ h => h) (Or.inl ⟨by kernel_rfl, ?_⟩) (by assumption) ?_; rotate_left 1; (focus (intro w hSw; (try dsimp only at hSw); go_simp; first | done | with_reducible rfl)); simp only [Act.put, List.getElem_toArray, List.getElem_cons_succ, List.getElem_cons_zero, List.setIfInBounds_toArray, List.set_cons_succ, List.set_cons_zero]); have k2 : V2.cell? ⟨ps + 1, 4, none⟩ = some (.slice a L1.length c) := blk_cell 4 hc2 rfl; have k3 := blk_free 4 hc2; have zo2 := lt_of_block hc2; refine wpZ_ready (rs := [8]) (by kernel_rfl) (by simp) (AllZ.cons rfl (fun K hK => ?_) AllZ.nil); (go_simp; refine hK.out _ _ (fun h => absurd rfl h) ?_; (try simp only [Act.put, List.getElem_toArray, List.getElem_cons_succ, List.getElem_cons_zero, List.setIfInBounds_toArray, List.set_cons_succ, List.set_cons_zero]); clear hK; refine wpZ_done (by kernel_rfl) ?_ _))))); rotate_left 2; (focus ((go_simp; refine hK.out _ _ (fun _ => SF.out _ (by (repeat' (first | assumption | exact Below.refl _ _ | refine Below.drew ?_ | refine Below.alloc ?_ (by first | omega | (simp <;> omega)) _)))) ?_; (try simp only [Act.put, List.getElem_toArray, List.getElem_cons_succ, List.getElem_cons_zero, List.setIfInBounds_toArray, List.set_cons_succ, List.set_cons_zero]); clear hK); refine wpZ_ready (rs := [0]) (by kernel_rfl) (by simp) (AllZ.cons rfl (fun K hK => ?_) AllZ.nil); (go_simp; refine hK.out _ _ (fun _ => SF.out _ (by (repeat' (first | assumption | exact Below.refl _ _ | refine Below.drew ?_ | refine Below.alloc ?_ (by first | omega | (simp <;> omega)) _)))) ?_; (try simp only [Act.put, List.getElem_toArray, List.getElem_cons_succ, List.getElem_cons_zero, List.setIfInBounds_toArray, List.set_cons_succ, List.set_cons_zero]); clear hK); refine wpZ_ready (rs := [3]) (by kernel_rfl) (by simp) (AllZ.cons rfl (fun K hK => ?_) AllZ.nil); have hm0 : (((V.alloc (.cells #[.int .i64 kn, .int .i64 0, .int .i64 fI, .int .i64 mb] 45)).alloc (.cells #[] 45)).drew).ownsRow V.heap.size 45 4 (.slice (some ⟨V.heap.size + 1, 0, none⟩) 0 0) 0 [] := (by have h := (made_row2 (B := V.heap.size) (W := V.alloc (.cells #[.int .i64 kn, .int .i64 0, .int .i64 fI, .int .i64 mb] 45)) (by simp) 45 4).drew; rwa [show (V.alloc (.cells #[.int .i64 kn, .int .i64 0, .int .i64 fI, .int .i64 mb] 45)).heap.size = V.heap.size + 1 from by simp] at h); have hsr : SrcAt (((V.alloc (.cells #[.int .i64 kn, .int .i64 0, .int .i64 fI, .int .i64 mb] 45)).alloc (.cells #[] 45)).drew) (.slice (some ⟨V.heap.size, 0, none⟩) 1 1) 1 4 [.int .i64 kn, .int .i64 0, .int .i64 fI, .int .i64 mb] := (SrcAt.chcopy1 V kn 0 fI mb 45).below (below_drew' (al_on _ _)); refine step_app2 (.tmp 145) (.tmp 147) (v := .slice (some ⟨V.heap.size + 1, 0, none⟩) 0 0) E_chcopy (by rfl) (by rfl) (by rfl) (by rfl) V.heap.size 0 L1.length [] (flatC copyCells L1) hm0 (SrcAt.chcopies hsz.2.2 (hzV.mono (by (repeat' (first | assumption | exact Below.refl _ _ | refine Below.drew ?_ | refine Below.alloc ?_ (by first | omega | (simp <;> omega)) _))))) (by omega) (by omega) (by first | omega | (simp [drew_heap] <;> omega)) ?_; intro v1 V1 ho1 hg1 _; (have hB1 : Below V.heap.size V V1 := app_grown (by (repeat' (first | assumption | exact Below.refl _ _ | refine Below.drew ?_ | refine Below.alloc ?_ (by first | omega | (simp <;> omega)) _))) hm0 hg1); (rw [Nat.zero_add, List.nil_append] at ho1); have hz1v := hB1.size; refine hK.out _ _ (fun _ => SF.out _ hB1) ?_; (try simp only [Act.put, List.getElem_toArray, List.getElem_cons_succ, List.getElem_cons_zero, List.setIfInBounds_toArray, List.set_cons_succ, List.set_cons_zero]); clear hK; have hs2 := src_grown hsr hg1 (by simp [Value.ownBlock]); refine wpZ_ready (rs := [6]) (by kernel_rfl) (by simp) (AllZ.cons rfl (fun K hK => ?_) AllZ.nil); refine step_app2 (.tmp 148) (.tmp 150) (v := v1) E_chcopy (by rfl) (by rfl) (by rfl) (by rfl) V.heap.size L1.length 1 (flatC copyCells L1) [.int .i64 kn, .int .i64 0, .int .i64 fI, .int .i64 mb] (by first | exact ho1 | exact ho1.alloc _) hs2 (by omega) (by omega) (by first | omega | (simp [drew_heap] <;> omega)) ?_; intro v2 V2 ho2 hg2 _; (have hB2 : Below V.heap.size V V2 := app_grown (by (repeat' (first | assumption | exact Below.refl _ _ | refine Below.drew ?_ | refine Below.alloc ?_ (by first | omega | (simp <;> omega)) _))) (by first | exact ho1 | exact ho1.alloc _) hg2); (rw [chcopy_snoc, ← htk.out] at ho2); (have e2 : L1.length + 1 = L2.length := by rw [htk.out]; simp); (rw [e2] at ho2); clear e2; (obtain ⟨-, a9, c9, rfl, hs9, -⟩ := chcopies_own ho2); (have hc2 : V2.heap[ps + 1]? = _ := (hB2.block _ zoV).trans hVo); have hHeld2 := SF.out _ hB2; refine hK.out _ _ (fun _ => hHeld2) ?_; (try simp only [Act.put, List.getElem_toArray, List.getElem_cons_succ, List.getElem_cons_zero, List.setIfInBounds_toArray, List.set_cons_succ, List.set_cons_zero]); clear hK; (refine wpZ_take (i := 7) (v := ?_) rfl (by kernel_rfl) (by kernel_rfl) (by kernel_rfl) (by kernel_rfl) (fun _ _ _ h => h) (Or.inl ⟨by kernel_rfl, ?_⟩) (by assumption) ?_; rotate_left 1; (focus (intro w hSw; (try dsimp only at hSw); go_simp; first | done | with_reducible rfl)); simp only [Act.put, List.getElem_toArray, List.getElem_cons_succ, List.getElem_cons_zero, List.setIfInBounds_toArray, List.set_cons_succ, List.set_cons_zero]); have k2 : V2.cell? ⟨ps + 1, 4, none⟩ = some (.slice a L1.length c) := blk_cell 4 hc2 rfl; have k3 := blk_free 4 hc2; have zo2 := lt_of_block hc2; refine wpZ_ready (rs := [8]) (by kernel_rfl) (by simp) (AllZ.cons rfl (fun K hK => ?_) AllZ.nil); (go_simp; refine hK.out _ _ (fun h => absurd rfl h) ?_; (try simp only [Act.put, List.getElem_toArray, List.getElem_cons_succ, List.getElem_cons_zero, List.setIfInBounds_toArray, List.set_cons_succ, List.set_cons_zero]); clear hK; refine wpZ_done (by kernel_rfl) ?_ _)))
                  all_goals
                    go_wp2
                    go_roundw
                    case rel =>
                      have e2 := HL2.out
                      subst e2
                      exact ⟨k + 1, a9, c9, by omega, by go_num, rfl, TsI.app hIV hpz hB2 hs9 ho2⟩
                    case measure => simp [intOf]; omega
            · obtain rfl : k = R.letters.length := by omega
              obtain ⟨VN, TN, LN, m, hVN, hTN, hLN, hll, hkm, hm1, hm0⟩ := ts_facts HE.out HR0.out hul hsl n4 (by omega)
              have FI := Lib.hid (fun (W : World) (h : Below V0.heap.size V0 W) => Ts_Find hI HV.out hk0 VN hVN W h)
              have KN := Lib.hid (fun (W : World) (h : Below V0.heap.size V0 W) (b : Option Addr) (cp : Nat) (hs : SlOk b (numI VN).length cp) (hi : IntsC W b (numI VN)) => Ts_Knows hI HV.out hk0 VN TN hVN hTN W h b cp hs hi)
              have LO := Lib.hid (fun (W : World) (h : Below V0.heap.size V0 W) => Ts_Lock hI HV.out hk0 s LN hsl hLN W h)
              have AK := Lib.hid (fun (W : World) (h : Below V0.heap.size V0 W) => A_Knows _ _ _ _ _ _ _ _ _ _ R (who : Int) (s : Int) 9 m 0 hkm W (M.out W (q_on hI.q h)))
              have AM := Lib.hid (fun (n : Nat) (hn : n < R.letters.length) (W : World) (h : Below V0.heap.size V0 W) => A_May _ _ _ _ _ _ _ _ _ _ R (n : Int) (mayList R (seTruths R []) R.letters[n]) 0 (may_is (plain_good HE.out HR0.out) hn) W (M.out W (q_on hI.q h)))
              have FR := Lib.hid (fun (day sec wr D : Int) (hd : 0 ≤ day ∧ day ≤ 10) (hsec : 0 ≤ sec ∧ sec ≤ 8) (hD : fromD R [⟨day, sec, wr⟩] T s who = D) (W : World) (h : Below V0.heap.size V0 W) => From_one _ _ _ _ _ _ _ _ _ _ R day sec wr aS T cS s who D W (M.out W (q_on hI.q h)) HV.out hd hsec hso (((hI.su.below (h.mono hI.sz))).ints (Nat.le_trans hI.sz h.size)) HTB.out (by omega) hul hD)
              have LT := Lib.hid (fun (n : Nat) (hn : n < R.letters.length) (W : World) (h : Below V0.heap.size V0 W) => (M.out W (q_on hI.q h)).letters n hn)
              have KP := Lib.hid (fun (W : World) (h : Below V0.heap.size V0 W) => (M.out W (q_on hI.q h)).kept s hsl)
              have hQ := Below.refl V0.heap.size V0
              have HDC : Hid (∀ W, Below V0.heap.size V0 W → (W.cell? ⟨w.heap.size, 0, none⟩ = some (.slice a1 R.writers.length k1) ∧ W.cell? ⟨w.heap.size, 1, none⟩ = some (.slice a2 R.kept.length k2) ∧ W.cell? ⟨w.heap.size, 2, none⟩ = some (.slice a3 R.leaks.length k3) ∧ W.cell? ⟨w.heap.size, 3, none⟩ = some (.slice a4 R.letters.length k4) ∧ W.cell? ⟨w.heap.size, 4, none⟩ = some (.slice none R.heard.length 0) ∧ w.heap.size < W.heap.size ∧ W.cell? ⟨w.heap.size + 1, 0, none⟩ = some (.int .u8 (x0 : Int)) ∧ W.cell? ⟨w.heap.size + 1, 1, none⟩ = some (.int .u8 (x1 : Int)) ∧ W.cell? ⟨w.heap.size + 1, 2, none⟩ = some (.int .u8 (x2 : Int)) ∧ w.heap.size + 1 < W.heap.size) ∧
                  W.cell? ⟨ps + 1, 0, none⟩ = some (.int .i64 1) ∧ W.cell? ⟨ps + 1, 1, none⟩ = some (.int .i64 (R.kept.length : Int)) ∧ W.cell? ⟨ps + 1, 2, none⟩ = some (.slice (some ⟨ps, 0, none⟩) 1 1) ∧ W.cell? ⟨ps + 1, 3, none⟩ = some (.int .i64 (R.letters.length : Int)) ∧ W.cell? ⟨ps + 1, 4, none⟩ = some (.slice a (copiesTo R who R.letters.length).length c) ∧ W.cell? ⟨ps + 1, 5, none⟩ = some (.slice none 0 0) ∧ ps + 1 < W.heap.size) := Lib.hid (fun W h => by
                have k1 := (h.block _ (lt_of_block hI.ch)).trans hI.ch
                exact ⟨HC.out W (q_on hI.q h), blk_cell 0 k1 rfl, blk_cell 1 k1 rfl, blk_cell 2 k1 rfl, blk_cell 3 k1 rfl, blk_cell 4 k1 rfl, blk_cell 5 k1 rfl, lt_of_block k1⟩)
              have HV0 := Lib.hid (hwYz.out.trans (hI.q.mono hwYz.out.size))
              obtain ⟨mny, hmny⟩ : ∃ mny, mny = manyTo R who s R.letters.length := ⟨_, rfl⟩
              rw [← hmny] at hll hm1 hm0 ⊢
              obtain ⟨NC, hNC⟩ : ∃ NC, NC = (copiesTo R who R.letters.length).length := ⟨_, rfl⟩
              rw [← hNC] at FI KN LO HDC
              clear hNC
              obtain ⟨NH, hNH⟩ : ∃ NH : Int, NH = (numI LN).length := ⟨_, rfl⟩
              have HS := Lib.hid (fun (b : Bool) (W : World) (a7 : Option Addr) (c7 : Nat) (hb : hasB (numI TN) (s : Int) = b) (hi : IntsC W a7 (numI TN)) => Has_is a7 (numI TN) c7 (s : Int) b W hb (Nat.le_trans (numI_len TN) (by decide)) hi)
              clear hmny hNH NH hVN hTN hLN hkm
              have hxI := hI.sz
              clear hI HC hx
              have HC := HDC
              clear HDC
              have hx := HC.out _ hQ
              go_upto_region 27 with (go_at_call 10; go_must (refine (FI.out _ hQ).mono ?_; rintro e w5 ⟨v5, rfl, hv5, hb⟩; obtain ⟨a6, c6, rfl, hs6, hi6, -⟩ := hv5; replace hQ := q_on hQ hb; replace hx := HC.out _ hQ; dsimp only))
              go_upto_region 28 with (go_at_call 11; go_must (refine (KN.out _ hQ a6 c6 hs6 hi6).mono ?_; rintro e w6 ⟨v6, rfl, hv6, hb⟩; obtain ⟨a7, c7, rfl, hs7, hi7, -⟩ := hv6; clear hs6 hi6; replace hQ := q_on hQ hb; replace hx := HC.out _ hQ; dsimp only))
              go_upto_region 29 with (go_at_call 12; go_must (refine (LO.out _ hQ).mono ?_; rintro e w7 ⟨v7, rfl, hv7, hb⟩; obtain ⟨a8, c8, rfl, hs8, -⟩ := hv7; replace hi7 := hi7.mono hb; replace hQ := q_on hQ hb; replace hx := HC.out _ hQ; dsimp only))
              go_upto_region 30 with (go_at_call 5; go_must (refine (AK.out _ hQ).mono ?_; rintro e w8 ⟨rfl, hb⟩; replace hi7 := hi7.mono hb; replace hQ := q_on hQ hb; replace hx := HC.out _ hQ; dsimp only))
              rw [hll]
              clear FI KN LO AK hll
              go_cut [211] from 177 to 210 (fun g W => g = .bool false ∧ Below V0.heap.size V0 W)
              case first =>
                by_cases h1 : m = 1
                · obtain ⟨hb1, hp1⟩ := hm1 h1
                  have hp2 : (0 : Int) < (mny : Int) := by omega
                  clear hm1 hm0
                  subst h1
                  go_wp2_with (go_at_call 13; go_must (refine (HS.out true _ _ _ hb1 hi7).mono ?_; rintro e w9 ⟨rfl, rfl⟩; dsimp only))
                  go_meet
                  case rel => exact ⟨by simp [hp2], hQ⟩
                · obtain ⟨hb1, hp1⟩ := hm0 h1
                  have h1f := eqi_f h1
                  clear hm1 hm0
                  subst hp1
                  go_wp2_with (go_at_call 13; go_must (refine (HS.out false _ _ _ hb1 hi7).mono ?_; rintro e w9 ⟨rfl, rfl⟩; dsimp only))
                  go_meet
                  case rel => exact ⟨by simp [h1f], hQ⟩
              case rest =>
                obtain ⟨rfl, hQ3⟩ := hcut
                rename World => W4
                clear hx hQ hi7 HS hm1 hm0 hs7 hs8
                have hQ := hQ3
                have hx := HC.out _ hQ
                go_upto_if 211 with (fail)
                by_cases hlz : R.letters.length = 0
                · have c9 : ((R.letters.length : Int) == 0) = true := eqi_t (by omega)
                  go_wp2_with (first
                    | (go_at_call 7; (with_reducible refine (Awake_any _).mono ?_); rintro e w5 ⟨rfl, hb⟩; replace hQ := q_on hQ hb; replace hx := HC.out _ hQ; dsimp only)
                    | (go_at_call 6; (with_reducible refine (CAwake_any _).mono ?_); rintro e w6 ⟨rfl, hb⟩; replace hQ := q_on hQ hb; replace hx := HC.out _ hQ; dsimp only))
                  go_ret
                  exact ⟨rfl, HV0.out.trans (hQ.mono HV0.out.size)⟩
                · have hlp : 0 < R.letters.length := by omega
                  have c9 : ((R.letters.length : Int) == 0) = false := eqi_f (by omega)
                  obtain ⟨n, hnn⟩ : ∃ n : Nat, n = x2 % R.letters.length := ⟨_, rfl⟩
                  have hnl : n < R.letters.length := by rw [hnn]; exact Nat.mod_lt _ hlp
                  have f3 : (x2 : Int) % (R.letters.length : Int) = (n : Int) := by rw [hnn]; exact (Int.natCast_emod _ _).symm
                  have f3t : (x2 : Int).tmod (R.letters.length : Int) = (n : Int) := by rw [Int.tmod_eq_emod_of_nonneg (by omega)]; exact f3
                  have F3 := Lib.hid (And.intro f3 f3t)
                  clear hnn f3 f3t
                  go_upto_region 34 with (fail)
                  clear c9
                  go_cut [27] from 220 to 226 (fun u W => u = .int .i64 (n : Int) ∧ Below V0.heap.size V0 W)
                  case first =>
                    obtain ⟨f3, f3t⟩ := F3.out
                    go_wp2
                    go_meet
                    case rel => exact ⟨by simp only [F3.out.1, F3.out.2], hQ⟩
                  case rest =>
                    obtain ⟨rfl, hQ4⟩ := hcut
                    rename World => W5
                    clear hx hQ F3 hQ3
                    have hQ := hQ4
                    have hx := HC.out _ hQ
                    have hni : (n : Int) < R.letters.length := by omega
                    have AM1 := AM.out n hnl
                    have hri := mayList_rising R (seTruths R []) R.letters[n]
                    have SM1 := fun (z : Int) (hz : z ∈ mayList R (seTruths R []) R.letters[n]) (h1 : bitB R.letters[n].secrets s = true) (h2 : bitB (keptAt R s) who = true) => shown_may HE.out HR0.out hnl hsl h1 hz hul h2
                    rw [← HT.out, show keptAt R s = R.kept[s] by unfold keptAt; rw [List.getElem?_eq_getElem hsl]; rfl] at SM1
                    generalize mayList R (seTruths R []) R.letters[n] = ml at AM1 hri SM1
                    have hv4 := HV.out.letters n hnl
                    have hkp := HV.out.kept s hsl
                    obtain ⟨b, off, rfl, hbb, e1, e2, e3⟩ := LT.out n hnl _ hQ
                    have LT2 := Lib.hid (fun (W : World) (h : Below V0.heap.size V0 W) => LT.out n hnl W h)
                    obtain ⟨xl, hxl⟩ : ∃ xl, xl = R.letters[n] := ⟨_, rfl⟩
                    rw [← hxl] at hv4 e1 e2 e3 LT2 SM1
                    clear hxl LT AM
                    obtain ⟨day, sec, wri⟩ := xl
                    simp only at hv4 e1 e2 e3 LT2 SM1
                    obtain ⟨f, rfl⟩ : ∃ f : Nat, sec = f := ⟨sec.toNat, by omega⟩
                    obtain ⟨kv, hkv⟩ : ∃ kv : Nat, R.kept[s] = kv := ⟨R.kept[s].toNat, by omega⟩
                    rw [hkv] at hkp SM1
                    have hp8 : (2 : Int) ^ R.kept.length ≤ 8 := by
                      have : R.kept.length = 0 ∨ R.kept.length = 1 ∨ R.kept.length = 2 ∨ R.kept.length = 3 := by omega
                      rcases this with e | e | e | e <;> rw [e] <;> decide
                    have hp16 : (2 : Int) ^ R.writers.length ≤ 16 := by
                      have : R.writers.length = 0 ∨ R.writers.length = 1 ∨ R.writers.length = 2 ∨ R.writers.length = 3 ∨ R.writers.length = 4 := by omega
                      rcases this with e | e | e | e | e <;> rw [e] <;> decide
                    have hf8 : f < 8 := by omega
                    have hk16 : kv < 16 := by omega
                    have hdd : 0 ≤ day ∧ day ≤ 10 := by omega
                    have hff : (0 : Int) ≤ f ∧ (f : Int) ≤ 8 := by omega
                    clear hp8 hp16 hv4 hkp
                    have AM := Lib.hid AM1
                    have SM := Lib.hid SM1
                    clear AM1 SM1
                    clear e1 e2 e3 hbb
                    go_upto_region 36 with (go_at_call 14; go_must (refine (AM.out _ hQ).mono ?_; rintro e w9 ⟨a9, c9, rfl, hs9, hi9, hb⟩; replace hQ := q_on hQ hb; replace hx := HC.out _ hQ; dsimp only))
                    have hs9l := hs9.len
                    go_upto_region 38 with (go_at_call 15; go_must (refine (Rising_yes _ _ _ _ _ hri hs9l hi9).mono ?_; rintro e w10 ⟨rfl, rfl⟩; dsimp only))
                    obtain ⟨b', off', e', hbb, e1, e2, e3⟩ := LT2.out _ hQ
                    cases e'
                    go_upto_region 40 with (fail)
                    obtain ⟨U, hU⟩ : ∃ U : World, U = (w9.alloc (.cells #[.int .i64 day, .int .i64 (f : Int), .int .i64 wri] 43)) := ⟨_, rfl⟩
                    rw [← hU]
                    have hWU : Below w9.heap.size w9 U := by rw [hU]; exact al_on _ _
                    have hOU : U.heap[w9.heap.size]? = some (.cells #[.int .i64 day, .int .i64 (f : Int), .int .i64 wri] 43 (0, 0)) := by rw [hU]; exact alloc_at _ _ rfl
                    have hQU := q_on hQ hWU
                    have hiU := hi9.mono hWU
                    obtain ⟨po, hpo⟩ : ∃ po, po = w9.heap.size := ⟨_, rfl⟩
                    rw [← hpo] at hOU ⊢
                    have HDC : Hid (∀ W, Below U.heap.size U W → Below V0.heap.size V0 W ∧ IntsC W a9 ml ∧ W.cell? ⟨po, 0, none⟩ = some (.int .i64 day) ∧ W.cell? ⟨po, 1, none⟩ = some (.int .i64 (f : Int)) ∧ W.cell? ⟨po, 2, none⟩ = some (.int .i64 wri) ∧ po < W.heap.size) := Lib.hid (fun W h => by
                      have k1 := (h.block _ (lt_of_block hOU)).trans hOU
                      exact ⟨q_on hQU h, hiU.mono h, blk_cell 0 k1 rfl, blk_cell 1 k1 rfl, blk_cell 2 k1 rfl, lt_of_block k1⟩)
                    have HU0 := Lib.hid (HV0.out.trans (hQU.mono HV0.out.size))
                    obtain ⟨fb, hfb⟩ : ∃ fb, fb = bitB (f : Int) s := ⟨_, rfl⟩
                    obtain ⟨kb, hkb⟩ : ∃ kb, kb = bitB (kv : Int) who := ⟨_, rfl⟩
                    have BF := Lib.hid (fun (W : World) => Bit_is f s fb W hfb.symm (by omega) (by omega))
                    have BK := Lib.hid (fun (W : World) => Bit_is kv who kb W hkb.symm (by omega) (by omega))
                    replace SM := Lib.hid (fun (z : Int) (hz : z ∈ ml) (h1 : fb = true) (h2 : kb = true) => SM.out z hz (by rw [← hfb]; exact h1) (by rw [← hkb]; exact h2))
                    clear hU hWU hOU hiU hpo hfb hkb e1 e2 e3 hbb hi9 hQ hx LT2 AM hri hQ4
                    go_loopw [31] (fun i V => ∃ k : Nat, k ≤ ml.length ∧ i = .int .i64 k ∧ Below U.heap.size U V) (fun i _ => ml.length - (intOf i).toNat)
                    case atStart => exact ⟨0, Nat.zero_le _, rfl, Below.refl _ _⟩
                    case round =>
                      rename World => V
                      obtain ⟨k, hk, rfl, hB⟩ := hrel
                      obtain ⟨hQ, hiV, o0, o1, o2, oz⟩ := HDC.out _ hB
                      have hx := HC.out _ hQ
                      obtain ⟨b2, off2, e2, hb2, ek⟩ := KP.out _ hQ
                      rw [hkv] at ek
                      have hsi : (s : Int) < R.kept.length := by omega
                      subst e2
                      by_cases hlt : k < ml.length
                      · have hki : (k : Int) < ml.length := by omega
                        obtain ⟨b3, off3, e3, hb3, ez⟩ := hiV k hlt
                        subst e3
                        have hzm : ml[k] ∈ ml := List.getElem_mem hlt
                        generalize ml[k] = z at ez hzm
                        clear hiV
                        cases fb
                        · go_wp2_with (first
                            | (go_at_call 9; go_must ((first | with_reducible refine (BF.out _).mono ?_ | with_reducible refine (BK.out _).mono ?_); rintro e w5 ⟨rfl, rfl⟩; dsimp only))
                            | (go_at_call 7; (with_reducible refine (Awake_any _).mono ?_); rintro e w6 ⟨rfl, hb⟩; replace hQ := q_on hQ hb; replace hx := HC.out _ hQ; dsimp only)
                            | (go_at_call 6; (with_reducible refine (CAwake_any _).mono ?_); rintro e w7 ⟨rfl, hb⟩; replace hQ := q_on hQ hb; replace hx := HC.out _ hQ; dsimp only))
                          go_ret
                          exact ⟨rfl, HV0.out.trans (hQ.mono HV0.out.size)⟩
                        · cases kb
                          · go_wp2_with (first
                              | (go_at_call 9; go_must ((first | with_reducible refine (BF.out _).mono ?_ | with_reducible refine (BK.out _).mono ?_); rintro e w5 ⟨rfl, rfl⟩; dsimp only))
                              | (go_at_call 7; (with_reducible refine (Awake_any _).mono ?_); rintro e w6 ⟨rfl, hb⟩; replace hQ := q_on hQ hb; replace hx := HC.out _ hQ; dsimp only)
                              | (go_at_call 6; (with_reducible refine (CAwake_any _).mono ?_); rintro e w7 ⟨rfl, hb⟩; replace hQ := q_on hQ hb; replace hx := HC.out _ hQ; dsimp only))
                            go_ret
                            exact ⟨rfl, HV0.out.trans (hQ.mono HV0.out.size)⟩
                          · go_upto_region 44 with (go_at_call 9; go_must ((first | with_reducible refine (BF.out _).mono ?_ | with_reducible refine (BK.out _).mono ?_); rintro e w5 ⟨rfl, rfl⟩; dsimp only))
                            obtain ⟨U2, hU2⟩ : ∃ U2 : World, U2 = (V.alloc (.cells #[.int .i64 day, .int .i64 (f : Int), .int .i64 z] 43)) := ⟨_, rfl⟩
                            rw [← hU2]
                            have hVU : Below V.heap.size V U2 := by rw [hU2]; exact al_on _ _
                            have hOU : U2.heap[V.heap.size]? = some (.cells #[.int .i64 day, .int .i64 (f : Int), .int .i64 z] 43 (0, 0)) := by rw [hU2]; exact alloc_at _ _ rfl
                            have hB2 := q_on hB hVU
                            have hQ2 := q_on hQ hVU
                            clear hU2 hx o0 o1 o2 oz ek ez hb2 hb3
                            have hx := HC.out _ hQ2
                            have b0 := blk_cell 0 hOU rfl
                            have b1 := blk_cell 1 hOU rfl
                            have b2 := blk_cell 2 hOU rfl
                            have bz := lt_of_block hOU
                            simp only [List.getElem_toArray, List.getElem_cons_zero, List.getElem_cons_succ] at b0 b1 b2
                            have hDn := SM.out z hzm rfl rfl
                            obtain ⟨D, hD⟩ : ∃ D, D = fromD R [⟨day, (f : Int), z⟩] T s who := ⟨_, rfl⟩
                            have hD9 : ¬ D ≤ 9 := by rw [hD]; exact Int.not_le.mpr hDn
                            have FRk := FR.out day (f : Int) z D hdd hff hD.symm U2 hQ2
                            clear hD hDn hOU hVU hQ
                            have hwi : (who : Int) < R.writers.length := by omega
                            go_wp2_with (go_at_call 8; go_must (refine FRk.mono ?_; rintro e w9 ⟨g, rfl, hgc, hgz, hb9⟩; dsimp only))
                            go_roundw
                            case rel => exact ⟨k + 1, by omega, by go_num, q_on hB2 hb9⟩
                            case measure => simp [intOf]; omega
                      · obtain rfl : k = ml.length := by omega
                        go_wp2_with (first
                          | (go_at_call 9; go_must ((first | with_reducible refine (BF.out _).mono ?_ | with_reducible refine (BK.out _).mono ?_); rintro e w5 ⟨rfl, rfl⟩; dsimp only))
                          | (go_at_call 7; (with_reducible refine (Awake_any _).mono ?_); rintro e w6 ⟨rfl, hb⟩; replace hQ := q_on hQ hb; replace hx := HC.out _ hQ; dsimp only)
                          | (go_at_call 6; (with_reducible refine (CAwake_any _).mono ?_); rintro e w7 ⟨rfl, hb⟩; replace hQ := q_on hQ hb; replace hx := HC.out _ hQ; dsimp only))
                        go_ret
                        exact ⟨rfl, HV0.out.trans (hQ.mono HV0.out.size)⟩
end Go.Proofs.YtcgplocmncionaaGreat
