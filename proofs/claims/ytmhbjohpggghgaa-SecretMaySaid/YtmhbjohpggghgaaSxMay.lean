/- What is proved here: the walk of SecretMay: it returns true, and turns nothing that was there. Conditions: the room lies in memory. -/
import Derived.Test.YtmhbjohpggghgaaSwB
import Derived.Test.YtmhbjohpggghgaaSw3
set_option linter.unusedVariables false
set_option linter.unusedSimpArgs false
namespace Go.Proofs.Ytmhbjohpggghgaa
open Go Go.RowKit
theorem letters_set (l : List SeLetter) (i : Nat) (h : i < l.length) (v : Int) : (flatC letterCells l).set (i * 3 + 1) (.int .i64 v) = flatC letterCells (l.modify i fun x => { x with secrets := v }) := by
  induction l generalizing i with
  | nil => simp at h
  | cons y l ih =>
    show (.int .i64 y.day :: .int .i64 y.secrets :: .int .i64 y.writer :: flatC letterCells l : List Value).set (i * 3 + 1) _ = _
    cases i with
    | zero => rfl
    | succ i =>
      have := ih i (by simpa using h)
      rw [show (i + 1) * 3 + 1 = i * 3 + 1 + 3 from by omega]
      simp only [List.set_cons_succ, this]
      rfl
set_option maxRecDepth 100000 in
set_option maxHeartbeats 16000000 in
theorem SecretMay_walk (a1 a2 a3 a4 a5 : Option Addr) (k1 k2 k3 k4 k5 : Nat) (r : SeRoom) (x0 x1 : Nat) (g0 : x0 ≤ 255) (g1 : x1 ≤ 255) (w : World) (hm : RoomC w a1 a2 a3 a4 a5 k1 k2 k3 k4 k5 r) : Calls Try.prog 14 #[(.agg #[.slice a1 r.writers.length k1, .slice a2 r.kept.length k2, .slice a3 r.leaks.length k3, .slice a4 r.letters.length k4, .slice a5 r.heard.length k5]), .agg #[.int .u8 (x0 : Int), .int .u8 (x1 : Int)]] w fun e w' => e = .returned (.bool true) ∧ Below w.heap.size w w' := by
  obtain ⟨X, hX⟩ : ∃ X : World, X = ((w.alloc (.cells #[.slice a1 r.writers.length k1, .slice a2 r.kept.length k2, .slice a3 r.leaks.length k3, .slice a4 r.letters.length k4, .slice a5 r.heard.length k5] 28)).alloc (.cells #[.int .u8 (x0 : Int), .int .u8 (x1 : Int)] 52)) := ⟨_, rfl⟩
  have hwX : Below w.heap.size w X := by rw [hX]; exact (by (repeat' (first | assumption | exact Below.refl _ _ | refine below_drew' ?_ | refine Below.setCell ?_ (by first | omega | (simp <;> omega)) _ | refine Below.alloc ?_ (by first | omega | (simp <;> omega)) _)))
  have g1 : X.heap[w.heap.size]? = some (.cells #[.slice a1 r.writers.length k1, .slice a2 r.kept.length k2, .slice a3 r.leaks.length k3, .slice a4 r.letters.length k4, .slice a5 r.heard.length k5] 28 (0, 0)) := by rw [hX]; (repeat' (first | exact alloc_at _ _ (by simp) | refine (heap_alloc_old _ _ (by first | omega | (simp <;> omega))).trans ?_))
  have g2 : X.heap[w.heap.size + 1]? = some (.cells #[.int .u8 (x0 : Int), .int .u8 (x1 : Int)] 52 (0, 0)) := by rw [hX]; (repeat' (first | exact alloc_at _ _ (by simp) | refine (heap_alloc_old _ _ (by first | omega | (simp <;> omega))).trans ?_))
  replace g1 := fun (V : World) (h : Below X.heap.size X V) => (h.block _ (lt_of_block g1)).trans g1
  replace g2 := fun (V : World) (h : Below X.heap.size X V) => (h.block _ (lt_of_block g2)).trans g2
  have HC : Hid (∀ V, Below X.heap.size X V → (V.cell? ⟨w.heap.size, 0, none⟩ = some (.slice a1 r.writers.length k1) ∧ V.cell? ⟨w.heap.size, 1, none⟩ = some (.slice a2 r.kept.length k2) ∧ V.cell? ⟨w.heap.size, 2, none⟩ = some (.slice a3 r.leaks.length k3) ∧ V.cell? ⟨w.heap.size, 3, none⟩ = some (.slice a4 r.letters.length k4) ∧ V.cell? ⟨w.heap.size, 4, none⟩ = some (.slice a5 r.heard.length k5) ∧ V.cell? ⟨w.heap.size + 1, 0, none⟩ = some (.int .u8 (x0 : Int)) ∧ V.cell? ⟨w.heap.size + 1, 1, none⟩ = some (.int .u8 (x1 : Int)) ∧ w.heap.size < V.heap.size ∧ w.heap.size + 1 < V.heap.size)) := Lib.hid (fun V h => ⟨blk_cell 0 (g1 V h) rfl, blk_cell 1 (g1 V h) rfl, blk_cell 2 (g1 V h) rfl, blk_cell 3 (g1 V h) rfl, blk_cell 4 (g1 V h) rfl, blk_cell 0 (g2 V h) rfl, blk_cell 1 (g2 V h) rfl, lt_of_block (g1 V h), lt_of_block (g2 V h)⟩)
  have M := Lib.hid (fun (V : World) (h : Below X.heap.size X V) => (hm.mono hwX).mono h)
  clear g1 g2
  have hQ := Below.refl X.heap.size X
  have hx := HC.out _ hQ
  by_cases hs : someB r = true
  · have l4 := hm.ok4.len
    by_cases hz2 : r.letters.length = 0
    · have q2 : ((r.letters.length : Int) == 0) = true := eqi_t (by omega)
      replace hs := Lib.hid hs
      obtain ⟨e0, hc, he0⟩ := may_none (r := r) (n := 0) (.inr hz2)
      replace hc := Lib.hid hc
      have hne := nei_t he0
      clear he0 hz2
      go_enter Try.func14, Try.ntmps14
      go_upto_region 1 with (fail)
      rw [← hX]
      clear hX
      go_wp2_with (first
        | (go_at_call 22; (with_reducible refine (Awake_any _).mono ?_); rintro e w4 ⟨rfl, hb⟩; replace hQ := q_on hQ hb; replace hx := HC.out _ hQ; dsimp only)
        | (go_at_call 28; (with_reducible refine (A_May _ _ _ _ _ _ _ _ _ _ r 0 [] e0 hc.out _ (M.out _ hQ)).mono ?_); rintro e w3 ⟨b1, c1, rfl, o1, i1, hb⟩; replace hQ := q_on hQ hb; replace hx := HC.out _ hQ; dsimp only [List.length_nil])
        | (go_at_call 43; (with_reducible refine (Some_is _ _ _ _ _ _ _ _ _ _ r true hs.out _ (M.out _ hQ)).mono ?_); rintro e w2 ⟨rfl, hb⟩; replace hQ := q_on hQ hb; replace hx := HC.out _ hQ; dsimp only))
      go_ret
      exact ⟨rfl, hwX.trans (hQ.mono hwX.size)⟩
    · have q2 : ((r.letters.length : Int) == 0) = false := eqi_f (by omega)
      have he := (someB_iff.1 hs).1
      have hv := seValid_of he
      obtain ⟨n, hnn⟩ : ∃ n : Nat, n = x0 % r.letters.length := ⟨_, rfl⟩
      have hnl : n < r.letters.length := by rw [hnn]; exact Nat.mod_lt _ (by omega)
      have f1 : (x0 : Int) % (r.letters.length : Int) = (n : Int) := by rw [hnn]; exact (Int.natCast_emod _ _).symm
      have hnl2 : (n : Int) < (r.letters.length : Int) := by omega
      clear hnn
      have hmay := may_is hs hnl
      have hris := mayList_rising r (seTruths r []) r.letters[n]
      have hll := mayList_len r (seTruths r []) r.letters[n]
      have hmk := fun (s : Nat) (hsl : s < r.kept.length) (hb : bitB r.letters[n].secrets s = true) (w : Int) (hw : w ∈ mayList r (seTruths r []) r.letters[n]) => may_kept hs hnl hsl hb hw
      have hmem := fun (w : Int) (hw : w ∈ mayList r (seTruths r []) r.letters[n]) => mayList_mem.1 hw
      generalize mayList r (seTruths r []) r.letters[n] = l at hmay hris hll hmk hmem
      obtain ⟨sn, hsn, hsn8⟩ : ∃ sn : Nat, r.letters[n].secrets = (sn : Int) ∧ sn ≤ 1000 := by have h1 := hv.letters n hnl; have h2 := two_pow_le4 r.kept.length (by have := hv.nk; omega); have h3 : ((2 ^ r.kept.length : Nat) : Int) = 2 ^ r.kept.length := (by simp); exact ⟨r.letters[n].secrets.toNat, (Int.toNat_of_nonneg h1.2.2.1).symm, by omega⟩
      have hlt2 := fewTo_lt (sn : Int) x1
      have hfs : ∀ k, fewTo (sn : Int) x1 (k + 1) = fewTo (sn : Int) x1 k + (if (bitB (sn : Int) k && !x1.testBit k) = true then 2 ^ k else 0) := fun k => rfl
      have hf0 : fewTo (sn : Int) x1 0 = 0 := rfl
      obtain ⟨la, lb, m1, m2, hsub, hla, hlb⟩ := less_may he hnl (few := ((fewTo (sn : Int) x1 r.kept.length : Nat) : Int)) ⟨by omega, by have h3 : ((2 ^ r.kept.length : Nat) : Int) = 2 ^ r.kept.length := (by simp); have := hlt2 r.kept.length; omega⟩ (fun s hb => by rw [hsn]; exact fewTo_bit (sn : Int) x1 _ s (by simpa [bitB] using hb))
      obtain ⟨bt, ot, rfl, hbt, c1, c2, c3⟩ := hm.letters n hnl
      rw [hsn] at c2 hmk
      generalize hday : r.letters[n].day = day at c1
      generalize hwri : r.letters[n].writer = wri at c3
      generalize fewTo (sn : Int) x1 = FW at hlt2 hfs hf0 m2
      have l1 := hm.ok1.len
      have l2 := hm.ok2.len
      have n2 := hv.nk
      have n1 := hv.nw
      have n4 := hv.nt
      have hkn : ∀ s (h : s < r.kept.length), 0 ≤ r.kept[s] ∧ r.kept[s] ≤ 1000 := fun s h => by have h1 := hv.kept s h; have h2 := two_pow_le4 _ hv.nw; have h3 : ((2 ^ r.writers.length : Nat) : Int) = 2 ^ r.writers.length := (by simp); omega
      have hkr : ∀ s (h : s < r.kept.length), keptAt r s = r.kept[s] := fun s h => by simp [keptAt, h]
      replace hmay := Lib.hid hmay
      replace hris := Lib.hid hris
      replace hmk := Lib.hid hmk
      replace hmem := Lib.hid hmem
      replace hlt2 := Lib.hid hlt2
      replace hfs := Lib.hid hfs
      replace hf0 := Lib.hid hf0
      replace m1 := Lib.hid m1
      replace m2 := Lib.hid m2
      replace hsub := Lib.hid hsub
      replace hs := Lib.hid hs
      replace hkn := Lib.hid hkn
      replace hkr := Lib.hid hkr
      clear he hv hsn hday hwri
      go_enter Try.func14, Try.ntmps14
      go_upto_region 1 with (fail)
      rw [← hX]
      clear hX
      go_upto_region 8 with (first
        | (go_at_call 42; (with_reducible refine (Rising_yes _ _ _ _ _ hris.out o1.len i1).mono ?_); rintro e w4 ⟨rfl, rfl⟩; dsimp only)
        | (go_at_call 28; (with_reducible refine (A_May _ _ _ _ _ _ _ _ _ _ r (n : Int) l 0 hmay.out _ (M.out _ hQ)).mono ?_); rintro e w3 ⟨b1, cc1, rfl, o1, i1, hb⟩; replace hQ := q_on hQ hb; replace hx := HC.out _ hQ; dsimp only)
        | (go_at_call 43; (with_reducible refine (Some_is _ _ _ _ _ _ _ _ _ _ r true hs.out _ (M.out _ hQ)).mono ?_); rintro e w2 ⟨rfl, hb⟩; replace hQ := q_on hQ hb; replace hx := HC.out _ hQ; dsimp only))
      simp only [f1]
      clear f1
      have c1' := cell_below (hwX.trans (hQ.mono hwX.size)) c1
      have c2' := cell_below (hwX.trans (hQ.mono hwX.size)) c2
      have c3' := cell_below (hwX.trans (hQ.mono hwX.size)) c3
      have hbt2 := lt_of_cell c1'
      go_upto_region 9 with (fail)
      obtain ⟨U, hU⟩ : ∃ U : World, U = w3.alloc (.cells #[.int .i64 day, .int .i64 (sn : Int), .int .i64 wri] 68) := ⟨_, rfl⟩
      rw [← hU]
      have h3U : Below w3.heap.size w3 U := by rw [hU]; exact al_on _ _
      have hT : U.heap[w3.heap.size]? = some (.cells #[.int .i64 day, .int .i64 (sn : Int), .int .i64 wri] 68 (0, 0)) := by rw [hU]; exact alloc_at _ _ rfl
      clear hU
      replace hQ := q_on hQ h3U
      replace i1 := i1.mono h3U
      clear hx c1' c2' c3' hbt2 c1 c2 c3 h3U
      go_wp2
      go_loopw [11, 12, 13, 14] (fun f u i j wr => ∃ k : Nat, k ≤ r.kept.length ∧ i = .int .i64 k ∧ f = .int .i64 ((FW k : Nat) : Int) ∧ u = .int .i64 ((2 ^ k : Nat) : Int) ∧ Below U.heap.size U wr) (fun _ _ i _ _ => r.kept.length - (intOf i).toNat)
      case atStart => exact ⟨0, Nat.zero_le _, rfl, by rw [hf0.out]; rfl, rfl, Below.refl _ _⟩
      case round =>
        obtain ⟨k, hk, rfl, rfl, rfl, hB⟩ := hrel
        have hQ2 := q_on hQ hB
        have hx := HC.out _ hQ2
        have hTr := (hB.block _ (lt_of_block hT)).trans hT
        have ct : wr.cell? ⟨w3.heap.size, 1, none⟩ = some (.int .i64 (sn : Int)) := blk_cell 1 hTr rfl
        have zt := lt_of_block hTr
        have i1r := i1.mono hB
        by_cases hlt : k < r.kept.length
        · have hf1 := hfs.out k
          have hF := hlt2.out k
          have hP2 : 2 ^ (k + 1) = 2 * 2 ^ k := by rw [Nat.pow_succ]; omega
          have hP8 : 2 ^ k ≤ 8 := Nat.pow_le_pow_right (j := 3) (by omega) (by omega)
          have hf2 : bitB (sn : Int) k = false → FW (k + 1) = FW k := fun h => by rw [hf1, h]; rfl
          have hf3 : bitB (sn : Int) k = true → bitB (x1 : Int) k = true → FW (k + 1) = FW k := fun h h2 => by rw [hf1, h, show x1.testBit k = true from by simpa [bitB] using h2]; rfl
          have hf4 : bitB (sn : Int) k = true → bitB (x1 : Int) k = false → FW (k + 1) = FW k + 2 ^ k := fun h h2 => by rw [hf1, h, show x1.testBit k = false from by simpa [bitB] using h2]; rfl
          clear hf1
          generalize hG2 : FW (k + 1) = g2 at hf2 hf3 hf4
          generalize FW k = fk at hF hf2 hf3 hf4
          generalize hQ1 : 2 ^ (k + 1) = P1 at hP2
          generalize 2 ^ k = P at hF hf4 hP2 hP8
          replace hG2 := Lib.hid hG2
          replace hQ1 := Lib.hid hQ1
          replace hf2 := Lib.hid hf2
          replace hf3 := Lib.hid hf3
          replace hf4 := Lib.hid hf4
          cases hb : bitB (sn : Int) k
          · have e1 := Lib.hid (hf2.out hb)
            have hbh := Lib.hid hb
            clear hb i1r
            go_wp2_with (go_at_call 53; (with_reducible refine (Bit_is sn k _ _ hbh.out (by omega) (by omega)).mono ?_); rintro e w5 ⟨rfl, rfl⟩; dsimp only)
            go_roundw
            case rel => exact ⟨k + 1, by omega, by go_num, congrArg (Value.int .i64) (by rw [hG2.out, e1.out]), congrArg (Value.int .i64) (by rw [hQ1.out, hP2]; omega), hB⟩
            case measure => simp [intOf]; omega
          · have hbh := Lib.hid hb
            go_wp2_with (go_at_call 53; (with_reducible refine (Bit_is sn k _ _ hbh.out (by omega) (by omega)).mono ?_); rintro e w5 ⟨rfl, rfl⟩; dsimp only)
            have hmk2 := Lib.hid (fun (w : Int) (hw : w ∈ l) => (hkr.out k hlt) ▸ hmk.out k hlt hb w hw)
            have hkk := hkn.out k hlt
            have hk2 : (k : Int) < (r.kept.length : Int) := by omega
            obtain ⟨bk, ok, rfl, hbk, hck⟩ := hm.kept k hlt
            have hck0 := cell_below (hwX.trans (hQ2.mono hwX.size)) hck
            generalize r.kept[k] = kv at hck hck0 hkk hmk2
            obtain ⟨kn, rfl⟩ : ∃ kn : Nat, kv = (kn : Int) := ⟨kv.toNat, (Int.toNat_of_nonneg hkk.1).symm⟩
            clear hx
            go_loopw [14] (fun j wv => ∃ i : Nat, i ≤ l.length ∧ j = .int .i64 i ∧ Below wr.heap.size wr wv) (fun j _ => l.length - (intOf j).toNat)
            case atStart => exact ⟨0, Nat.zero_le _, rfl, Below.refl _ _⟩
            case round =>
              rename World => wv
              obtain ⟨i, hi, rfl, hC⟩ := hrel
              have hQ3 := q_on hQ2 hC
              have hx := HC.out _ hQ3
              by_cases hlt3 : i < l.length
              · obtain ⟨bq, oq, rfl, hbq, hcq⟩ := i1r i hlt3
                have hcq2 := cell_below hC hcq
                have hbq2 := lt_of_cell hcq2
                have hck2 := cell_below hC hck0
                have hbk2 := lt_of_cell hck2
                have hin := hmem.out l[i] (List.getElem_mem hlt3)
                have hbf := hmk2.out l[i] (List.getElem_mem hlt3)
                generalize l[i] = xv at hcq hcq2 hin hbf
                obtain ⟨xn, rfl⟩ : ∃ xn : Nat, xv = (xn : Int) := ⟨xv.toNat, (Int.toNat_of_nonneg hin.1).symm⟩
                rw [Int.toNat_natCast] at hbf
                have hi2 : (i : Int) < (l.length : Int) := by omega
                have BQ := Lib.hid (fun (W : World) => (Bit_is kn xn false W hbf (by omega) (by omega)).mono fun e w' h => (⟨h.1, h.2.symm⟩ : e = _ ∧ w' = W))
                clear hbf hin
                go_upto_region 17 with (fail)
                go_quiet ((go_at_call 53; (with_reducible exact Calls.quiet_of_same (BQ.out _))))
                go_wp2
                go_roundw
                case rel => exact ⟨i + 1, by omega, by go_num, below_drewN' hC _⟩
                case measure => simp [intOf]; omega
              · obtain rfl : i = l.length := by omega
                have hB2 := q_on hB hC
                clear hck hck0 hkk hk2 hmk2
                cases hbx : bitB (x1 : Int) k
                · have e1 := Lib.hid (hf4.out hb hbx)
                  have hs0 := shr_no (by omega) hbx
                  clear hb hbx
                  go_wp2
                  go_roundw
                  case rel => exact ⟨k + 1, by omega, by go_num, congrArg (Value.int .i64) (by rw [hG2.out, e1.out]; omega), congrArg (Value.int .i64) (by rw [hQ1.out, hP2]; omega), hB2⟩
                  case measure => simp [intOf]; omega
                · have e1 := Lib.hid (hf3.out hb hbx)
                  have hs0 := shr_yes (by omega) hbx
                  clear hb hbx
                  go_wp2
                  go_roundw
                  case rel => exact ⟨k + 1, by omega, by go_num, congrArg (Value.int .i64) (by rw [hG2.out, e1.out]), congrArg (Value.int .i64) (by rw [hQ1.out, hP2]; omega), hB2⟩
                  case measure => simp [intOf]; omega
        · obtain rfl : k = r.kept.length := by omega
          have hF := hlt2.out r.kept.length
          generalize FW r.kept.length = few at hF m2
          clear i1r ct zt hTr hk hmk hmem hfs hlt2 hf0
          go_upto_region 22 with (fail)
          go_cut [15, 16] from 107 to 108 (fun p q W => ∃ bp bl : Nat, p = .pointer (some ⟨bp, 0, none⟩) ∧ q = .pointer (some ⟨bl, 0, none⟩) ∧ bp ≠ bl ∧ wr.heap.size ≤ bp ∧ wr.heap.size ≤ bl ∧ W.heap[bp]? = some (.cells #[.slice a1 r.writers.length k1, .slice a2 r.kept.length k2, .slice a3 r.leaks.length k3, .slice (some ⟨bt, ot, none⟩) r.letters.length k4, .slice a5 r.heard.length k5] 28 (0, 0)) ∧ W.heap[bl]? = some (.cells #[.slice a1 r.writers.length k1, .slice a2 r.kept.length k2, .slice a3 r.leaks.length k3, .slice (some ⟨bt, ot, none⟩) r.letters.length k4, .slice a5 r.heard.length k5] 28 (0, 0)) ∧ Below wr.heap.size wr W)
          case first =>
            go_region
            all_goals
              go_wp2
              go_meet
              case rel =>
                first
                  | exact ⟨wr.heap.size, wr.heap.size + 1, rfl, rfl, by omega, by omega, by omega, by rw [drew_heap]; exact (heap_alloc_old _ _ (by simp)).trans (alloc_at _ _ rfl), by rw [drew_heap]; exact alloc_at _ _ (by simp), (by (repeat' (first | assumption | exact Below.refl _ _ | refine below_drew' ?_ | refine Below.setCell ?_ (by first | omega | (simp <;> omega)) _ | refine Below.alloc ?_ (by first | omega | (simp <;> omega)) _)))⟩
                  | exact ⟨wr.heap.size + 1, wr.heap.size, rfl, rfl, by omega, by omega, by omega, by rw [drew_heap]; exact alloc_at _ _ (by simp), by rw [drew_heap]; exact (heap_alloc_old _ _ (by simp)).trans (alloc_at _ _ rfl), (by (repeat' (first | assumption | exact Below.refl _ _ | refine below_drew' ?_ | refine Below.setCell ?_ (by first | omega | (simp <;> omega)) _ | refine Below.alloc ?_ (by first | omega | (simp <;> omega)) _)))⟩
          case rest =>
            obtain ⟨bp, bl, rfl, rfl, hne, hp1, hl1, hP, hL0, hb⟩ := hcut
            rename World => W0
            have hwW := hwX.trans ((q_on hQ2 hb).mono hwX.size)
            have hwr : w.heap.size < wr.heap.size := by have := hwX.size; have := hQ2.size; have := hx.2.2.2.2.2.2.2.1; omega
            have hx := HC.out _ (q_on hQ2 hb)
            have cp : W0.cell? ⟨bp, 4, none⟩ = some (.slice a5 r.heard.length k5) := blk_cell 4 hP rfl
            have fp := blk_free 4 hP
            have zp := lt_of_block hP
            have cl : W0.cell? ⟨bl, 4, none⟩ = some (.slice a5 r.heard.length k5) := blk_cell 4 hL0 rfl
            have fl := blk_free 4 hL0
            have zl := lt_of_block hL0
            go_upto_region 24 with (fail)
            obtain ⟨Y, hY⟩ : ∃ Y : World, Y = (W0.setCell ⟨bp, 4, none⟩ (.slice none 0 0)).setCell ⟨bl, 4, none⟩ (.slice none 0 0) := ⟨_, rfl⟩
            rw [← hY]
            have hPY : Y.heap[bp]? = some (.cells #[.slice a1 r.writers.length k1, .slice a2 r.kept.length k2, .slice a3 r.leaks.length k3, .slice (some ⟨bt, ot, none⟩) r.letters.length k4, .slice none 0 0] 28 (0, 0)) := by rw [hY]; exact (Below.heap_setCell _ _ _ _ hne).trans (blk_set 4 _ hP)
            have hLY : Y.heap[bl]? = some (.cells #[.slice a1 r.writers.length k1, .slice a2 r.kept.length k2, .slice a3 r.leaks.length k3, .slice (some ⟨bt, ot, none⟩) r.letters.length k4, .slice none 0 0] 28 (0, 0)) := by rw [hY]; exact blk_set 4 _ ((Below.heap_setCell _ _ _ _ (Ne.symm hne)).trans hL0)
            have hbY : Below wr.heap.size wr Y := by rw [hY]; exact (hb.setCell hp1 _).setCell hl1 _
            clear hY cp fp zp cl fl zl hx hP hL0 hb
            have hQY := q_on hQ2 hbY
            have hwY := hwX.trans (hQY.mono hwX.size)
            have hx := HC.out _ hQY
            have x3 := hx.2.2.2.1
            have zw := hx.2.2.2.2.2.2.2.1
            have cl : Y.cell? ⟨bl, 3, none⟩ = some (.slice (some ⟨bt, ot, none⟩) r.letters.length k4) := blk_cell 3 hLY rfl
            have fl := blk_free 3 hLY
            have zl := lt_of_block hLY
            clear hx
            go_upto_region 25 with (at_builtin; go_must (refine wpList_app (.tmp 111) (.tmp 113) E_letter rfl rfl rfl rfl Y.heap.size 0 r.letters.length [] (flatC letterCells r.letters) (made_row Y _ 3) ?g1 (by omega) (by decide) (by simp) ?_; (case g1 => exact SrcAt.letters hm.ok4.2.2 ((hm.letters.mono hwY).mono (al_on _ _))); intro v1 w9 ho1 hg1 _; simp only [Nat.zero_add, List.nil_append] at ho1; (have hb9 := app_fresh (n := 0) (c := 0) hg1); clear hg1; (obtain ⟨-, a9, c9, rfl, hs9, -⟩ := letters_own ho1); (have hL9 := (hb9.block _ zl).trans hLY); (have cl := cell_below hb9 cl); (have fl := blk_free 3 hL9); (have zl := lt_of_block hL9); simp only [Act.put, List.setIfInBounds_toArray, List.set_cons_succ, List.set_cons_zero]))
            obtain ⟨Z, hZ⟩ : ∃ Z : World, Z = w9.setCell ⟨bl, 3, none⟩ (.slice a9 r.letters.length c9) := ⟨_, rfl⟩
            rw [← hZ]
            have zpY := lt_of_block hPY
            have zlY := lt_of_block hLY
            have hLZ : Z.heap[bl]? = some (.cells #[.slice a1 r.writers.length k1, .slice a2 r.kept.length k2, .slice a3 r.leaks.length k3, .slice a9 r.letters.length c9, .slice none 0 0] 28 (0, 0)) := by rw [hZ]; exact blk_set 3 _ hL9
            have hPZ : Z.heap[bp]? = some (.cells #[.slice a1 r.writers.length k1, .slice a2 r.kept.length k2, .slice a3 r.leaks.length k3, .slice (some ⟨bt, ot, none⟩) r.letters.length k4, .slice none 0 0] 28 (0, 0)) := by rw [hZ]; exact (Below.heap_setCell _ _ _ _ hne).trans ((hb9.block _ zpY).trans hPY)
            have hoZ : Z.ownsRow Y.heap.size 68 3 (.slice a9 r.letters.length c9) r.letters.length (flatC letterCells r.letters) := by rw [hZ]; exact ownsRow_setCell_other ho1 (fun e => by have h1 := (ho1.lt _ e).1; simp only at h1; omega) _
            have hbZ : Below wr.heap.size wr Z := by rw [hZ]; exact (hbY.trans (hb9.mono hbY.size)).setCell hl1 _
            have hYr := hbY.size
            clear hZ hL9 hPY hLY hb9 ho1 cl fl zl x3 zw hbY
            rcases hoZ.2 with ⟨_, hn0⟩ | ⟨g, cap, cur, hvv, hbg, hgg, _⟩
            · omega
            obtain ⟨rfl, rfl⟩ : a9 = some ⟨g, 0, none⟩ ∧ c9 = cap := by cases hvv; exact ⟨rfl, rfl⟩
            clear hvv
            have hgl := lt_of_block hgg
            have hfl : (flatC letterCells r.letters).length = r.letters.length * 3 := flatC_len letterCells_len _
            have q1 : Z.cell? ⟨g, n * 3 + 1, none⟩ = some (.int .i64 r.letters[n].secrets) := (hoZ.cellAt (n * 3 + 1) (by omega)).trans (flatC_get letterCells_len r.letters n hnl 1 (by omega))
            have e1 := hoZ.frozenAt (n * 3 + 1)
            have x3 : Z.cell? ⟨bl, 3, none⟩ = some (.slice (some ⟨g, 0, none⟩) r.letters.length c9) := blk_cell 3 hLZ rfl
            have zl := lt_of_block hLZ
            go_upto_region 26 with (fail)
            obtain ⟨Z2, hZ2⟩ : ∃ Z2 : World, Z2 = Z.setCell ⟨g, n * 3 + 1, none⟩ (.int .i64 (few : Int)) := ⟨_, rfl⟩
            rw [← hZ2]
            have hL2 : Z2.heap[bl]? = some (.cells #[.slice a1 r.writers.length k1, .slice a2 r.kept.length k2, .slice a3 r.leaks.length k3, .slice (some ⟨g, 0, none⟩) r.letters.length c9, .slice none 0 0] 28 (0, 0)) := by rw [hZ2]; exact (Below.heap_setCell _ _ _ _ (show bl ≠ g by omega)).trans hLZ
            have hP2' : Z2.heap[bp]? = some (.cells #[.slice a1 r.writers.length k1, .slice a2 r.kept.length k2, .slice a3 r.leaks.length k3, .slice (some ⟨bt, ot, none⟩) r.letters.length k4, .slice none 0 0] 28 (0, 0)) := by rw [hZ2]; exact (Below.heap_setCell _ _ _ _ (show bp ≠ g by omega)).trans hPZ
            have ho2 : Z2.ownsRow Y.heap.size 68 3 (.slice (some ⟨g, 0, none⟩) r.letters.length c9) r.letters.length (flatC letterCells (lessRoom r n (few : Int)).letters) := by rw [hZ2]; exact letters_set r.letters n hnl (few : Int) ▸ (hoZ.stored (n * 3 + 1) (.int .i64 (few : Int))).1
            have hbZ2 : Below wr.heap.size wr Z2 := by rw [hZ2]; exact hbZ.setCell (show wr.heap.size ≤ g by omega) _
            clear hZ2 q1 e1 x3 zl hoZ hbZ hLZ hPZ hgg
            have hQZ := q_on hQ2 hbZ2
            have hwZ := hwX.trans (hQZ.mono hwX.size)
            have hM := hm.mono hwZ
            obtain ⟨hle, a8, c8, e8, hs8, hw8⟩ := letters_own ho2
            obtain ⟨rfl, -, rfl⟩ := Value.slice.inj e8
            clear e8 ho2
            have MK : RoomC Z2 a1 a2 a3 (some ⟨g, 0, none⟩) none k1 k2 k3 c9 0 (lessRoom r n (few : Int)) := ⟨hM.ok1, hM.ok2, hM.ok3, hs8, ⟨Nat.le_refl _, by omega, fun _ => rfl⟩, hM.writers, hM.kept, hM.leaks, hw8, fun i hi => absurd hi (Nat.not_lt_zero i), hM.wsize⟩
            have MP : RoomC Z2 a1 a2 a3 (some ⟨bt, ot, none⟩) none k1 k2 k3 k4 0 (withHeard r []) := ⟨hM.ok1, hM.ok2, hM.ok3, hM.ok4, ⟨Nat.le_refl _, by omega, fun _ => rfl⟩, hM.writers, hM.kept, hM.leaks, hM.letters, fun i hi => absurd hi (Nat.not_lt_zero i), hM.wsize⟩
            have hLK : Lens (lessRoom r n (few : Int)) r.writers.length r.kept.length r.leaks.length r.letters.length 0 := ⟨rfl, rfl, rfl, hle.symm, rfl⟩
            have hLP : Lens (withHeard r []) r.writers.length r.kept.length r.leaks.length r.letters.length 0 := ⟨rfl, rfl, rfl, rfl, rfl⟩
            clear hs8 hw8 hle hM
            generalize lessRoom r n (few : Int) = K1 at MK hLK m2
            generalize withHeard r [] = K0 at MP hLP m1
            have HD : Hid (∀ V, Below Z2.heap.size Z2 V → (V.cell? ⟨bp, 0, none⟩ = some (.slice a1 r.writers.length k1) ∧ V.cell? ⟨bp, 1, none⟩ = some (.slice a2 r.kept.length k2) ∧ V.cell? ⟨bp, 2, none⟩ = some (.slice a3 r.leaks.length k3) ∧ V.cell? ⟨bp, 3, none⟩ = some (.slice (some ⟨bt, ot, none⟩) r.letters.length k4) ∧ V.cell? ⟨bp, 4, none⟩ = some (.slice none 0 0) ∧ bp < V.heap.size ∧ V.cell? ⟨bl, 0, none⟩ = some (.slice a1 r.writers.length k1) ∧ V.cell? ⟨bl, 1, none⟩ = some (.slice a2 r.kept.length k2) ∧ V.cell? ⟨bl, 2, none⟩ = some (.slice a3 r.leaks.length k3) ∧ V.cell? ⟨bl, 3, none⟩ = some (.slice (some ⟨g, 0, none⟩) r.letters.length c9) ∧ V.cell? ⟨bl, 4, none⟩ = some (.slice none 0 0) ∧ bl < V.heap.size)) := Lib.hid (fun V h => by
              have v1 := (h.block _ (lt_of_block hP2')).trans hP2'
              have v2 := (h.block _ (lt_of_block hL2)).trans hL2
              exact ⟨blk_cell 0 v1 rfl, blk_cell 1 v1 rfl, blk_cell 2 v1 rfl, blk_cell 3 v1 rfl, blk_cell 4 v1 rfl, lt_of_block v1, blk_cell 0 v2 rfl, blk_cell 1 v2 rfl, blk_cell 2 v2 rfl, blk_cell 3 v2 rfl, blk_cell 4 v2 rfl, lt_of_block v2⟩)
            have N0 := Lib.hid (fun (V : World) (h : Below Z2.heap.size Z2 V) => MP.mono h)
            have N1 := Lib.hid (fun (V : World) (h : Below Z2.heap.size Z2 V) => MK.mono h)
            clear hL2 hP2' MP MK HC M hQ hQ2 hQZ
            have hQ := Below.refl Z2.heap.size Z2
            have hx := HD.out _ hQ
            go_wp2_with (first
              | (go_at_call 22; (with_reducible refine (Awake_any _).mono ?_); rintro e w23 ⟨rfl, hb⟩; replace hQ := q_on hQ hb; replace hx := HD.out _ hQ; dsimp only)
              | (go_at_call 51; (with_reducible refine (Subset_yes _ _ _ _ _ _ _ hsub.out o7 o8 i7 i8).mono ?_); rintro e w22 ⟨rfl, rfl⟩; dsimp only)
              | (go_at_call 28; (with_reducible refine (C_May _ _ _ _ _ _ _ _ _ _ _ _ _ _ _ K1 hLK (n : Int) lb 0 m2.out _ (N1.out _ hQ)).mono ?_); rintro e w21 ⟨b8, c8, rfl, o8, i8, hb⟩; replace i7 := i7.mono hb; replace hQ := q_on hQ hb; replace hx := HD.out _ hQ; dsimp only)
              | (go_at_call 28; (with_reducible refine (C_May _ _ _ _ _ _ _ _ _ _ _ _ _ _ _ K0 hLP (n : Int) la 0 m1.out _ (N0.out _ hQ)).mono ?_); rintro e w20 ⟨b7, c7, rfl, o7, i7, hb⟩; replace hQ := q_on hQ hb; replace hx := HD.out _ hQ; dsimp only))
            go_ret
            exact ⟨rfl, hwZ.trans (hQ.mono hwZ.size)⟩
  · have hs := Bool.eq_false_iff.2 hs
    replace hs := Lib.hid hs
    obtain ⟨e0, hc, he0⟩ := may_none (r := r) (n := 0) (.inl hs.out)
    replace hc := Lib.hid hc
    have hne := nei_t he0
    clear he0
    go_enter Try.func14, Try.ntmps14
    go_upto_region 1 with (fail)
    rw [← hX]
    clear hX
    go_wp2_with (first
      | (go_at_call 22; (with_reducible refine (Awake_any _).mono ?_); rintro e w4 ⟨rfl, hb⟩; replace hQ := q_on hQ hb; replace hx := HC.out _ hQ; dsimp only)
      | (go_at_call 28; (with_reducible refine (A_May _ _ _ _ _ _ _ _ _ _ r 0 [] e0 hc.out _ (M.out _ hQ)).mono ?_); rintro e w3 ⟨b1, c1, rfl, o1, i1, hb⟩; replace hQ := q_on hQ hb; replace hx := HC.out _ hQ; dsimp only [List.length_nil])
      | (go_at_call 43; (with_reducible refine (Some_is _ _ _ _ _ _ _ _ _ _ r false hs.out _ (M.out _ hQ)).mono ?_); rintro e w2 ⟨rfl, hb⟩; replace hQ := q_on hQ hb; replace hx := HC.out _ hQ; dsimp only))
    go_ret
    exact ⟨rfl, hwX.trans (hQ.mono hwX.size)⟩
end Go.Proofs.Ytmhbjohpggghgaa
