/- What is proved here: the contract of look of layer 10. Conditions: the chest lies in memory and is valid. -/
/- What is proved here: the contract of enter of layer 10, at a chest in which nothing is wrong and numbers that are below others, by turns. Conditions: they lie in memory. -/
/- What is proved here: the contracts of list, upTo and bits of layer 10. Conditions: sets below 64; ascending numbers below 6. -/
import Derived.Test.YtcgplocmncionaaGreatChRoom
import Derived.Test.YtcgplocmncionaaGreatSeSprG
import Derived.Test.YtcgplocmncionaaGreatChCheck
import Derived.Test.YtcgplocmncionaaGreatSeEnterG
import Derived.IntWalk
import Derived.Test.YtcgplocmncionaaGreatChFailG
import Derived.Test.YtcgplocmncionaaGreatSeFew
set_option linter.unusedVariables false
set_option linter.unusedSimpArgs false
namespace Go.Proofs.YtcgplocmncionaaGreat
open Go Go.RowKit Go.Shelf
attribute [local go_sem] Oper.semAt_some

theorem or_bit64 : ∀ c : Nat, c < 64 → ∀ k : Nat, k < 6 → bits BinOp.or .i64 (c : Int) (wrap64 (2 ^ k)) = ((c ||| 2 ^ k : Nat) : Int) := by decide +kernel
theorem pow_six {k : Nat} (h : k ≤ 6) : 2 ^ k ≤ 64 := Nat.pow_le_pow_right (n := 2) (by omega) h
set_option maxRecDepth 100000 in
set_option maxHeartbeats 2000000 in
theorem CLook_any (ap ac ar : Option Addr) (kp kc kr : Nat) (c : ChH) (w : World) (hm : ChestC w ap ac ar kp kc kr c) (hv : ChValid c) :
    Calls Tryz.prog 77 #[(.agg #[.int .i64 c.words, .int .i64 c.facts, .slice ap c.people.length kp, .int .i64 c.last, .slice ac c.copies.length kc, .slice ar c.rules.length kr])] w fun e w' => ∃ bm bo : Nat, e = .returned (.pointer (some ⟨bm, 0, none⟩)) ∧ ChestW w' bm bo ap ac ar kp kc kr c ∧ Below w.heap.size w w' ∧ w.heap.size ≤ bo := by
  have l1 := hm.okp.len
  have l2 := hm.okc.len
  have v4 := hv.np
  have v5 := hv.nc
  have hmm := @run_makeMap Tryz.prog
  have hQ0 := Below.refl (w.heap.size + 1 + 1) ((w.alloc (.cells #[.int .i64 c.words, .int .i64 c.facts, .slice ap c.people.length kp, .int .i64 c.last, .slice ac c.copies.length kc, .slice ar c.rules.length kr] 41)).alloc (.map #[] 0))
  have HV0 : Hid (vwTo c 0 = fun _ => 0) := Lib.hid (funext fun p => by unfold vwTo; split <;> rfl)
  go_enter Tryz.func77, Tryz.ntmps77
  go_upto_region 3 with (fail)
  go_loopw [14] (fun i wr => ∃ k : Nat, k ≤ c.copies.length ∧ i = .int .i64 k ∧ CBlk wr (w.heap.size + 1 + 1) (w.heap.size + 1) ap ac ar kp kc kr c (vwTo c k) ∧ Below (w.heap.size + 1 + 1) ((w.alloc (.cells #[.int .i64 c.words, .int .i64 c.facts, .slice ap c.people.length kp, .int .i64 c.last, .slice ac c.copies.length kc, .slice ar c.rules.length kr] 41)).alloc (.map #[] 0)) wr) (fun i _ => c.copies.length - (intOf i).toNat)
  case atStart => exact ⟨0, Nat.zero_le _, rfl, by rw [HV0.out]; exact alloc_at _ _ (by simp), hQ0.alloc (by simp) _⟩
  case round =>
    obtain ⟨k, hk, rfl, hL, hbr⟩ := hrel
    have hbw : Below w.heap.size w wr := (((Below.refl _ w).alloc (Nat.le_refl _) _).alloc (by simp) _).trans (hbr.mono (by omega))
    have hbz := hbr.size
    simp at hbz
    by_cases hlt : k < c.copies.length
    · have hcp : copyAt c k = c.copies[k] := by unfold copyAt; rw [List.getElem?_eq_getElem hlt]; rfl
      have hmay := (hv.copy k hlt).2.2.2.2.2.2
      have hpp := pow_six (k := c.people.length) (by omega)
      obtain ⟨y0, y1, y2, y3, y4, y5, y6, y7, y8, y9, yz⟩ := hL.cells
      obtain ⟨b, off, hac, hbb, h0, h1, h2, h3⟩ := (hm.mono hbw).copies k hlt
      have HB := Lib.hid (fun q => (show bitB (copyAt c k).may q = c.copies[k].may.toNat.testBit q from by rw [hcp]; rfl))
      clear hcp
      generalize c.copies[k] = x at HB hmay h0 h1 h2 h3
      obtain ⟨xn, xw, xf, xm⟩ := x
      simp only at h0 h1 h2 h3 HB hmay
      obtain ⟨m, rfl⟩ : ∃ m : Nat, xm = m := ⟨xm.toNat, by omega⟩
      have hm8 : m < 64 := by have := hmay.2; have h9 : ((2 : Int) ^ c.people.length) = ((2 ^ c.people.length : Nat) : Int) := by simp
                              rw [h9] at this; omega
      clear hmay hpp
      simp only [Int.toNat_natCast] at HB
      have HYZ := Lib.hid yz
      have HVE := Lib.hid (vs_end c k)
      have HVS := Lib.hid (vs_start c k)
      have HBW := Lib.hid hbw
      subst hac
      have hX0 : wr.heap[w.heap.size]? = some (.cells #[.int .i64 c.words, .int .i64 c.facts, .slice ap c.people.length kp, .int .i64 c.last, .slice (some ⟨b, off, none⟩) c.copies.length kc, .slice ar c.rules.length kr] 41 (0, 0)) := (hbr.block w.heap.size (by omega)).trans ((heap_alloc_old _ _ (by simp)).trans (alloc_at _ _ rfl))
      have x2 := blk_cell 2 hX0 rfl
      have xz0 := lt_of_block hX0
      simp only [List.getElem_toArray, List.getElem_cons_zero, List.getElem_cons_succ] at x2
      clear hX0
      go_upto_region 6 with (fail)
      obtain ⟨X, hX⟩ : ∃ X : World, X = wr.alloc (.cells #[.int .i64 xn, .int .i64 xw, .int .i64 xf, .int .i64 (m : Int)] 45) := ⟨_, rfl⟩
      rw [← hX]
      have hLX : CBlk X (w.heap.size + 1 + 1) (w.heap.size + 1) ap (some ⟨b, off, none⟩) ar kp kc kr c (vsTo c k 0) := by rw [HVS.out, hX]; exact hL.same (heap_alloc_old _ _ yz)
      have hXB : X.heap[wr.heap.size]? = some (.cells #[.int .i64 xn, .int .i64 xw, .int .i64 xf, .int .i64 (m : Int)] 45 (0, 0)) := by rw [hX]; exact alloc_at _ _ rfl
      have hbX : Below (w.heap.size + 1 + 1) ((w.alloc (.cells #[.int .i64 c.words, .int .i64 c.facts, .slice ap c.people.length kp, .int .i64 c.last, .slice (some ⟨b, off, none⟩) c.copies.length kc, .slice ar c.rules.length kr] 41)).alloc (.map #[] 0)) X := by rw [hX]; exact hbr.alloc (by first | omega | (simp <;> omega)) _
      clear hX y0 y1 y2 y3 y4 y5 y6 y7 y8 y9 yz h0 h1 h2 h3 hL hbr hbw hm
      go_loopw [22] (fun j V => ∃ q : Nat, q ≤ c.people.length ∧ j = .int .i64 q ∧ CBlk V (w.heap.size + 1 + 1) (w.heap.size + 1) ap (some ⟨b, off, none⟩) ar kp kc kr c (vsTo c k q) ∧ V.heap[wr.heap.size]? = some (.cells #[.int .i64 xn, .int .i64 xw, .int .i64 xf, .int .i64 (m : Int)] 45 (0, 0)) ∧ Below (w.heap.size + 1 + 1) ((w.alloc (.cells #[.int .i64 c.words, .int .i64 c.facts, .slice ap c.people.length kp, .int .i64 c.last, .slice (some ⟨b, off, none⟩) c.copies.length kc, .slice ar c.rules.length kr] 41)).alloc (.map #[] 0)) V) (fun j _ => c.people.length - (intOf j).toNat)
      case atStart => exact ⟨0, Nat.zero_le _, rfl, hLX, hXB, hbX⟩
      case round =>
        clear hLX hXB hbX
        rename World => V
        obtain ⟨q, hq, rfl, hL, hXB, hbr⟩ := hrel
        obtain ⟨y0, y1, y2, y3, y4, y5, y6, y7, y8, y9, yz⟩ := hL.cells
        have e3 := blk_cell 3 hXB rfl
        have ez := lt_of_block hXB
        simp only [List.getElem_toArray, List.getElem_cons_zero, List.getElem_cons_succ] at e3
        by_cases hql : q < c.people.length
        · have hb := bit_and m hm8 q (by omega)
          have hB := HB.out q
          have hq3 : q < 3 := by omega
          have hq64 : (q : Int) < 64 := by omega
          have hk64 : (k : Int) < 64 := by omega
          cases hbt : m.testBit q
          · rw [hbt] at hb hB
            have HS := Lib.hid (vs_no hB)
            clear hB hbt
            go_wp2
            go_roundw
            case rel => exact ⟨q + 1, by omega, by go_num, by rw [← HS.out]; exact hL, hXB, hbr⟩
            case measure => simp [intOf]; omega
          · rw [hbt] at hb hB
            have HS := Lib.hid (vs_yes hql hB)
            have hvl := vwTo_lt c k q
            have hk2 := pow_six (k := k) (by omega)
            have hvv := hL.view hq3
            rw [vs_at] at hvv
            have HSET := Lib.hid (hL.set hq3 (vwTo c k q ||| 2 ^ k))
            have HO := Lib.hid (or_bit64 (vwTo c k q) (by omega) k (by omega))
            have ff := hL.free (6 + q)
            clear hB hbt hvl hk2
            generalize vwTo c k q = vq at hvv HSET HO HS
            go_wp2
            apply wp_mid _ (fun U => CBlk U (w.heap.size + 1 + 1) (w.heap.size + 1) ap (some ⟨b, off, none⟩) ar kp kc kr c (vsTo c k (q + 1)) ∧ U.heap[wr.heap.size]? = some (.cells #[.int .i64 xn, .int .i64 xw, .int .i64 xf, .int .i64 (m : Int)] 45 (0, 0)) ∧ Below (w.heap.size + 1 + 1) ((w.alloc (.cells #[.int .i64 c.words, .int .i64 c.facts, .slice ap c.people.length kp, .int .i64 c.last, .slice (some ⟨b, off, none⟩) c.copies.length kc, .slice ar c.rules.length kr] 41)).alloc (.map #[] 0)) U)
            · (focus go_region)
              all_goals
                have hyz := HYZ.out
                refine ⟨rfl, ?_⟩
                rw [HO.out, ← HS.out]
                exact ⟨HSET.out, (Below.heap_setCell _ _ _ _ (by simp only; omega)).trans hXB, below_drew' (hbr.setCell (Nat.le_refl _) _)⟩
            rintro U ⟨hL', hXB', hbr'⟩
            go_wp2
            go_roundw
            case rel => exact ⟨q + 1, by omega, by go_num, hL', hXB', hbr'⟩
            case measure => simp [intOf]; omega
        · obtain rfl : q = c.people.length := by omega
          rw [HVE.out] at hL
          go_wp2
          go_roundw
          case rel => exact ⟨k + 1, by omega, by go_num, hL, hbr⟩
          case measure => simp [intOf]; omega
    · obtain rfl : k = c.copies.length := by omega
      have hM0 : MapV ((w.alloc (.cells #[.int .i64 c.words, .int .i64 c.facts, .slice ap c.people.length kp, .int .i64 c.last, .slice ac c.copies.length kc, .slice ar c.rules.length kr] 41)).alloc (.map #[] 0)) Tryz.prog 3 (w.heap.size + 1) [] := by have := MapV.made (w.alloc (.cells #[.int .i64 c.words, .int .i64 c.facts, .slice ap c.people.length kp, .int .i64 c.last, .slice ac c.copies.length kc, .slice ar c.rules.length kr] 41)) Tryz.prog 3; simpa using this
      have hMr := hM0.same (hbr.block (w.heap.size + 1) (by omega))
      go_wp2
      go_ret
      exact ⟨_, _, rfl, ⟨hm.mono hbw, hL, _, hMr, memoC_nil c⟩, hbw, by omega⟩
end Go.Proofs.YtcgplocmncionaaGreat
namespace Go.Proofs.YtcgplocmncionaaGreat
open Go Go.RowKit Go.Shelf

set_option maxRecDepth 100000 in
set_option maxHeartbeats 2000000 in
theorem CEnter_any (ap ac ar : Option Addr) (kp kc kr : Nat) (c : ChH) (ad : Option Addr) (ns : List Int) (cp : Nat) (w : World) (hm : ChestC w ap ac ar kp kc kr c) (hv : ChValid c) (hs : SlOk ad ns.length cp) (hi : IntsC w ad ns) (hev : ns.length % 2 = 0) (hl8 : ns.length ≤ 8)
    (hok : ∀ j (h : j + 1 < ns.length), j % 2 = 0 → 0 ≤ ns[j] ∧ ns[j] ≤ ns[j + 1] - 1 ∧ ns[j + 1] ≤ 1000) :
    Calls Tryz.prog 40 #[(.agg #[.int .i64 c.words, .int .i64 c.facts, .slice ap c.people.length kp, .int .i64 c.last, .slice ac c.copies.length kc, .slice ar c.rules.length kr]), .slice ad ns.length cp] w fun e w' => ∃ bm bo : Nat, e = .returned (.tuple #[.pointer (some ⟨bm, 0, none⟩), .int .i64 0]) ∧ ChestW w' bm bo ap ac ar kp kc kr c ∧ Below w.heap.size w w' ∧ w.heap.size ≤ bo := by
  have C := Lib.hid (fun (W : World) (h : Below w.heap.size w W) => CCheck_any _ _ _ _ _ _ c W (hm.mono h) hv)
  have LK := Lib.hid (fun (W : World) (h : Below w.heap.size w W) => CLook_any _ _ _ _ _ _ c W (hm.mono h) hv)
  have hQ := Below.refl (w.heap.size + 1) (w.alloc (.cells #[.int .i64 c.words, .int .i64 c.facts, .slice ap c.people.length kp, .int .i64 c.last, .slice ac c.copies.length kc, .slice ar c.rules.length kr] 41))
  have hcl := hs.1
  have hcm := hs.2.1
  have HEV := Lib.hid hev
  have HOK := Lib.hid hok
  clear hok hv
  obtain ⟨x0, x1, x2, x3, x4, x5, xz⟩ := box_chest hQ
  go_enter Tryz.func40, Tryz.ntmps40
  go_upto_region 5 with (go_at_call 75; go_must (refine (C.out _ (box_old hQ)).mono ?_; rintro e w2 ⟨rfl, hb2⟩; have hQ2 := hQ.trans (hb2.mono (by simp)); dsimp only))
  clear x0 x1 x2 x3 x4 x5 xz hb2 hQ
  go_loopw [9] (fun i wr => ∃ k : Nat, k ≤ ns.length ∧ i = .int .i64 k ∧ Hid (k % 2 = 0) ∧ Below (w.heap.size + 1) (w.alloc (.cells #[.int .i64 c.words, .int .i64 c.facts, .slice ap c.people.length kp, .int .i64 c.last, .slice ac c.copies.length kc, .slice ar c.rules.length kr] 41)) wr) (fun i _ => ns.length - (intOf i).toNat)
  case atStart => exact ⟨0, Nat.zero_le _, rfl, Lib.hid rfl, hQ2⟩
  case round =>
    clear hQ2
    obtain ⟨k, hk, rfl, HK, hQ3⟩ := hrel
    by_cases hlt : k < ns.length
    · have hlt1 : k + 1 < ns.length := by have := HK.out; have := HEV.out; omega
      obtain ⟨b, off, rfl, hbb, h1⟩ := (hi.mono (box_old hQ3)) k hlt
      obtain ⟨b', off', e', hbb', h2⟩ := (hi.mono (box_old hQ3)) (k + 1) hlt1
      cases e'
      have hbd := HOK.out k hlt1 HK.out
      generalize ns[k] = x at h1 hbd
      generalize ns[k + 1] = y at h2 hbd
      have B1 := Lib.hid (fun (a : Nat) (W : World) h => COffOk x 0 (y - 1) ⟨hbd.1, hbd.2.1⟩ a W h)
      have hzz := hQ3.size
      have hk8 : (k : Int) ≤ 8 := by omega
      have hk0 : (k : Int) + 1 < ns.length := by omega
      have hk1 : (k : Int) + 1 ≤ cp := by omega
      go_upto_region 7 with (fail)
      have hw1 : IntKind.i64.wrap ((k : Int) + 1) = (k : Int) + 1 := IntWalk.i64_in _ (by omega)
      have hw2 : IntKind.i64.wrap (y - 1) = y - 1 := IntWalk.i64_in _ (by omega)
      have hw3 : ((k : Int) + 1).toNat = k + 1 := by omega
      have hw4 : (0 : Int) ≤ (k : Int) + 1 := by omega
      apply wp_mid _ (fun V => Below (w.heap.size + 1) (w.alloc (.cells #[.int .i64 c.words, .int .i64 c.facts, .slice ap c.people.length kp, .int .i64 c.last, .slice ac c.copies.length kc, .slice ar c.rules.length kr] 41)) V)
      · have KE : Hid (∀ V, Below wr.heap.size wr V → (Below wr.heap.size wr V ∧ V.cell? ⟨b, off + k, none⟩ = some (.int .i64 x) ∧ V.cell? ⟨b, off + (k + 1), none⟩ = some (.int .i64 y) ∧ b < V.heap.size)) := Lib.hid (fun V h => ⟨h, cell_below h h1, cell_below h h2, Nat.lt_of_lt_of_le hbb h.size⟩)
        have hB0 := below_drew' (Below.refl wr.heap.size wr)
        have hBa := below_drew' ((Below.refl _ wr).alloc (Nat.le_refl _) (.cells #[.int .i64 x] 3))
        go_region_held3 (fun V => Below wr.heap.size wr V ∧ V.cell? ⟨b, off + k, none⟩ = some (.int .i64 x) ∧ V.cell? ⟨b, off + (k + 1), none⟩ = some (.int .i64 y) ∧ b < V.heap.size) (exact KE.out _ (by assumption)) (first
          | (go_at_call 76; refine (B1.out _ _ ?_).mono ?_; (simp); rintro e w2 ⟨rfl, hb2⟩; have hB2 := hBa.trans (hb2.mono (by simp)); dsimp only))
        exact ⟨rfl, box_on hQ3 hB2⟩
      rintro V hV
      clear hw1 hw2 hw3 hw4
      go_wp2
      go_roundw
      case rel => exact ⟨k + 2, by omega, by go_num, Lib.hid (by have := HK.out; omega), hV⟩
      case measure => simp [intOf]; omega
    · obtain ⟨x0, x1, x2, x3, x4, x5, xz⟩ := box_chest hQ3
      have hnl : ¬ (k : Int) + 1 < ns.length := by omega
      go_wp2_with (go_at_call 77; go_must (refine (LK.out _ (box_old hQ3)).mono ?_; rintro e w3 ⟨bm, bo, rfl, hR3, hb3, hbo⟩; dsimp only))
      go_ret2
      have hz := (box_old hQ3).size
      exact ⟨bm, rfl, bo, hR3, (box_old hQ3).trans (hb3.mono hz), by omega⟩
end Go.Proofs.YtcgplocmncionaaGreat
namespace Go.Proofs.YtcgplocmncionaaGreat
open Go Go.RowKit

theorem shr_pos : ∀ s : Nat, s < 64 → ∀ k : Nat, k < 7 → (decide (0 < (s : Int) / 2 ^ k) = decide (2 ^ k ≤ s)) := by decide +kernel
set_option maxHeartbeats 2000000 in
theorem CList_any (s : Nat) (hs : s < 64) (w : World) :
    Calls Tryz.prog 42 #[.int .i64 (s : Int)] w fun e w' => ∃ v, e = .returned v ∧ IntsN w.heap.size w' v (numI s) ∧ Below w.heap.size w w' := by
  have HEND := Lib.hid (fun (c : Nat) (h : s < 2 ^ c) (h2 : c ≤ 6) => (numI_end h (by omega) : bitsList s c = numI s))
  generalize numI s = r at HEND ⊢
  go_enter Tryz.func42, Tryz.ntmps42
  go_wp2
  go_loopw [2, 3] (fun o i wr => ∃ (c : Nat), c ≤ 6 ∧ i = .int .i64 c ∧ wr.ownsRow w.heap.size 3 1 o (bitsList s c).length ((bitsList s c).map (Value.int .i64)) ∧ Below w.heap.size w wr) (fun _ i _ => 6 - (intOf i).toNat)
  case atStart => exact ⟨0, Nat.zero_le _, rfl, World.ownsRow_nil _ _ _ _, Below.refl _ _⟩
  case round =>
    obtain ⟨c, hc, rfl, hown, hB⟩ := hrel
    have hB1 := hB.size
    have hc64 : (c : Int) < 64 := by omega
    have hsp := shr_pos s hs c (by omega)
    by_cases hlt : 2 ^ c ≤ s
    · have hc6 : c < 6 := by
        rcases Nat.lt_or_ge c 6 with h | h
        · exact h
        · have : c = 6 := by omega
          subst this; simp at hlt; omega
      have hgt : 0 < (s : Int) / 2 ^ c := by rw [decide_eq_true hlt] at hsp; exact of_decide_eq_true hsp
      have hst := Lib.hid (bits_succ s c)
      have hkl : (bitsList s c).length ≤ 6 := by unfold bitsList; rw [List.length_map]; have := List.length_filter_le (fun i => s.testBit i) (List.range c); simp at this; omega
      have hb := bit_and s hs c (by omega)
      clear hsp hlt HEND
      generalize bitsList s c = L at hown hst hkl
      cases hbt : s.testBit c
      · rw [hbt] at hb
        replace hst := Lib.hid (show bitsList s (c + 1) = L from by rw [hst.out, hbt]; simp)
        clear hbt
        go_wp2
        go_roundw
        case rel => exact ⟨c + 1, by omega, by go_num, by rw [hst.out]; simpa using hown, hB⟩
        case measure => simp [intOf]; omega
      · rw [hbt] at hb
        replace hst := Lib.hid (show bitsList s (c + 1) = L ++ [(c : Int)] from by rw [hst.out, hbt]; simp)
        clear hbt
        go_wp2_with (at_builtin; go_must (refine wpList_app (.tmp 15) (.tmp 17) E_int rfl rfl rfl rfl w.heap.size L.length 1 (L.map (Value.int .i64)) [.int .i64 (c : Int)] (hown.alloc _) (SrcAt.one _ _ _ rfl) (by omega) (by decide) (by simp; omega) ?_; intro v2 w2 ho2 hg2 _; (have hb2 := app_next hB (Nat.le_refl _) (Nat.le_refl _) hown hg2); clear hg2; simp only [Act.put, List.setIfInBounds_toArray, List.set_cons_succ, List.set_cons_zero]))
        go_roundw
        case rel => exact ⟨c + 1, by omega, by go_num, by rw [hst.out]; simpa using ho2, hb2⟩
        case measure => simp [intOf]; omega
    · have hgt : ¬ 0 < (s : Int) / 2 ^ c := by rw [decide_eq_false hlt] at hsp; exact of_decide_eq_false hsp
      rw [HEND.out c (by omega) hc] at hown
      clear hsp HEND
      go_wp2
      go_ret
      exact ⟨_, rfl, ints_ownN hown, hB⟩
def upI (n : Nat) : List Int := (List.range n).map fun (c : Nat) => (c : Int)
theorem upI_succ (n : Nat) : upI (n + 1) = upI n ++ [(n : Int)] := by unfold upI; rw [List.range_succ, List.map_append]; rfl
theorem upI_len (n : Nat) : (upI n).length = n := by unfold upI; simp
set_option maxHeartbeats 2000000 in
theorem CUpTo_any (n : Nat) (hn : n ≤ 6) (w : World) :
    Calls Tryz.prog 60 #[.int .i64 (n : Int)] w fun e w' => ∃ v, e = .returned v ∧ IntsN w.heap.size w' v (upI n) ∧ Below w.heap.size w w' := by
  go_enter Tryz.func60, Tryz.ntmps60
  go_wp2
  go_loopw [2, 5] (fun o i wr => ∃ (c : Nat), c ≤ n ∧ i = .int .i64 c ∧ wr.ownsRow w.heap.size 3 1 o (upI c).length ((upI c).map (Value.int .i64)) ∧ Below w.heap.size w wr) (fun _ i _ => n - (intOf i).toNat)
  case atStart => exact ⟨0, Nat.zero_le _, rfl, World.ownsRow_nil _ _ _ _, Below.refl _ _⟩
  case round =>
    obtain ⟨c, hc, rfl, hown, hB⟩ := hrel
    have hB1 := hB.size
    by_cases hlt : c < n
    · have hst := Lib.hid (upI_succ c)
      have hkl := upI_len c
      replace hkl : (upI c).length ≤ 6 := by omega
      generalize upI c = L at hown hst hkl
      go_wp2_with (at_builtin; go_must (refine wpList_app (.tmp 8) (.tmp 10) E_int rfl rfl rfl rfl w.heap.size L.length 1 (L.map (Value.int .i64)) [.int .i64 (c : Int)] (hown.alloc _) (SrcAt.one _ _ _ rfl) (by omega) (by decide) (by simp; omega) ?_; intro v2 w2 ho2 hg2 _; (have hb2 := app_next hB (Nat.le_refl _) (Nat.le_refl _) hown hg2); clear hg2; simp only [Act.put, List.setIfInBounds_toArray, List.set_cons_succ, List.set_cons_zero]))
      go_roundw
      case rel => exact ⟨c + 1, by omega, by go_num, by rw [hst.out]; simpa using ho2, hb2⟩
      case measure => simp [intOf]; omega
    · obtain rfl : c = n := by omega
      go_wp2
      go_ret
      exact ⟨_, rfl, ints_ownN hown, hB⟩
/-- Ascending numbers below one. -/
def Rises (l : List Int) (n : Nat) : Prop := (∀ i (h : i < l.length), 0 ≤ l[i] ∧ l[i] < n) ∧ ∀ i (h : i + 1 < l.length), l[i] < l[i + 1]
theorem setTo_succ {l : List Int} {k m : Nat} (hk : k < l.length) (e : l[k] = (m : Int)) : setTo l (k + 1) = setTo l k ||| 2 ^ m := by
  rw [setTo, List.getElem?_eq_getElem hk, Option.getD_some, e, Int.toNat_natCast]
set_option maxHeartbeats 2000000 in
theorem CBits_any (ad : Option Addr) (l : List Int) (cp n : Nat) (hn : n ≤ 6) (w : World) (hl : SlOk ad l.length cp) (hi : IntsC w ad l) (hr : Rises l n) :
    Calls Tryz.prog 41 #[.slice ad l.length cp, .int .i64 (n : Int)] w fun e w' => e = .returned (.tuple #[.int .i64 (setTo l l.length : Int), .int .i64 0]) ∧ Below w.heap.size w w' := by
  have ll := hl.len
  have lc := hl.1
  have O := COff_any ad l cp 0 ((n : Int) - 1) w ll hi
  have hno : l.any (outB 0 ((n : Int) - 1)) = false := by
    rw [List.any_eq_false]
    intro x hx
    obtain ⟨i, hlt, rfl⟩ := List.getElem_of_mem hx
    have := hr.1 i hlt
    rw [outB_eq, inB_iff.2 (by omega)]; decide
  rw [hno] at O
  replace O := Lib.hid O
  clear hno
  have HLT := Lib.hid (fun k hk => setTo_lt l 6 (fun x hx => by obtain ⟨i, hlt, rfl⟩ := List.getElem_of_mem hx; have := hr.1 i hlt; omega) k hk)
  have HR := Lib.hid hr
  have HST := Lib.hid (fun (k m : Nat) (hk : k < l.length) e => setTo_succ (l := l) (k := k) (m := m) hk e)
  clear hr
  go_enter Tryz.func41, Tryz.ntmps41
  go_upto_region 4 with (go_at_call 76; go_must (refine O.out.mono ?_; rintro e w2 ⟨rfl, hb2⟩; dsimp only))
  go_loop [4, 14] (fun s i => ∃ k : Nat, k ≤ l.length ∧ i = .int .i64 k ∧ s = .int .i64 (setTo l k : Int)) (fun _ i => l.length - (intOf i).toNat)
  case atStart => exact ⟨0, Nat.zero_le _, rfl, rfl⟩
  case round =>
    obtain ⟨k, hk, rfl, rfl⟩ := hrel
    by_cases hlt : k < l.length
    · have h0 := HR.out.1 k hlt
      have HM := Lib.hid (fun j (e : j + 1 = k) => show l[j] < l[k] from by subst e; exact HR.out.2 j hlt)
      have hs := HLT.out k hk
      obtain ⟨b, off, rfl, hbb, h1⟩ := (hi.mono hb2) k hlt
      obtain ⟨m, hm⟩ : ∃ m : Nat, l[k] = m := ⟨l[k].toNat, by omega⟩
      have HX := Lib.hid (HST.out k m hlt hm)
      rw [hm] at h0 h1 HM
      clear hm
      have HO := Lib.hid (or_bit64 (setTo l k) (by simpa using hs) m (by omega))
      have hm64 : (m : Int) < 64 := by omega
      generalize setTo l k = st at HX HO
      by_cases hk0 : k = 0
      · subst hk0
        rw [Nat.add_zero] at h1
        go_wp2
        go_round
        case rel => exact ⟨1, by omega, by go_num, by rw [HO.out, HX.out]⟩
        case measure => simp [intOf]; omega
      · obtain ⟨j, rfl⟩ : ∃ j, k = j + 1 := ⟨k - 1, by omega⟩
        obtain ⟨b', off', e', hbb', h2⟩ := (hi.mono hb2) j (by omega)
        cases e'
        have hlt2 := HM.out j rfl
        generalize l[j] = y at h2 hlt2
        have hg : ¬ (m : Int) ≤ y := by omega
        have hj1 : (j : Int) < l.length := by omega
        clear hk0 HM hlt2
        go_wp2
        go_round
        case rel => exact ⟨j + 1 + 1, by omega, by go_num, by rw [HO.out, HX.out]⟩
        case measure => simp [intOf]; omega
    · obtain rfl : k = l.length := by omega
      go_wp2
      go_ret2
      exact ⟨rfl, hb2⟩
end Go.Proofs.YtcgplocmncionaaGreat
