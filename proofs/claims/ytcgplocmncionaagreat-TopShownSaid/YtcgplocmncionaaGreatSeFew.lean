/- What is proved here: a slice of ints from a block on; bits. No condition. -/
/- What is proved here: the contract of the function that lists the numbers of a set. Conditions: sets below 64. -/
/- What is proved here: contracts of cmp.Compare and slices.Compare at ints, both signs; what of the world they turn: nothing. Conditions: both slices of one length. -/
/- What is proved here: the contract of fewest. Conditions: a function that answers as a plain one does, and turns one old block at most. -/
import Derived.Test.YtcgplocmncionaaGreatSeGround
import Derived.Test.YtcgplocmncionaaGreatSePlain
import Derived.Test.YtcgplocmncionaaGreatProg
set_option linter.unusedVariables false
set_option linter.unusedSimpArgs false
namespace Go.Proofs.YtcgplocmncionaaGreat
open Go Go.RowKit

/-- A slice value that holds a list of ints, in memory from B on. -/
def IntsN (B : Nat) (w : World) (v : Value) (l : List Int) : Prop := ∃ a c, v = .slice a l.length c ∧ SlOk a l.length c ∧ IntsC w a l ∧ ∀ ad, a = some ad → B ≤ ad.block
theorem IntsN.val {B : Nat} {w : World} {v : Value} {l : List Int} (h : IntsN B w v l) : IntsV w v l := by
  obtain ⟨a, c, e, h1, h2, _⟩ := h; exact ⟨a, c, e, h1, h2⟩
theorem IntsN.mono {B : Nat} {w W : World} {v : Value} {l : List Int} (h : IntsN B w v l) (hb : Below w.heap.size w W) : IntsN B W v l := by
  obtain ⟨a, c, e, h1, h2, h3⟩ := h; exact ⟨a, c, e, h1, h2.mono hb, h3⟩
theorem IntsN.grown {B : Nat} {w W : World} {v : Value} {l : List Int} {row : Option Nat} (h : IntsN B w v l) (hg : w.grownBy W row) (hr : ∀ r, row = some r → r < B) : IntsN B W v l := by
  obtain ⟨a, c, e, h1, h2, h3⟩ := h
  refine ⟨a, c, e, h1, h2.grown hg (fun ad ea e => ?_), h3⟩
  have := hr _ e.symm
  have := h3 ad ea
  omega
theorem ints_ownN {w : World} {base : Nat} {e : TypeId} {v : Value} {n : Nat} {l : List Int} (h : w.ownsRow base e 1 v n (l.map (Value.int .i64))) : IntsN base w v l := by
  have hl := h.1
  rcases h.2 with ⟨rfl, h0⟩ | ⟨g, cap, cur, rfl, _⟩
  · have : l = [] := List.eq_nil_of_length_eq_zero (by simp at hl; omega)
    subst this
    exact ⟨none, 0, rfl, ⟨Nat.le_refl _, by omega, fun _ => rfl⟩, IntsC.nil _ _, fun _ h => by cases h⟩
  · obtain ⟨h1, h2, h3, h4, _⟩ := ints_own h rfl
    subst h1
    exact ⟨_, _, rfl, h3, h2, fun ad e => by cases e; exact h4⟩
theorem bit_and : ∀ c : Nat, c < 64 → ∀ k : Nat, k < 7 → (bits BinOp.and IntKind.i64 ((c : Int) / 2 ^ k) 1 == 1) = c.testBit k := by decide +kernel
end Go.Proofs.YtcgplocmncionaaGreat
namespace Go.Proofs.YtcgplocmncionaaGreat
open Go Go.RowKit

set_option maxHeartbeats 2000000 in
theorem MNumbersN_any (s n : Nat) (hs : s < 64) (hn : n ≤ 6) (w : World) :
    Calls Tryz.prog 70 #[.int .i64 (s : Int), .int .i64 (n : Int)] w fun e w' => ∃ v, e = .returned v ∧ IntsN w.heap.size w' v (bitsList s n) ∧ Below w.heap.size w w' := by
  obtain ⟨p, hp⟩ : ∃ p : Nat → Bool, p = fun i => s.testBit i := ⟨_, rfl⟩
  have hW : Hid (bitsList s n = ((List.range n).filter p).map (fun (c : Nat) => (c : Int))) := by rw [hp]; exact (rfl : bitsList s n = _)
  generalize bitsList s n = r at hW ⊢
  have HP := Lib.hid hp
  clear hp
  go_enter Tryz.func70, Tryz.ntmps70
  go_wp2
  go_loopw [4, 7] (fun o i wr => ∃ (c : Nat), c ≤ n ∧ i = .int .i64 c ∧ wr.ownsRow w.heap.size 3 1 o (((List.range c).filter p).map (fun (c : Nat) => (c : Int))).length ((((List.range c).filter p).map (fun (c : Nat) => (c : Int))).map (Value.int .i64)) ∧ Below w.heap.size w wr) (fun _ i _ => n - (intOf i).toNat)
  case atStart => exact ⟨0, Nat.zero_le _, rfl, World.ownsRow_nil _ _ _ _, Below.refl _ _⟩
  case round =>
    obtain ⟨c, hc, rfl, hown, hB⟩ := hrel
    have hB1 := hB.size
    by_cases hlt : c < n
    · have hst := Lib.hid (keep_succ p c)
      have hkl := keep_len p c
      generalize hL : ((List.range c).filter p).map (fun (c : Nat) => (c : Int)) = L at hown hst hkl
      clear hL
      have hb := bit_and s hs c (by omega)
      have hpc : p c = s.testBit c := by rw [HP.out]
      rw [← hpc] at hb
      clear hpc
      generalize p c = bp at hst hb
      have hc64 : (c : Int) < 64 := by omega
      cases bp
      · go_wp2
        go_roundw
        case rel => exact ⟨c + 1, by omega, by go_num, by rw [hst.out]; simpa using hown, hB⟩
        case measure => simp [intOf]; omega
      · go_wp2_with (at_builtin; go_must (refine wpList_app (.tmp 15) (.tmp 17) E_int rfl rfl rfl rfl w.heap.size L.length 1 (L.map (Value.int .i64)) [.int .i64 (c : Int)] (hown.alloc _) (SrcAt.one _ _ _ rfl) (by omega) (by decide) (by simp; omega) ?_; intro v2 w2 ho2 hg2 _; (have hb2 := app_next hB (Nat.le_refl _) (Nat.le_refl _) hown hg2); clear hg2; simp only [Act.put, List.setIfInBounds_toArray, List.set_cons_succ, List.set_cons_zero]))
        go_roundw
        case rel => exact ⟨c + 1, by omega, by go_num, by rw [hst.out]; simpa using ho2, hb2⟩
        case measure => simp [intOf]; omega
    · obtain rfl : c = n := by omega
      go_wp2
      go_ret
      rw [hW.out]
      exact ⟨_, rfl, ints_ownN hown, hB⟩
theorem MNumbers_any (s n : Nat) (hs : s < 64) (hn : n ≤ 6) (w : World) :
    Calls Tryz.prog 70 #[.int .i64 (s : Int), .int .i64 (n : Int)] w fun e w' => ∃ v, e = .returned v ∧ IntsV w' v (bitsList s n) ∧ Below w.heap.size w w' :=
  (MNumbersN_any s n hs hn w).mono fun e w' ⟨v, h1, h2, h3⟩ => ⟨v, h1, h2.val, h3⟩
end Go.Proofs.YtcgplocmncionaaGreat
namespace Go.Proofs.YtcgplocmncionaaGreat
open Go Go.RowKit

def cmpI (x y : Int) : Int := if x < y then -1 else if y < x then 1 else 0

set_option maxHeartbeats 400000 in
theorem IsNaN_any (x : Int) (w : World) :
    Calls Tryz.prog 114 #[.int .i64 x] w fun e w' => e = .returned (.bool false) ∧ w' = w := by
  go_enter Tryz.func114, Tryz.ntmps114
  go_wp2
  go_ret
  exact ⟨ret_bool (by simp), rfl⟩

set_option maxHeartbeats 400000 in
theorem CmpInt_any (x y : Int) (w : World) :
    Calls Tryz.prog 112 #[.int .i64 x, .int .i64 y] w fun e w' => e = .returned (.int .i64 (cmpI x y)) ∧ w' = w := by
  have HN := Lib.hid (fun (x : Int) (W : World) => IsNaN_any x W)
  have HE : Hid (cmpI x y = if x < y then -1 else if y < x then 1 else 0) := rfl
  generalize cmpI x y = r at HE ⊢
  by_cases a1 : x < y
  · go_enter Tryz.func112, Tryz.ntmps112
    go_wp2_with (go_at_call 114; refine (HN.out _ _).mono ?_; rintro e w2 ⟨rfl, rfl⟩; dsimp only)
    go_ret
    exact ⟨ret_int (by rw [HE.out, if_pos a1]), rfl⟩
  · by_cases a2 : y < x
    all_goals
      go_enter Tryz.func112, Tryz.ntmps112
      go_wp2_with (go_at_call 114; refine (HN.out _ _).mono ?_; rintro e w2 ⟨rfl, rfl⟩; dsimp only)
      go_ret
      exact ⟨ret_int (by have := HE.out; split at this <;> (try split at this) <;> omega), rfl⟩

theorem less_at (l1 l2 : List Int) (j : Nat) (h1 : j < l1.length) (h2 : j < l2.length) :
    less (l1.drop j) (l2.drop j) = if l1[j] = l2[j] then less (l1.drop (j + 1)) (l2.drop (j + 1)) else decide (l1[j] < l2[j]) := by
  rw [List.drop_eq_getElem_cons h1, List.drop_eq_getElem_cons h2]
  simp only [less]

set_option maxHeartbeats 400000 in
theorem Cmp2_any (a1 a2 : Option Addr) (l1 l2 : List Int) (c1 c2 : Nat) (w : World) (hl : l1.length = l2.length) (hl5 : l2.length ≤ 9223372036854775807) (h1 : IntsC w a1 l1) (h2 : IntsC w a2 l2) :
    Calls Tryz.prog 98 #[.slice a1 l1.length c1, .slice a2 l2.length c2] w fun e w' => ∃ k : Int, e = .returned (.int .i64 k) ∧ Hid (decide (0 < k) = less l2 l1) ∧ w' = w := by
  have HC := Lib.hid (fun (x y : Int) (W : World) => CmpInt_any x y W)
  obtain ⟨r, hr⟩ : ∃ r, r = less l2 l1 := ⟨_, rfl⟩
  rw [← hr]
  have h00 : Hid (less (l2.drop 0) (l1.drop 0) = r) := hr.symm
  clear hr
  go_enter Tryz.func98, Tryz.ntmps98
  go_wp2
  go_loop [11] (fun i => ∃ k : Nat, i = .int .i64 k ∧ k ≤ l1.length ∧ Hid (less (l2.drop k) (l1.drop k) = r)) (fun i => l1.length - (intOf i).toNat)
  case atStart => exact ⟨0, rfl, by omega, h00⟩
  case round =>
    obtain ⟨k, rfl, hk, hr⟩ := hrel
    by_cases hlt : k < l1.length
    · obtain ⟨b1, o1, rfl, hb1, hc1⟩ := h1 k hlt
      obtain ⟨b2, o2, rfl, hb2, hc2⟩ := h2 k (by omega)
      have hlt2 : k < l2.length := by omega
      have hst := Lib.hid ((less_at l2 l1 k hlt2 hlt).symm.trans hr.out)
      generalize hx : l1[k] = x at hc1 hst
      generalize hy : l2[k] = y at hc2 hst
      clear hx hy
      have HK : Hid (cmpI x y = if x < y then -1 else if y < x then 1 else 0) := rfl
      have HC := fun W => HC.out x y W
      generalize cmpI x y = q at HC HK
      have HC := Lib.hid HC
      by_cases hq : q = 0
      · have g1 := nei_f hq
        go_wp2_with (go_at_call 112; refine (HC.out _).mono ?_; rintro e w2 ⟨rfl, rfl⟩; dsimp only)
        go_round
        case rel => exact ⟨k + 1, by go_num, by omega, Lib.hid (by rw [← hst.out]; have := HK.out; have e : y = x := (by split at this <;> (try split at this) <;> omega); rw [if_pos e])⟩
        case measure => simp [intOf]; omega
      · have g1 := nei_t hq
        go_wp2_with (go_at_call 112; refine (HC.out _).mono ?_; rintro e w2 ⟨rfl, rfl⟩; dsimp only)
        go_ret
        refine ⟨_, rfl, Lib.hid ?_, rfl⟩
        rw [← hst.out]
        have := HK.out
        have e : y ≠ x := by intro e; subst e; simp at this; exact hq this
        rw [if_neg e, decide_eq_decide]
        split at this <;> (try split at this) <;> omega
    · obtain rfl : k = l1.length := by omega
      go_wp2
      go_ret
      refine ⟨_, rfl, Lib.hid ?_, rfl⟩
      rw [← hr.out, List.drop_length, hl, List.drop_length]
      simp [less]

end Go.Proofs.YtcgplocmncionaaGreat
namespace Go.Proofs.YtcgplocmncionaaGreat
open Go Go.RowKit

theorem two_pow_wrap : ∀ n : Nat, n ≤ 6 → wrap64 (2 ^ n) = ((2 ^ n : Nat) : Int) := by decide +kernel
theorem two_pow_le : ∀ n : Nat, n ≤ 6 → 2 ^ n ≤ 64 := by decide +kernel

set_option maxRecDepth 100000 in
set_option maxHeartbeats 800000 in
theorem MFewestG_any (n F : Nat) (hn : n ≤ 6) (caps : Array Value) (so : Nat → Bool) (w : World) (row : Option Nat) (hrow : ∀ r, row = some r → r < w.heap.size) (I : World → Prop) (hI : ∀ A A', I A → Below A.heap.size A A' → I A') (h0 : I w)
    (hCF : ∀ (xs : Array Value) (W : World), (callFunc F xs).run Tryz.prog W = .ok (.enter F xs) W) (hF : ∀ (s : Nat) (W : World), s < 2 ^ n → w.heap.size ≤ W.heap.size → I W → Calls Tryz.prog F (#[.int .i64 (s : Int)] ++ caps) W fun e W' => e = .returned (.bool (so s)) ∧ W.grownBy W' row ∧ I W') :
    Calls Tryz.prog 67 #[.int .i64 (n : Int), .func (.func F) #[] caps] w fun e w' => ∃ v best found, e = .returned (.tuple #[v, .bool found]) ∧ IntsN w.heap.size w' v best ∧ Hid (Found n so (2 ^ n) best found) ∧ w.grownBy w' row ∧ I w' := by
  have hp := two_pow_wrap n hn
  have hp64 := two_pow_le n hn
  have NU := Lib.hid (fun (s : Nat) (hs : s < 64) (W : World) => MNumbersN_any s n hs hn W)
  generalize hNN : 2 ^ n = N at hp hp64 hF ⊢
  replace hF := Lib.hid hF
  replace hI := Lib.hid hI
  replace hrow := Lib.hid hrow
  clear hNN
  go_enter Tryz.func67, Tryz.ntmps67
  go_wp2
  rw [hp]
  clear hp
  go_loopw [4, 5, 10] (fun v f i wr => ∃ (k : Nat) (best : List Int) (found : Bool), k ≤ N ∧ i = .int .i64 k ∧ f = .bool found ∧ IntsN w.heap.size wr v best ∧ Hid (Found n so k best found) ∧ w.grownBy wr row ∧ I wr) (fun _ _ i _ => N - (intOf i).toNat)
  case atStart => exact ⟨0, [], false, Nat.zero_le _, rfl, rfl, ⟨none, 0, rfl, ⟨by simp, by omega, fun _ => rfl⟩, IntsC.nil _ _, fun _ h => by cases h⟩, Lib.hid (found_zero n so), World.grownBy.refl _ _, h0⟩
  case round =>
    obtain ⟨k, best, found, hk, rfl, rfl, ⟨ab, cb, rfl, hsb, hib, hlb0⟩, HFO, hG, hJ⟩ := hrel
    have hbl := hsb.len
    by_cases hlt : k < N
    · have HK1 := Lib.hid (fun (e : found = true) (h : fewer best (bitsList k n) = true) => (found_skip (e ▸ HFO.out) (.inr h) : Found n so (k + 1) best true))
      have HK2 := Lib.hid (fun (h : so k = false) => found_no HFO.out h)
      have HK3 := Lib.hid (fun (h : so k = true) (hf : found = true → fewer best (bitsList k n) = false) => found_yes HFO.out h hf)
      replace NU := fun W => NU.out k (by omega) W
      have C := fun W h h2 => hF.out k W hlt h h2
      generalize bitsList k n = l at HK1 HK3 NU
      generalize so k = sk at HK2 HK3 C
      replace NU := Lib.hid NU
      replace C := Lib.hid C
      have hkN : (k : Int) < 64 := by omega
      cases found
      · replace HK3 := Lib.hid (fun h => HK3.out h (fun e => by cases e))
        cases sk
        · go_wp2_with (first | (go_at_call 70; go_must (refine (NU.out _).mono ?_; rintro e w2 ⟨v2, rfl, ⟨a2, c2, rfl, ho2, hi2, hn2⟩, hb2⟩; dsimp only)) | ((with_reducible refine (C.out _ (Nat.le_trans hG.size hb2.size) (hI.out _ _ hJ hb2)).mono ?_); rintro e w3 ⟨rfl, hg3, hJ3⟩; dsimp only))
          (go_roundw; case rel => exact ⟨k + 1, best, _, by omega, by go_num, rfl, IntsN.grown (IntsN.mono ⟨ab, cb, rfl, hsb, hib, hlb0⟩ hb2) hg3 hrow.out, Lib.hid (HK2.out rfl), (hG.trans (grown_of row hb2)).trans hg3, hJ3⟩)
          (case measure => simp [intOf]; omega)
        · replace HK3 := Lib.hid (HK3.out rfl)
          go_wp2_with (first | (go_at_call 70; go_must (refine (NU.out _).mono ?_; rintro e w2 ⟨v2, rfl, ⟨a2, c2, rfl, ho2, hi2, hn2⟩, hb2⟩; dsimp only)) | ((with_reducible refine (C.out _ (Nat.le_trans hG.size hb2.size) (hI.out _ _ hJ hb2)).mono ?_); rintro e w3 ⟨rfl, hg3, hJ3⟩; dsimp only))
          (go_roundw; case rel => exact ⟨k + 1, l, true, by omega, by go_num, rfl, IntsN.grown ⟨a2, c2, rfl, ho2, hi2, fun ad e => Nat.le_trans hG.size (hn2 ad e)⟩ hg3 hrow.out, Lib.hid HK3.out, (hG.trans (grown_of row hb2)).trans hg3, hJ3⟩)
          (case measure => simp [intOf]; omega)
      · by_cases h1 : best.length < l.length
        · have hK := Lib.hid (HK1.out rfl (by unfold fewer; rw [if_neg (by omega)]; simpa using h1))
          go_wp2_with (go_at_call 70; go_must (refine (NU.out _).mono ?_; rintro e w2 ⟨v2, rfl, ⟨a2, c2, rfl, ho2, hi2, hn2⟩, hb2⟩; dsimp only))
          go_roundw
          case rel => exact ⟨k + 1, best, true, by omega, by go_num, rfl, IntsN.mono ⟨ab, cb, rfl, hsb, hib, hlb0⟩ hb2, hK, hG.trans (grown_of row hb2), hI.out _ _ hJ hb2⟩
          (case measure => simp [intOf]; omega)
        · by_cases h2 : l.length = best.length
          · have g2 := eqn_t h2
            have hle := Lib.hid h2
            replace HK1 := Lib.hid (fun h => HK1.out rfl h)
            replace HK3 := Lib.hid (fun h e => HK3.out h (fun _ => e))
            have hfw : fewer best l = less best l := by unfold fewer; rw [if_pos h2.symm]
            rw [hfw] at HK1 HK3
            clear hfw h2
            obtain ⟨lb, hlb1⟩ : ∃ lb, less best l = lb := ⟨_, rfl⟩
            rw [hlb1] at HK1 HK3
            have hlb := Lib.hid hlb1
            clear hlb1
            cases lb
            · replace HK3 := Lib.hid (fun h => HK3.out h rfl)
              cases sk
              · go_wp2_with (first | (go_at_call 70; go_must (refine (NU.out _).mono ?_; rintro e w2 ⟨v2, rfl, ⟨a2, c2, rfl, ho2, hi2, hn2⟩, hb2⟩; dsimp only)) | (go_at_call 98; go_must (refine (Cmp2_any a2 ab l best c2 cb w2 hle.out hbl hi2 (hib.mono hb2)).mono ?_; rintro e w4 ⟨q, rfl, hq, hw4⟩; obtain rfl := hw4.symm; have hq := hq.out.trans hlb.out; simp only [decide_eq_true_eq, decide_eq_false_iff_not] at hq; dsimp only)) | ((with_reducible refine (C.out _ (Nat.le_trans hG.size hb2.size) (hI.out _ _ hJ hb2)).mono ?_); rintro e w3 ⟨rfl, hg3, hJ3⟩; dsimp only))
                (go_roundw; case rel => exact ⟨k + 1, best, _, by omega, by go_num, rfl, IntsN.grown (IntsN.mono ⟨ab, cb, rfl, hsb, hib, hlb0⟩ hb2) hg3 hrow.out, Lib.hid (HK2.out rfl), (hG.trans (grown_of row hb2)).trans hg3, hJ3⟩)
                (case measure => simp [intOf]; omega)
              · replace HK3 := Lib.hid (HK3.out rfl)
                go_wp2_with (first | (go_at_call 70; go_must (refine (NU.out _).mono ?_; rintro e w2 ⟨v2, rfl, ⟨a2, c2, rfl, ho2, hi2, hn2⟩, hb2⟩; dsimp only)) | (go_at_call 98; go_must (refine (Cmp2_any a2 ab l best c2 cb w2 hle.out hbl hi2 (hib.mono hb2)).mono ?_; rintro e w4 ⟨q, rfl, hq, hw4⟩; obtain rfl := hw4.symm; have hq := hq.out.trans hlb.out; simp only [decide_eq_true_eq, decide_eq_false_iff_not] at hq; dsimp only)) | ((with_reducible refine (C.out _ (Nat.le_trans hG.size hb2.size) (hI.out _ _ hJ hb2)).mono ?_); rintro e w3 ⟨rfl, hg3, hJ3⟩; dsimp only))
                (go_roundw; case rel => exact ⟨k + 1, l, true, by omega, by go_num, rfl, IntsN.grown ⟨a2, c2, rfl, ho2, hi2, fun ad e => Nat.le_trans hG.size (hn2 ad e)⟩ hg3 hrow.out, Lib.hid HK3.out, (hG.trans (grown_of row hb2)).trans hg3, hJ3⟩)
                (case measure => simp [intOf]; omega)
            · have hK := Lib.hid (HK1.out rfl)
              go_wp2_with (first | (go_at_call 70; go_must (refine (NU.out _).mono ?_; rintro e w2 ⟨v2, rfl, ⟨a2, c2, rfl, ho2, hi2, hn2⟩, hb2⟩; dsimp only)) | (go_at_call 98; go_must (refine (Cmp2_any a2 ab l best c2 cb w2 hle.out hbl hi2 (hib.mono hb2)).mono ?_; rintro e w4 ⟨q, rfl, hq, hw4⟩; obtain rfl := hw4.symm; have hq := hq.out.trans hlb.out; simp only [decide_eq_true_eq, decide_eq_false_iff_not] at hq; dsimp only)))
              go_roundw
              case rel => exact ⟨k + 1, best, true, by omega, by go_num, rfl, IntsN.mono ⟨ab, cb, rfl, hsb, hib, hlb0⟩ hb2, hK, hG.trans (grown_of row hb2), hI.out _ _ hJ hb2⟩
              (case measure => simp [intOf]; omega)
          · have g2 := eqn_f h2
            replace HK3 := Lib.hid (fun h => HK3.out h (fun _ => by unfold fewer; rw [if_neg (by omega)]; simpa using h1))
            cases sk
            · go_wp2_with (first | (go_at_call 70; go_must (refine (NU.out _).mono ?_; rintro e w2 ⟨v2, rfl, ⟨a2, c2, rfl, ho2, hi2, hn2⟩, hb2⟩; dsimp only)) | ((with_reducible refine (C.out _ (Nat.le_trans hG.size hb2.size) (hI.out _ _ hJ hb2)).mono ?_); rintro e w3 ⟨rfl, hg3, hJ3⟩; dsimp only))
              (go_roundw; case rel => exact ⟨k + 1, best, _, by omega, by go_num, rfl, IntsN.grown (IntsN.mono ⟨ab, cb, rfl, hsb, hib, hlb0⟩ hb2) hg3 hrow.out, Lib.hid (HK2.out rfl), (hG.trans (grown_of row hb2)).trans hg3, hJ3⟩)
              (case measure => simp [intOf]; omega)
            · replace HK3 := Lib.hid (HK3.out rfl)
              go_wp2_with (first | (go_at_call 70; go_must (refine (NU.out _).mono ?_; rintro e w2 ⟨v2, rfl, ⟨a2, c2, rfl, ho2, hi2, hn2⟩, hb2⟩; dsimp only)) | ((with_reducible refine (C.out _ (Nat.le_trans hG.size hb2.size) (hI.out _ _ hJ hb2)).mono ?_); rintro e w3 ⟨rfl, hg3, hJ3⟩; dsimp only))
              (go_roundw; case rel => exact ⟨k + 1, l, true, by omega, by go_num, rfl, IntsN.grown ⟨a2, c2, rfl, ho2, hi2, fun ad e => Nat.le_trans hG.size (hn2 ad e)⟩ hg3 hrow.out, Lib.hid HK3.out, (hG.trans (grown_of row hb2)).trans hg3, hJ3⟩)
              (case measure => simp [intOf]; omega)
    · obtain rfl : k = N := by omega
      go_wp2
      go_ret2
      exact ⟨_, best, found, rfl, ⟨ab, cb, rfl, hsb, hib, hlb0⟩, HFO, hG, hJ⟩
theorem MFewest_any (n F : Nat) (hn : n ≤ 6) (caps : Array Value) (so : Nat → Bool) (w : World) (hCF : ∀ (xs : Array Value) (W : World), (callFunc F xs).run Tryz.prog W = .ok (.enter F xs) W) (hF : ∀ (s : Nat) (W : World), s < 2 ^ n → Below w.heap.size w W → Calls Tryz.prog F (#[.int .i64 (s : Int)] ++ caps) W fun e W' => e = .returned (.bool (so s)) ∧ Below W.heap.size W W') :
    Calls Tryz.prog 67 #[.int .i64 (n : Int), .func (.func F) #[] caps] w fun e w' => ∃ v best found, e = .returned (.tuple #[v, .bool found]) ∧ IntsV w' v best ∧ Hid (Found n so (2 ^ n) best found) ∧ Below w.heap.size w w' :=
  (MFewestG_any n F hn caps so w none (fun _ h => by cases h) (fun W => Below w.heap.size w W) (fun A A' h h2 => h.trans (h2.mono h.size)) (Below.refl _ _) hCF
    (fun s W hs _ hW => (hF s W hs hW).mono fun e W' h => ⟨h.1, grown_of none h.2, hW.trans (h.2.mono hW.size)⟩)).mono fun e w' ⟨v, best, found, h1, h2, h3, _, h5⟩ => ⟨v, best, found, h1, h2.val, h3, h5⟩
end Go.Proofs.YtcgplocmncionaaGreat
