/- What is proved here: the contracts of worded and find of layer 10. Conditions: the chest is looked at and valid. -/
/- What is proved here: the contract of tell of layer 10, which remembers. Conditions: the chest is looked at and valid. -/
import Derived.Test.YtcgplocmncionaaGreatChLookG
import Derived.Deep.DeepCutAuto
set_option linter.unusedVariables false
set_option linter.unusedSimpArgs false
namespace Go.Proofs.YtcgplocmncionaaGreat
open Go Go.RowKit

theorem and_not32 : ∀ a : Nat, a < 64 → ∀ b : Nat, b < 64 → (bits BinOp.andNot IntKind.i64 (a : Int) (b : Int) == 0) = (a &&& b == a) := by decide +kernel
theorem pow_5 {n : Nat} (h : n ≤ 5) : 2 ^ n ≤ 32 := Nat.pow_le_pow_right (n := 2) (by omega) h
theorem words_lt {c : ChH} (hv : ChValid c) {i : Nat} (hi : i < c.copies.length) : c.copies[i].words.toNat < 32 := by
  have h := hv.copy i hi
  have h5 := pow_5 (n := c.words.toNat) (by have := hv.words; omega)
  have h6 : ((2 : Int) ^ c.words.toNat) = ((2 ^ c.words.toNat : Nat) : Int) := by simp
  have h7 := h.2.2.2.1
  rw [h6] at h7
  omega
set_option maxHeartbeats 1000000 in
theorem CWorded_any (ap ac ar : Option Addr) (kp kc kr : Nat) (c : ChH) (bm bo i words : Nat) (w : World) (hm : ChestW w bm bo ap ac ar kp kc kr c) (hv : ChValid c) (hi : i < c.copies.length) (hw : words < 64) :
    Calls Tryz.prog 78 #[.pointer (some ⟨bm, 0, none⟩), .int .i64 (i : Int), .int .i64 (words : Int)] w fun e w' => e = .returned (.bool (wordedB c i words)) ∧ w' = w := by
  have HW : Hid (wordedB c i words = (words &&& c.copies[i].words.toNat == words)) := Lib.hid (by unfold wordedB copyAt; rw [List.getElem?_eq_getElem hi]; rfl)
  generalize wordedB c i words = r at HW ⊢
  obtain ⟨y0, y1, y2, y3, y4, y5, y6, y7, y8, y9, yz⟩ := hm.blk.cells
  have lc := hm.chest.okc.len
  have lk := hm.chest.okc.1
  have hx := words_lt hv hi
  have h1 := (hv.copy i hi).2.2.1
  obtain ⟨b, off, rfl, hbb, -, e1, -⟩ := hm.chest.copies i hi
  obtain ⟨m, hm0⟩ : ∃ m : Nat, c.copies[i].words = m := ⟨c.copies[i].words.toNat, by omega⟩
  rw [hm0] at e1 hx HW
  simp only [Int.toNat_natCast] at hx HW
  have ha := and_not32 words hw m (by omega)
  rw [← HW.out] at ha
  clear hm0 h1
  have hii : (i : Int) < c.copies.length := by omega
  go_enter Tryz.func78, Tryz.ntmps78
  go_wp2
  go_ret
  exact ⟨ret_bool (by first | exact ha | rfl), rfl⟩
theorem maskTo_lt6 (p : Nat → Bool) {k : Nat} (h : k ≤ 6) : maskTo p k < 64 := Nat.lt_of_lt_of_le (maskTo_lt p k) (pow_six h)
theorem vw_lt {c : ChH} (hv : ChValid c) (p : Nat) : vw c p < 64 := Nat.lt_of_lt_of_le (vwTo_lt c _ p) (pow_six hv.nc)
set_option maxHeartbeats 2000000 in
theorem CFindN_any (ap ac ar : Option Addr) (kp kc kr : Nat) (c : ChH) (bm bo p words : Nat) (w : World) (hm : ChestW w bm bo ap ac ar kp kc kr c) (hv : ChValid c) (hp : p < c.people.length) (hw : words < 64) :
    Calls Tryz.prog 43 #[.pointer (some ⟨bm, 0, none⟩), .int .i64 (p : Int), .int .i64 (words : Int)] w fun e w' => e = .returned (.int .i64 (findN c p words : Int)) ∧ w' = w := by
  obtain ⟨q, hq⟩ : ∃ q : Nat → Bool, q = fun i => (viewN c p).testBit i && wordedB c i words := ⟨_, rfl⟩
  have HF : Hid (findN c p words = maskTo q c.copies.length) := Lib.hid (by rw [hq]; rfl)
  have HQ := Lib.hid (fun i => (by rw [hq] : q i = ((viewN c p).testBit i && wordedB c i words)))
  clear hq
  have WD := Lib.hid (fun (i : Nat) (hi : i < c.copies.length) => CWorded_any ap ac ar kp kc kr c bm bo i words w hm hv hi hw)
  generalize findN c p words = r at HF ⊢
  obtain ⟨y0, y1, y2, y3, y4, y5, y6, y7, y8, y9, yz⟩ := hm.blk.cells
  have np3 := hv.np
  have nc6 := hv.nc
  have yv := hm.blk.view (p := p) (by omega)
  have hvl := vw_lt hv p
  rw [vw_is hp] at yv hvl
  generalize viewN c p = vp at yv hvl HQ
  have lc := hm.chest.okc.len
  have lk := hm.chest.okc.1
  clear y6 y7 y8
  have hp3 : (p : Int) < 3 := by omega
  have hS0 : Hid (maskTo q 0 = 0) := Lib.hid rfl
  go_enter Tryz.func43, Tryz.ntmps43
  go_upto_region 3 with (fail)
  go_loop [6, 17] (fun s i => ∃ k : Nat, k ≤ c.copies.length ∧ i = .int .i64 k ∧ s = .int .i64 (maskTo q k : Int)) (fun _ i => c.copies.length - (intOf i).toNat)
  case atStart => exact ⟨0, Nat.zero_le _, rfl, rfl⟩
  case round =>
    obtain ⟨k, hk, rfl, rfl⟩ := hrel
    by_cases hlt : k < c.copies.length
    · have hml := maskTo_lt6 q (k := k) (by omega)
      have HO := Lib.hid (or_bit64 (maskTo q k) hml k (by omega))
      have HS : Hid (maskTo q (k + 1) = maskTo q k ||| (if q k = true then 2 ^ k else 0)) := Lib.hid rfl
      have hqk := HQ.out k
      have CW := WD.out k hlt
      have hb := bit_and vp hvl k (by omega)
      have hk64 : (k : Int) < 64 := by omega
      clear hml
      generalize maskTo q k = st at HO HS
      generalize q k = qk at HS hqk
      generalize wordedB c k words = wd at CW hqk
      replace CW := Lib.hid CW
      cases hbt : vp.testBit k
      · rw [hbt] at hb hqk
        obtain rfl : qk = false := by rw [hqk]; rfl
        clear hqk hbt
        go_wp2
        go_round
        case rel => exact ⟨k + 1, by omega, by go_num, by rw [HS.out]; simp⟩
        case measure => simp [intOf]; omega
      · rw [hbt] at hb hqk
        obtain rfl : qk = wd := by rw [hqk]; rfl
        clear hqk hbt
        cases qk
        · go_wp2_with (go_at_call 78; go_must (refine CW.out.mono ?_; rintro e w2 ⟨rfl, hw2⟩; obtain rfl := hw2.symm; dsimp only))
          go_round
          case rel => exact ⟨k + 1, by omega, by go_num, by rw [HS.out]; simp⟩
          case measure => simp [intOf]; omega
        · go_wp2_with (go_at_call 78; go_must (refine CW.out.mono ?_; rintro e w2 ⟨rfl, hw2⟩; obtain rfl := hw2.symm; dsimp only))
          go_round
          case rel => exact ⟨k + 1, by omega, by go_num, by rw [HO.out, HS.out]; simp⟩
          case measure => simp [intOf]; omega
    · obtain rfl : k = c.copies.length := by omega
      go_wp2
      go_ret
      rw [HF.out]
      exact ⟨rfl, rfl⟩
end Go.Proofs.YtcgplocmncionaaGreat
namespace Go.Proofs.YtcgplocmncionaaGreat
open Go Go.RowKit

theorem and_not64 : ∀ a : Nat, a < 64 → ∀ b : Nat, b < 64 → (bits BinOp.andNot IntKind.i64 (a : Int) (b : Int) != 0) = !(a &&& b == a) := by decide +kernel
theorem or_two64 : ∀ a : Nat, a < 64 → ∀ b : Nat, b < 64 → bits BinOp.or IntKind.i64 (a : Int) (b : Int) = ((a ||| b : Nat) : Int) := by decide +kernel
theorem facts_lt {c : ChH} (hv : ChValid c) {i : Nat} (hi : i < c.copies.length) : 0 ≤ c.copies[i].facts ∧ c.copies[i].facts < 64 := by
  have h := hv.copy i hi
  have h5 := pow_six (k := c.facts.toNat) (by have := hv.facts; omega)
  have h6 : ((2 : Int) ^ c.facts.toNat) = ((2 ^ c.facts.toNat : Nat) : Int) := by simp
  have h7 := h.2.2.2.2.2.1
  rw [h6] at h7
  exact ⟨h.2.2.2.2.1, by omega⟩
theorem rule_lt {c : ChH} (hv : ChValid c) {i : Nat} (hi : i < c.rules.length) : 0 ≤ c.rules[i].need ∧ c.rules[i].need < 64 ∧ 0 ≤ c.rules[i].gives ∧ c.rules[i].gives < 6 := by
  have h := hv.rule i hi
  have h5 := pow_six (k := c.facts.toNat) (by have := hv.facts; omega)
  have h6 : ((2 : Int) ^ c.facts.toNat) = ((2 ^ c.facts.toNat : Nat) : Int) := by simp
  have h7 := h.2.1
  rw [h6] at h7
  have := hv.facts
  exact ⟨by omega, by omega, h.2.2.1, by omega⟩
theorem base_lt64 {c : ChH} (hv : ChValid c) (copies k : Nat) (hk : k ≤ c.copies.length) : baseTo c copies k < 64 := base_lt c 6 (fun i hi => by
  have := facts_lt hv hi
  unfold copyAt
  rw [List.getElem?_eq_getElem hi, Option.getD_some]
  omega) copies k hk
theorem passTo_lt64 {c : ChH} (hv : ChValid c) {set : Nat} (hs : set < 64) : ∀ k, k ≤ c.rules.length → passTo c set k < 64
  | 0, _ => hs
  | k + 1, hk => by
    have ih := passTo_lt64 hv hs k (by omega)
    rw [passTo, List.getElem?_eq_getElem (by omega)]
    have := rule_lt hv (i := k) (by omega)
    exact step_lt (b := 6) (by omega) ih
theorem pass_lt64 {c : ChH} (hv : ChValid c) {set : Nat} (hs : set < 64) : rulePass c set < 64 := by rw [← passTo_all]; exact passTo_lt64 hv hs _ (Nat.le_refl _)
theorem iter_lt64 {c : ChH} (hv : ChValid c) : ∀ (m : Nat) {set : Nat}, set < 64 → ruleIter c m set < 64
  | 0, _, hs => hs
  | m + 1, _, hs => by rw [iter_next]; exact pass_lt64 hv (iter_lt64 hv m hs)
theorem tell_lt64 {c : ChH} (hv : ChValid c) (s : Nat) : tellN c s < 64 := iter_lt64 hv 64 (base_lt64 hv s _ (Nat.le_refl _))
theorem base_step {c : ChH} {copies k : Nat} (hk : k < c.copies.length) : baseTo c copies (k + 1) = if copies.testBit k = true then baseTo c copies k ||| c.copies[k].facts.toNat else baseTo c copies k := by
  rw [baseTo]; unfold copyAt; rw [List.getElem?_eq_getElem hk]; rfl
theorem pass_step {c : ChH} {set k : Nat} (hk : k < c.rules.length) : passTo c set (k + 1) = ruleStep (passTo c set k) c.rules[k] := by
  rw [passTo, List.getElem?_eq_getElem hk]
theorem or_gt {a g : Nat} (h : a.testBit g = false) : a < a ||| 2 ^ g := by
  refine Nat.lt_of_le_of_ne Nat.left_le_or fun e => ?_
  have h2 : (a ||| 2 ^ g).testBit g = true := by rw [Nat.testBit_or, Nat.testBit_two_pow_self, Bool.or_true]
  rw [← e, h] at h2
  cases h2
set_option maxRecDepth 100000 in
set_option maxHeartbeats 2000000 in
theorem CTellN_any (ap ac ar : Option Addr) (kp kc kr : Nat) (c : ChH) (bm bo s : Nat) (w : World) (hm : ChestW w bm bo ap ac ar kp kc kr c) (hv : ChValid c) (hs : s < 64) :
    Calls Tryz.prog 44 #[.pointer (some ⟨bm, 0, none⟩), .int .i64 (s : Int)] w fun e w' => e = .returned (.int .i64 (tellN c s : Int)) ∧ w.grownBy w' (some bo) ∧ ChestW w' bm bo ap ac ar kp kc kr c := by
  have nc6 := hv.nc
  have nr4 := hv.nr
  have lc := hm.chest.okc.len
  have lr := hm.chest.okr.len
  obtain ⟨T, hT, hM⟩ := hm.map
  have hkey := key_num s hs
  have hlo := hm.bo_lt
  obtain ⟨y0, y1, y2, y3, y4, y5, y6, y7, y8, y9, yz⟩ := hm.blk.cells
  by_cases hn : ∃ p ∈ T, p.1 = Value.int .i64 (s : Int)
  · obtain ⟨d, hd⟩ : ∃ d, d = tellN c s := ⟨_, rfl⟩
    rw [← hd]
    have HD := Lib.hid hd
    clear hd
    have hl1 := hT.lookup_yes key_int map_int hkey (zero_int _) hn (v := .int .i64 (d : Int)) (fun v' h => by rw [HD.out]; exact hM.get h)
    clear hn hT hM hkey
    go_enter Tryz.func44, Tryz.ntmps44
    go_wp2
    go_ret
    exact ⟨rfl, World.grownBy.refl _ _, hm⟩
  · have hn' : ∀ p ∈ T, p.1 ≠ Value.int .i64 (s : Int) := fun p hp e => hn ⟨p, hp, e⟩
    have hl1 := hT.lookup_no key_int map_int hkey (zero_int _) hn'
    have HT := Lib.hid hT
    have HN := Lib.hid hn'
    have HKEY := Lib.hid hkey
    have HM := Lib.hid hM
    have HV := Lib.hid hv
    have HC := Lib.hid hm
    clear hn hT hn' hkey hM hv y0 y1 y2 y3 y6 y7 y8
    go_enter Tryz.func44, Tryz.ntmps44
    go_upto_region 6 with (fail)
    clear hl1
    go_loopw [7, 30] (fun st i wr => ∃ k : Nat, k ≤ c.copies.length ∧ i = .int .i64 k ∧ st = .int .i64 (baseTo c s k : Int) ∧ Below w.heap.size w wr) (fun _ i _ => c.copies.length - (intOf i).toNat)
    case atStart => exact ⟨0, Nat.zero_le _, rfl, rfl, Below.refl _ _⟩
    case round =>
      obtain ⟨k, hk, rfl, rfl, hbr⟩ := hrel
      by_cases hlt : k < c.copies.length
      · have hml := base_lt64 HV.out s k hk
        have hfx := facts_lt HV.out hlt
        have HS := Lib.hid (base_step (copies := s) hlt)
        have hb := bit_and s hs k (by omega)
        have hk64 : (k : Int) < 64 := by omega
        obtain ⟨b, off, hac, hbb, h0, h1, h2, h3⟩ := (HC.out.chest.mono hbr).copies k hlt
        generalize c.copies[k] = x at hfx HS h0 h1 h2 h3
        obtain ⟨xn, xw, xf, xm⟩ := x
        simp only at hfx HS h0 h1 h2 h3
        obtain ⟨f, rfl⟩ : ∃ f : Nat, xf = f := ⟨xf.toNat, by omega⟩
        have HO := Lib.hid (or_two64 (baseTo c s k) hml f (by omega))
        simp only [Int.toNat_natCast] at HS
        clear hml hfx
        generalize baseTo c s k = st at HO HS
        subst hac
        cases hbt : s.testBit k
        · rw [hbt] at hb
          replace HS := Lib.hid (HS.out.trans (if_neg (by rw [hbt]; decide)))
          clear hbt
          go_wp2
          go_roundw
          case rel => exact ⟨k + 1, by omega, by go_num, by rw [HS.out], hbr.alloc hbr.size _⟩
          case measure => simp [intOf]; omega
        · rw [hbt] at hb
          replace HS := Lib.hid (HS.out.trans (if_pos hbt))
          clear hbt
          go_wp2
          go_roundw
          case rel => exact ⟨k + 1, by omega, by go_num, by rw [HO.out, HS.out], hbr.alloc hbr.size _⟩
          case measure => simp [intOf]; omega
      · obtain rfl : k = c.copies.length := by omega
        have hb64 := base_lt64 HV.out s c.copies.length (Nat.le_refl _)
        have HBASE : Hid (∀ m set, ruleIter c m (baseTo c s c.copies.length) = set → m ≤ 64 → rulePass c set = set → tellN c s = set) := Lib.hid (fun m set h1 h2 h3 => tell_end h1 h2 h3)
        generalize baseTo c s c.copies.length = bs at hb64 HBASE
        go_upto_region 12 with (fail)
        have HB0 := Lib.hid hbr
        clear hbr
        go_loopw [7, 10] (fun st mo V => ∃ (set m : Nat) (more : Bool), st = .int .i64 (set : Int) ∧ mo = .bool more ∧ set < 64 ∧ Hid (ruleIter c m bs = set) ∧ Hid (m ≤ set) ∧ Hid (more = false → rulePass c set = set) ∧ Below w.heap.size w V) (fun st mo _ => 64 - (intOf st).toNat + (match mo with | .bool true => 1 | _ => 0))
        case atStart => exact ⟨bs, 0, true, rfl, rfl, hb64, Lib.hid rfl, Lib.hid (Nat.zero_le _), Lib.hid (fun h => by cases h), HB0.out⟩
        case round =>
          rename World => V
          obtain ⟨set, m, more, rfl, rfl, hset, HI, HMM, HF, hbV⟩ := hrel
          cases more
          · have HR := Lib.hid (HBASE.out m set HI.out (by have := HMM.out; omega) (HF.out rfl))
            clear HF HI HMM HBASE
            have hTV := HT.out.below hbV hlo
            obtain ⟨V2, hrun, hMV2, hg2, hs2⟩ := hTV.update key_int map_int (by have hmx : maxLen = 9223372036854775807 := rfl; have := HM.out.len; omega) HKEY.out HN.out (val := .int .i64 (set : Int))
            have HMO := Lib.hid (show MemoC c (T ++ [(Value.int .i64 (s : Int), Value.int .i64 (set : Int))]) by rw [← HR.out]; exact HM.out.more s hs HN.out)
            have hg : w.grownBy V2 (some bo) := (grown_below hbV).andThen ⟨hg2.os, hg2.tape, hg2.output, hg2.size, hg2.block⟩ (fun j e => .inr (by simpa using e))
            have HFIN := Lib.hid (HC.out.learn hg hMV2 HMO.out)
            replace hg := Lib.hid hg
            have hblk := HC.out.blk.same (hbV.block _ yz)
            obtain ⟨y0, y1, y2, y3, y4, y5, y6, y7, y8, y9, yz'⟩ := hblk.cells
            clear y0 y1 y2 y3 y4 y5 y6 y7 y8 hTV hMV2 hg2 hs2 HMO hblk
            go_wp2
            go_ret
            rw [HR.out]
            exact ⟨rfl, hg.out, HFIN.out⟩
          · have hmV := HC.out.chest.mono hbV
            have hblk := HC.out.blk.same (hbV.block _ yz)
            obtain ⟨y0, y1, y2, y3, y4, y5, y6, y7, y8, y9, yz'⟩ := hblk.cells
            clear y0 y1 y2 y3 y4 y6 y7 y8 y9
            go_wp2
            go_step3
            go_wp2
            go_step3
            go_upto_region 15 with (fail)
            go_loopw [7, 10, 52] (fun st mo i U => ∃ (k : Nat) (mr : Bool), k ≤ c.rules.length ∧ i = .int .i64 k ∧ st = .int .i64 (passTo c set k : Int) ∧ mo = .bool mr ∧ Hid ((mr = false ∧ passTo c set k = set) ∨ (mr = true ∧ set < passTo c set k)) ∧ Below w.heap.size w U) (fun _ _ i _ => c.rules.length - (intOf i).toNat)
            case atStart => exact ⟨0, false, Nat.zero_le _, rfl, rfl, rfl, Lib.hid (.inl ⟨rfl, rfl⟩), hbV⟩
            case round =>
              rename World => U
              obtain ⟨k, mr, hk, rfl, rfl, rfl, HW, hbU⟩ := hrel
              by_cases hlt : k < c.rules.length
              · have hpl := passTo_lt64 HV.out hset k hk
                have hrl := rule_lt HV.out hlt
                have HS := Lib.hid (pass_step (set := set) hlt)
                obtain ⟨b, off, hac, hbb, h0, h1⟩ := (HC.out.chest.mono hbU).rules k hlt
                generalize c.rules[k] = x at hrl HS h0 h1
                obtain ⟨xn, xg⟩ := x
                simp only at hrl h0 h1
                obtain ⟨n, rfl⟩ : ∃ n : Nat, xn = n := ⟨xn.toNat, by omega⟩
                obtain ⟨g, rfl⟩ : ∃ g : Nat, xg = g := ⟨xg.toNat, by omega⟩
                have hN := and_not64 n (by omega) (passTo c set k) hpl
                have hb := bit_and (passTo c set k) hpl g (by omega)
                have HO := Lib.hid (or_bit64 (passTo c set k) hpl g (by omega))
                have hg64 : (g : Int) < 64 := by omega
                have HST : Hid (passTo c set (k + 1) = if n &&& passTo c set k = n ∧ (passTo c set k).testBit g = false then passTo c set k ||| 2 ^ g else passTo c set k) := HS
                clear hrl hpl HS
                generalize passTo c set k = pk at HW HST HO hN hb
                subst hac
                by_cases hnp : n &&& pk = n
                · rw [show (n &&& pk == n) = true from by simpa using hnp] at hN
                  simp only [Bool.not_true] at hN
                  cases hbt : pk.testBit g
                  · rw [hbt] at hb
                    replace HST := Lib.hid (HST.out.trans (if_pos ⟨hnp, hbt⟩))
                    have HGT := Lib.hid (or_gt hbt)
                    clear hnp hbt
                    go_wp2
                    go_roundw
                    case rel => exact ⟨k + 1, true, by omega, by go_num, by rw [HO.out, HST.out], rfl, Lib.hid (.inr ⟨rfl, by rw [HST.out]; have := HGT.out; rcases HW.out with ⟨-, h⟩ | ⟨-, h⟩ <;> omega⟩), hbU.alloc hbU.size _⟩
                    case measure => simp [intOf]; omega
                  · rw [hbt] at hb
                    replace HST := Lib.hid (HST.out.trans (if_neg (fun h => by rw [hbt] at h; cases h.2)))
                    clear hnp hbt
                    go_wp2
                    go_roundw
                    case rel => exact ⟨k + 1, mr, by omega, by go_num, by rw [HST.out], rfl, by rw [HST.out]; exact HW, hbU.alloc hbU.size _⟩
                    case measure => simp [intOf]; omega
                · rw [show (n &&& pk == n) = false from by simpa using hnp] at hN
                  simp only [Bool.not_false] at hN
                  replace HST := Lib.hid (HST.out.trans (if_neg (fun h => hnp h.1)))
                  clear hnp
                  go_wp2
                  go_roundw
                  case rel => exact ⟨k + 1, mr, by omega, by go_num, by rw [HST.out], rfl, by rw [HST.out]; exact HW, hbU.alloc hbU.size _⟩
                  case measure => simp [intOf]; omega
              · obtain rfl : k = c.rules.length := by omega
                have hpl := passTo_lt64 HV.out hset c.rules.length (Nat.le_refl _)
                have HPA := Lib.hid (passTo_all c set)
                have HIN := Lib.hid (iter_next c m bs)
                cases mr
                · have hse : passTo c set c.rules.length = set := by
                    rcases HW.out with ⟨-, h⟩ | ⟨h, -⟩
                    · exact h
                    · cases h
                  rw [hse] at hpl HPA ⊢
                  clear hse
                  go_wp2
                  (try simp only [Exit.noGoto])
                  go_roundw
                  case rel => exact ⟨set, m, false, rfl, rfl, hset, HI, HMM, Lib.hid (fun _ => HPA.out.symm), hbU⟩
                  case measure => simp [intOf]
                · have hse : set < passTo c set c.rules.length := by
                    rcases HW.out with ⟨h, -⟩ | ⟨-, h⟩
                    · cases h
                    · exact h
                  generalize passTo c set c.rules.length = set' at hse hpl HPA ⊢
                  go_wp2
                  (try simp only [Exit.noGoto])
                  go_roundw
                  case rel => exact ⟨set', m + 1, true, rfl, rfl, hpl, Lib.hid (by rw [HIN.out, HI.out]; exact HPA.out.symm), Lib.hid (by have := HMM.out; omega), Lib.hid (fun h => by cases h), hbU⟩
                  case measure => simp [intOf]; omega
end Go.Proofs.YtcgplocmncionaaGreat
