/- What is proved here: contracts of failing of layer 10, for each kind of a chest's parts. Conditions: the slice lies in memory; a function that answers as a plain one does. -/
/- What is proved here: contracts of chest.off, with its closure and the search of slices. No condition but lengths. -/
/- What is proved here: the contracts of the closures of Check of layer 10, at a chest in which nothing is wrong. Conditions: the chest lies in memory and is valid. -/
import Derived.Test.YtcgplocmncionaaGreatSeFailG
import Derived.Test.YtcgplocmncionaaGreatTsG
import Derived.Test.YtcgplocmncionaaGreatSeNames
import Derived.Deep.DeepCutAuto
import Derived.Shelf.RegionOpen
import Derived.Test.YtcgplocmncionaaGreatSeChkG
import Derived.BigQuiet
set_option linter.unusedVariables false
set_option linter.unusedSimpArgs false
namespace Go.Proofs.YtcgplocmncionaaGreat
open Go Go.RowKit
set_option maxHeartbeats 1000000 in
theorem CFailS_any (a : Option Addr) (l : List ByteArray) (c F : Nat) (caps : Array Value) (f : Nat → Int) (w : World) (hl : l.length ≤ 9223372036854775807) (hi : StrsC w a l)
    (hCF : ∀ (xs : Array Value) (W : World), (callFunc F xs).run Tryz.prog W = .ok (.enter F xs) W)
    (hK : ∀ (k : Nat) (h : k < l.length) (W : World), Below w.heap.size w W → Calls Tryz.prog F (#[.int .i64 (k : Int), .string l[k]] ++ caps) W fun e W' => e = .returned (.int .i64 (f k)) ∧ Below W.heap.size W W') :
    Calls Tryz.prog 99 #[.slice a l.length c, .func (.func F) #[] caps] w fun e w' => e = .returned (.tuple #[.int .i64 (failN l.length f).1, .int .i64 (failN l.length f).2]) ∧ Below w.heap.size w w' := by
  obtain ⟨r, hr⟩ : ∃ r, r = failN l.length f := ⟨_, rfl⟩
  rw [← hr]
  have Hr := Lib.hid hr
  clear hr
  replace hK := Lib.hid hK
  go_enter Tryz.func99, Tryz.ntmps99
  go_wp2
  go_loopw [11] (fun i wr => ∃ k : Nat, k ≤ l.length ∧ i = .int .i64 k ∧ Hid (∀ j, j < k → f j = 0) ∧ Below w.heap.size w wr) (fun i _ => l.length - (intOf i).toNat)
  case atStart => exact ⟨0, Nat.zero_le _, rfl, Lib.hid (fun j h => absurd h (Nat.not_lt_zero j)), Below.refl _ _⟩
  case round =>
    obtain ⟨k, hk, rfl, HZ, hbw⟩ := hrel
    by_cases hlt : k < l.length
    · have K := Lib.hid (fun (W : World) (h : Below w.heap.size w W) => hK.out k hlt W h)
      obtain ⟨b, off, rfl, hb, h1⟩ := (hi.mono hbw) k hlt
      have HE := Lib.hid (fun (h : f k ≠ 0) => Hr.out.trans (failN_err hlt HZ.out h))
      have HN := Lib.hid (fun (h : f k = 0) => show ∀ j, j < k + 1 → f j = 0 from fun j hj => if hjk : j < k then HZ.out j hjk else (by have e : j = k := (by omega); subst e; exact h))
      generalize f k = y at K HE HN
      generalize l[k] = x at K h1
      by_cases hx : y = 0
      · have hx2 := nei_f hx
        replace HN := Lib.hid (HN.out hx)
        subst hx
        clear HE
        go_wp2_with ((with_reducible refine (K.out _ hbw).mono ?_); rintro e w2 ⟨rfl, hb2⟩; have hbn := hbw.trans (hb2.mono hbw.size); dsimp only)
        go_roundw
        case rel => exact ⟨k + 1, by omega, by go_num, HN, hbn⟩
        case measure => simp [intOf]; omega
      · have hx2 := nei_t hx
        replace HE := Lib.hid (HE.out hx)
        clear HN hx
        go_wp2_with ((with_reducible refine (K.out _ hbw).mono ?_); rintro e w2 ⟨rfl, hb2⟩; have hbn := hbw.trans (hb2.mono hbw.size); dsimp only)
        go_ret2
        have := HE.out
        subst this
        exact ⟨rfl, hbn⟩
    · obtain rfl : k = l.length := by omega
      go_wp2
      go_ret2
      have := Hr.out.trans (failN_ok HZ.out)
      subst this
      exact ⟨rfl, hbw⟩

set_option maxHeartbeats 1000000 in
theorem CFailC_any (a : Option Addr) (l : List ChC) (c F : Nat) (caps : Array Value) (f : Nat → Int) (w : World) (hl : l.length ≤ 9223372036854775807) (hi : ChCopiesC w a l)
    (hCF : ∀ (xs : Array Value) (W : World), (callFunc F xs).run Tryz.prog W = .ok (.enter F xs) W)
    (hK : ∀ (k : Nat) (h : k < l.length) (W : World), Below w.heap.size w W → Calls Tryz.prog F (#[.int .i64 (k : Int), .agg #[.int .i64 l[k].number, .int .i64 l[k].words, .int .i64 l[k].facts, .int .i64 l[k].may]] ++ caps) W fun e W' => e = .returned (.int .i64 (f k)) ∧ Below W.heap.size W W') :
    Calls Tryz.prog 101 #[.slice a l.length c, .func (.func F) #[] caps] w fun e w' => e = .returned (.tuple #[.int .i64 (failN l.length f).1, .int .i64 (failN l.length f).2]) ∧ Below w.heap.size w w' := by
  obtain ⟨r, hr⟩ : ∃ r, r = failN l.length f := ⟨_, rfl⟩
  rw [← hr]
  have Hr := Lib.hid hr
  clear hr
  replace hK := Lib.hid hK
  go_enter Tryz.func101, Tryz.ntmps101
  go_wp2
  go_loopw [11] (fun i wr => ∃ k : Nat, k ≤ l.length ∧ i = .int .i64 k ∧ Hid (∀ j, j < k → f j = 0) ∧ Below w.heap.size w wr) (fun i _ => l.length - (intOf i).toNat)
  case atStart => exact ⟨0, Nat.zero_le _, rfl, Lib.hid (fun j h => absurd h (Nat.not_lt_zero j)), Below.refl _ _⟩
  case round =>
    obtain ⟨k, hk, rfl, HZ, hbw⟩ := hrel
    by_cases hlt : k < l.length
    · have K := Lib.hid (fun (W : World) (h : Below w.heap.size w W) => hK.out k hlt W h)
      obtain ⟨b, off, rfl, hb, h1, h2, h3, h4⟩ := (hi.mono hbw) k hlt
      have HE := Lib.hid (fun (h : f k ≠ 0) => Hr.out.trans (failN_err hlt HZ.out h))
      have HN := Lib.hid (fun (h : f k = 0) => show ∀ j, j < k + 1 → f j = 0 from fun j hj => if hjk : j < k then HZ.out j hjk else (by have e : j = k := (by omega); subst e; exact h))
      generalize f k = y at K HE HN
      generalize l[k] = x at K h1 h2 h3 h4
      obtain ⟨xnumber, xwords, xfacts, xmay⟩ := x
      simp only at K h1 h2 h3 h4
      by_cases hx : y = 0
      · have hx2 := nei_f hx
        replace HN := Lib.hid (HN.out hx)
        subst hx
        clear HE
        go_wp2_with ((with_reducible refine (K.out _ (hbw.alloc hbw.size _)).mono ?_); rintro e w2 ⟨rfl, hb2⟩; have hbn := (hbw.alloc hbw.size (.cells #[.int .i64 xnumber, .int .i64 xwords, .int .i64 xfacts, .int .i64 xmay] 45)).trans (hb2.mono (by have := hbw.size; simp; omega)); dsimp only)
        go_roundw
        case rel => exact ⟨k + 1, by omega, by go_num, HN, hbn⟩
        case measure => simp [intOf]; omega
      · have hx2 := nei_t hx
        replace HE := Lib.hid (HE.out hx)
        clear HN hx
        go_wp2_with ((with_reducible refine (K.out _ (hbw.alloc hbw.size _)).mono ?_); rintro e w2 ⟨rfl, hb2⟩; have hbn := (hbw.alloc hbw.size (.cells #[.int .i64 xnumber, .int .i64 xwords, .int .i64 xfacts, .int .i64 xmay] 45)).trans (hb2.mono (by have := hbw.size; simp; omega)); dsimp only)
        go_ret2
        have := HE.out
        subst this
        exact ⟨rfl, hbn⟩
    · obtain rfl : k = l.length := by omega
      go_wp2
      go_ret2
      have := Hr.out.trans (failN_ok HZ.out)
      subst this
      exact ⟨rfl, hbw⟩
set_option maxHeartbeats 1000000 in
theorem CFailR_any (a : Option Addr) (l : List ChR) (c F : Nat) (caps : Array Value) (f : Nat → Int) (w : World) (hl : l.length ≤ 9223372036854775807) (hi : ChRulesC w a l)
    (hCF : ∀ (xs : Array Value) (W : World), (callFunc F xs).run Tryz.prog W = .ok (.enter F xs) W)
    (hK : ∀ (k : Nat) (h : k < l.length) (W : World), Below w.heap.size w W → Calls Tryz.prog F (#[.int .i64 (k : Int), .agg #[.int .i64 l[k].need, .int .i64 l[k].gives]] ++ caps) W fun e W' => e = .returned (.int .i64 (f k)) ∧ Below W.heap.size W W') :
    Calls Tryz.prog 103 #[.slice a l.length c, .func (.func F) #[] caps] w fun e w' => e = .returned (.tuple #[.int .i64 (failN l.length f).1, .int .i64 (failN l.length f).2]) ∧ Below w.heap.size w w' := by
  obtain ⟨r, hr⟩ : ∃ r, r = failN l.length f := ⟨_, rfl⟩
  rw [← hr]
  have Hr := Lib.hid hr
  clear hr
  replace hK := Lib.hid hK
  go_enter Tryz.func103, Tryz.ntmps103
  go_wp2
  go_loopw [11] (fun i wr => ∃ k : Nat, k ≤ l.length ∧ i = .int .i64 k ∧ Hid (∀ j, j < k → f j = 0) ∧ Below w.heap.size w wr) (fun i _ => l.length - (intOf i).toNat)
  case atStart => exact ⟨0, Nat.zero_le _, rfl, Lib.hid (fun j h => absurd h (Nat.not_lt_zero j)), Below.refl _ _⟩
  case round =>
    obtain ⟨k, hk, rfl, HZ, hbw⟩ := hrel
    by_cases hlt : k < l.length
    · have K := Lib.hid (fun (W : World) (h : Below w.heap.size w W) => hK.out k hlt W h)
      obtain ⟨b, off, rfl, hb, h1, h2⟩ := (hi.mono hbw) k hlt
      have HE := Lib.hid (fun (h : f k ≠ 0) => Hr.out.trans (failN_err hlt HZ.out h))
      have HN := Lib.hid (fun (h : f k = 0) => show ∀ j, j < k + 1 → f j = 0 from fun j hj => if hjk : j < k then HZ.out j hjk else (by have e : j = k := (by omega); subst e; exact h))
      generalize f k = y at K HE HN
      generalize l[k] = x at K h1 h2
      obtain ⟨xneed, xgives⟩ := x
      simp only at K h1 h2
      by_cases hx : y = 0
      · have hx2 := nei_f hx
        replace HN := Lib.hid (HN.out hx)
        subst hx
        clear HE
        go_wp2_with ((with_reducible refine (K.out _ (hbw.alloc hbw.size _)).mono ?_); rintro e w2 ⟨rfl, hb2⟩; have hbn := (hbw.alloc hbw.size (.cells #[.int .i64 xneed, .int .i64 xgives] 119)).trans (hb2.mono (by have := hbw.size; simp; omega)); dsimp only)
        go_roundw
        case rel => exact ⟨k + 1, by omega, by go_num, HN, hbn⟩
        case measure => simp [intOf]; omega
      · have hx2 := nei_t hx
        replace HE := Lib.hid (HE.out hx)
        clear HN hx
        go_wp2_with ((with_reducible refine (K.out _ (hbw.alloc hbw.size _)).mono ?_); rintro e w2 ⟨rfl, hb2⟩; have hbn := (hbw.alloc hbw.size (.cells #[.int .i64 xneed, .int .i64 xgives] 119)).trans (hb2.mono (by have := hbw.size; simp; omega)); dsimp only)
        go_ret2
        have := HE.out
        subst this
        exact ⟨rfl, hbn⟩
    · obtain rfl : k = l.length := by omega
      go_wp2
      go_ret2
      have := Hr.out.trans (failN_ok HZ.out)
      subst this
      exact ⟨rfl, hbw⟩
end Go.Proofs.YtcgplocmncionaaGreat
namespace Go.Proofs.YtcgplocmncionaaGreat
open Go Go.RowKit
set_option maxHeartbeats 1000000 in
theorem COff1_any (n lo hi : Int) (p q : Nat) (w : World) (h1 : w.cell? ⟨p, 0, none⟩ = some (.int .i64 lo)) (h2 : w.cell? ⟨q, 0, none⟩ = some (.int .i64 hi)) :
    Calls Tryz.prog 105 #[.int .i64 n, .pointer (some ⟨p, 0, none⟩), .pointer (some ⟨q, 0, none⟩)] w fun e w' => e = .returned (.bool (outB lo hi n)) ∧ w' = w := by
  have hp := lt_of_cell h1
  have hq := lt_of_cell h2
  have HO : Hid (outB lo hi n = (decide (n < lo) || decide (hi < n))) := rfl
  generalize outB lo hi n = r at HO ⊢
  by_cases a1 : n < lo
  · go_enter Tryz.func105, Tryz.ntmps105
    go_wp2
    go_ret
    exact ⟨ret_bool (by rw [HO.out]; simp [a1]), rfl⟩
  · by_cases a2 : hi < n
    all_goals
      go_enter Tryz.func105, Tryz.ntmps105
      go_wp2
      go_ret
      exact ⟨ret_bool (by rw [HO.out]; simp [a1, a2] <;> omega), rfl⟩
set_option maxHeartbeats 1000000 in
theorem COffIndex_any (a : Option Addr) (l : List Int) (c : Nat) (lo hi : Int) (p q : Nat) (w : World) (hl : l.length ≤ 9223372036854775807) (hi' : IntsC w a l) (h1 : w.cell? ⟨p, 0, none⟩ = some (.int .i64 lo)) (h2 : w.cell? ⟨q, 0, none⟩ = some (.int .i64 hi)) :
    Calls Tryz.prog 80 #[.slice a l.length c, .func (.func 105) #[] #[.pointer (some ⟨p, 0, none⟩), .pointer (some ⟨q, 0, none⟩)]] w fun e w' => ∃ k : Int, e = .returned (.int .i64 k) ∧ Hid (decide (0 ≤ k) = l.any (outB lo hi)) ∧ w' = w := by
  go_enter Tryz.func80, Tryz.ntmps80
  go_wp2
  go_loop [8] (fun i => ∃ k : Nat, k ≤ l.length ∧ i = .int .i64 k ∧ Hid (∀ j (_ : j < k) (h : j < l.length), outB lo hi l[j] = false)) (fun i => l.length - (intOf i).toNat)
  case atStart => exact ⟨0, Nat.zero_le _, rfl, Lib.hid (fun j h => absurd h (Nat.not_lt_zero j))⟩
  case round =>
    obtain ⟨k, hk, rfl, HR⟩ := hrel
    by_cases hlt : k < l.length
    · obtain ⟨b, off, rfl, hb, hx⟩ := hi' k hlt
      have B := COff1_any l[k] lo hi p q w h1 h2
      have HT := Lib.hid (fun (h : outB lo hi l[k] = true) => (any_lt hlt h : l.any (outB lo hi) = true))
      have HN := Lib.hid (fun (h : outB lo hi l[k] = false) => show ∀ j (_ : j < k + 1) (h : j < l.length), outB lo hi l[j] = false from fun j hj hjl => if hjk : j < k then HR.out j hjk hjl else (by have e : j = k := (by omega); subst e; exact h))
      generalize outB lo hi l[k] = br at B HT HN
      have B := Lib.hid B
      cases br
      · go_wp2_with (go_at_call 105; go_must (refine B.out.mono ?_; rintro e w2 ⟨rfl, hw2⟩; obtain rfl := hw2.symm; dsimp only))
        go_round
        case rel => exact ⟨k + 1, by omega, by go_num, Lib.hid (HN.out (by trivial))⟩
        case measure => simp [intOf]; omega
      · go_wp2_with (go_at_call 105; go_must (refine B.out.mono ?_; rintro e w2 ⟨rfl, hw2⟩; obtain rfl := hw2.symm; dsimp only))
        go_ret
        exact ⟨_, rfl, Lib.hid (by rw [HT.out (by trivial)]; simp), rfl⟩
    · obtain rfl : k = l.length := by omega
      go_wp2
      go_ret
      exact ⟨_, rfl, Lib.hid (by rw [any_not (fun j h => HR.out j h h)]; simp), rfl⟩
set_option maxHeartbeats 1000000 in
theorem COffContains_any (a : Option Addr) (l : List Int) (c : Nat) (lo hi : Int) (p q : Nat) (w : World) (hl : l.length ≤ 9223372036854775807) (hi' : IntsC w a l) (h1 : w.cell? ⟨p, 0, none⟩ = some (.int .i64 lo)) (h2 : w.cell? ⟨q, 0, none⟩ = some (.int .i64 hi)) :
    Calls Tryz.prog 50 #[.slice a l.length c, .func (.func 105) #[] #[.pointer (some ⟨p, 0, none⟩), .pointer (some ⟨q, 0, none⟩)]] w fun e w' => e = .returned (.bool (l.any (outB lo hi))) ∧ w' = w := by
  have I := Lib.hid (COffIndex_any a l c lo hi p q w hl hi' h1 h2)
  go_enter Tryz.func50, Tryz.ntmps50
  by_cases ha : l.any (outB lo hi) = true
  · go_wp2_with (go_at_call 80; go_must (refine I.out.mono ?_; rintro e w2 ⟨k, rfl, hk, hw2⟩; obtain rfl := hw2.symm; have hk2 : 0 ≤ k := of_decide_eq_true (hk.out.trans ha); dsimp only))
    go_ret
    exact ⟨rfl, rfl⟩
  · go_wp2_with (go_at_call 80; go_must (refine I.out.mono ?_; rintro e w2 ⟨k, rfl, hk, hw2⟩; obtain rfl := hw2.symm; have hk2 : ¬ 0 ≤ k := of_decide_eq_false (hk.out.trans (Bool.eq_false_iff.2 ha)); dsimp only))
    go_ret
    exact ⟨rfl, rfl⟩
set_option maxHeartbeats 1000000 in
theorem COff_any (a : Option Addr) (l : List Int) (c : Nat) (lo hi : Int) (w : World) (hl : l.length ≤ 9223372036854775807) (hi' : IntsC w a l) :
    Calls Tryz.prog 76 #[.int .i64 lo, .int .i64 hi, .slice a l.length c] w fun e w' => e = .returned (.bool (l.any (outB lo hi))) ∧ Below w.heap.size w w' := by
  have g1 : ((w.alloc (.cells #[.int .i64 lo] 3)).alloc (.cells #[.int .i64 hi] 3)).cell? ⟨w.heap.size, 0, none⟩ = some (.int .i64 lo) := blk_cell 0 (blk_below ((Below.refl (w.heap.size + 1) _).alloc (by simp) _) (by omega) (blk_new w _)) rfl
  have g2 : ((w.alloc (.cells #[.int .i64 lo] 3)).alloc (.cells #[.int .i64 hi] 3)).cell? ⟨w.heap.size + 1, 0, none⟩ = some (.int .i64 hi) := by simp
  have C := Lib.hid (COffContains_any a l c lo hi _ _ _ hl (hi'.mono (((Below.refl _ w).alloc (Nat.le_refl _) _).alloc (by simp) _)) g1 g2)
  clear g1 g2
  go_enter Tryz.func76, Tryz.ntmps76
  go_wp2_with (go_at_call 50; go_must (refine C.out.mono ?_; rintro e w2 ⟨rfl, hw2⟩; obtain rfl := hw2.symm; dsimp only))
  go_ret
  exact ⟨rfl, by go_grown⟩
theorem COffOne_any (x lo hi : Int) (a : Nat) (w : World) (h : w.cell? ⟨a, 0, none⟩ = some (.int .i64 x)) :
    Calls Tryz.prog 76 #[.int .i64 lo, .int .i64 hi, .slice (some ⟨a, 0, none⟩) 1 1] w fun e w' => e = .returned (.bool (!inB x lo hi)) ∧ Below w.heap.size w w' := by
  have := COff_any (some ⟨a, 0, none⟩) [x] 1 lo hi w (by simp) (fun i hi => by have e : i = 0 := (by simp at hi; omega); subst e; exact ⟨a, 0, rfl, lt_of_cell h, by simpa using h⟩)
  simpa [outB_eq] using this
end Go.Proofs.YtcgplocmncionaaGreat
namespace Go.Proofs.YtcgplocmncionaaGreat
open Go Go.RowKit

theorem COffOk (x lo hi : Int) (hx : lo ≤ x ∧ x ≤ hi) (a : Nat) (w : World) (h : w.cell? ⟨a, 0, none⟩ = some (.int .i64 x)) :
    Calls Tryz.prog 76 #[.int .i64 lo, .int .i64 hi, .slice (some ⟨a, 0, none⟩) 1 1] w fun e w' => e = .returned (.bool false) ∧ Below w.heap.size w w' := by
  have := COffOne_any x lo hi a w h
  rwa [inB_iff.2 hx] at this
set_option maxHeartbeats 1000000 in
theorem CChk1_any (ap ac ar : Option Addr) (kp kc kr : Nat) (c : ChH) (i B : Nat) (w : World) (hm : ChestC w ap ac ar kp kc kr c) (hv : ChValid c) (hi : i < c.people.length) (c0 : w.cell? ⟨B, 2, none⟩ = some (.slice ap c.people.length kp)) :
    Calls Tryz.prog 100 #[.int .i64 i, .string c.people[i], .pointer (some ⟨B, 0, none⟩)] w fun e w' => e = .returned (.int .i64 0) ∧ Below w.heap.size w w' := by
  have l1 := hm.okp.len
  have hfr := hv.names i hi
  have hsz := hm.psize _ (List.getElem_mem hi)
  have hn : nameB c.people[i] = true ∧ hasS (c.people.take i) c.people[i] = false := by
    unfold fresh at hfr
    cases h1 : nameB c.people[i] <;> cases h2 : hasS (c.people.take i) c.people[i] <;> simp [h1, h2] at hfr ⊢
  obtain ⟨hn1, hn2⟩ := hn
  obtain ⟨b, off, rfl, hb, _⟩ := hm.people i hi
  have hso := hm.okp.1
  have N := EarName_any c.people[i] w hsz
  rw [hn1] at N
  have hti : (c.people.take i).length = i := by rw [List.length_take]; omega
  have K := Lib.hid (fun (W : World) (h : Below w.heap.size w W) => (show Calls Tryz.prog 84 #[.slice (some ⟨b, off, none⟩) i kp, .string c.people[i]] W fun e w' => e = .returned (.bool false) ∧ w' = W from by
    have := ContainsS_any (some ⟨b, off, none⟩) (c.people.take i) kp c.people[i] W (by omega) ((hm.people.mono h).take i)
    rw [hti, hn2] at this
    exact this))
  replace N := Lib.hid N
  clear hfr hn1 hn2 hti
  generalize c.people[i] = s at N K hsz
  have hB := lt_of_cell c0
  go_enter Tryz.func100, Tryz.ntmps100
  go_wp2_with (first
    | (go_at_call 84; go_must (refine (K.out _ hb2).mono ?_; rintro e w3 ⟨rfl, hw3⟩; obtain rfl := hw3.symm; dsimp only))
    | (go_at_call 83; go_must (refine N.out.mono ?_; rintro e w2 ⟨rfl, hb2⟩; have c2 := cell_below hb2 c0; have hB2 := lt_of_cell c2; dsimp only)))
  go_ret
  exact ⟨rfl, hb2⟩
set_option maxHeartbeats 1000000 in
theorem CChk3_any (i p B : Nat) (x : ChR) (N : Nat) (F : Int) (w : World) (hN : N ≤ 64) (h1 : 1 ≤ x.need ∧ x.need < N) (h2 : 0 ≤ x.gives ∧ x.gives < F) (hF : F ≤ 6) (c0 : w.cell? ⟨p, 0, none⟩ = some (.int .i64 (N : Int))) (c1 : w.cell? ⟨B, 1, none⟩ = some (.int .i64 F)) :
    Calls Tryz.prog 104 #[.int .i64 i, .agg #[.int .i64 x.need, .int .i64 x.gives], .pointer (some ⟨p, 0, none⟩), .pointer (some ⟨B, 0, none⟩)] w fun e w' => e = .returned (.int .i64 0) ∧ Below w.heap.size w w' := by
  obtain ⟨need, gives⟩ := x
  simp only at h1 h2 ⊢
  have B0 := Lib.hid (fun (a : Nat) (W : World) h => COffOk need 0 ((N : Int) - 1) (by omega) a W h)
  have B1 := Lib.hid (fun (a : Nat) (W : World) h => COffOk gives 0 (F - 1) (by omega) a W h)
  have hp := lt_of_cell c0
  have hB := lt_of_cell c1
  have g := eqi_f (show need ≠ 0 from fun h => by omega)
  have hQ0 := Below.refl (w.heap.size + 1) (w.alloc (.cells #[.int .i64 need, .int .i64 gives] 119))
  go_enter Tryz.func104, Tryz.ntmps104
  go_wp2_with (first
    | (go_at_call 76; (with_reducible refine (B1.out _ _ ?_).mono ?_); (simp); rintro e w3 ⟨rfl, hb3⟩; have hQ3 := (hQ.alloc (box_size hQ) (.cells #[.int .i64 gives] 3)).trans (hb3.mono (by have := box_size hQ; simp; omega)); have y0 := box_cell hQ3 0 _ rfl; have yz := lt_of_cell y0; dsimp only)
    | (go_at_call 76; go_must (refine (B0.out _ _ ?_).mono ?_; (simp); rintro e w2 ⟨rfl, hb2⟩; have hQ := (hQ0.alloc (by simp) (.cells #[.int .i64 need] 3)).trans (hb2.mono (by simp)); have x1 := box_cell hQ 1 _ rfl; have x2 := lt_of_cell x1; have d1 := cell_below (box_old hQ) c1; have d2 := lt_of_cell d1; dsimp only)))
  go_ret
  exact ⟨rfl, box_old hQ3⟩
set_option maxRecDepth 100000 in
set_option maxHeartbeats 2000000 in
theorem CChk2_any (ap ac ar : Option Addr) (kp kc kr : Nat) (c : ChH) (i B p1 p2 p3 n1 n2 n3 : Nat) (w : World) (hm : ChestC w ap ac ar kp kc kr c) (hi : i < c.copies.length) (hn1 : n1 ≤ 64) (hn2 : n2 ≤ 64) (hn3 : n3 ≤ 64) (hl : c.last ≤ 30) (h1 : 1 ≤ c.copies[i].number ∧ c.copies[i].number ≤ c.last) (h2 : 0 ≤ c.copies[i].words ∧ c.copies[i].words < n1) (h3 : 0 ≤ c.copies[i].facts ∧ c.copies[i].facts < n2) (h4 : 0 ≤ c.copies[i].may ∧ c.copies[i].may < n3)
    (ho : ∀ j (h : j + 1 < c.copies.length), c.copies[j].number < c.copies[j + 1].number) (c3 : w.cell? ⟨B, 3, none⟩ = some (.int .i64 c.last)) (c4 : w.cell? ⟨B, 4, none⟩ = some (.slice ac c.copies.length kc)) (d1 : w.cell? ⟨p1, 0, none⟩ = some (.int .i64 (n1 : Int))) (d2 : w.cell? ⟨p2, 0, none⟩ = some (.int .i64 (n2 : Int))) (d3 : w.cell? ⟨p3, 0, none⟩ = some (.int .i64 (n3 : Int))) :
    Calls Tryz.prog 102 #[.int .i64 i, .agg #[.int .i64 c.copies[i].number, .int .i64 c.copies[i].words, .int .i64 c.copies[i].facts, .int .i64 c.copies[i].may], .pointer (some ⟨B, 0, none⟩), .pointer (some ⟨p1, 0, none⟩), .pointer (some ⟨p2, 0, none⟩), .pointer (some ⟨p3, 0, none⟩)] w fun e w' => e = .returned (.int .i64 0) ∧ Below w.heap.size w w' := by
  have lc := hm.okc.len
  have lk := hm.okc.1
  have HO := Lib.hid ho
  clear ho
  have HI := Lib.hid (fun (W : World) (h : Below w.heap.size w W) => (hm.mono h).copies)
  have HX : Hid (∀ j, j + 1 = i → ∀ h : j < c.copies.length, c.copies[j].number < c.copies[i].number) := Lib.hid (fun j e h => by subst e; exact HO.out j hi)
  clear HO
  generalize c.copies[i] = x at h1 h2 h3 h4 HX ⊢
  obtain ⟨xn, xw, xf, xm⟩ := x
  simp only at h1 h2 h3 h4 HX ⊢
  have B0 := Lib.hid (fun (a : Nat) (W : World) h => COffOk xn 1 c.last h1 a W h)
  have B1 := Lib.hid (fun (a : Nat) (W : World) h => COffOk xw 0 ((n1 : Int) - 1) (by omega) a W h)
  have B2 := Lib.hid (fun (a : Nat) (W : World) h => COffOk xf 0 ((n2 : Int) - 1) (by omega) a W h)
  have B3 := Lib.hid (fun (a : Nat) (W : World) h => COffOk xm 0 ((n3 : Int) - 1) (by omega) a W h)
  have KE : Hid (∀ V, Below w.heap.size w V → (V.cell? ⟨B, 3, none⟩ = some (.int .i64 c.last) ∧ V.cell? ⟨B, 4, none⟩ = some (.slice ac c.copies.length kc) ∧ V.cell? ⟨p1, 0, none⟩ = some (.int .i64 (n1 : Int)) ∧ V.cell? ⟨p2, 0, none⟩ = some (.int .i64 (n2 : Int)) ∧ V.cell? ⟨p3, 0, none⟩ = some (.int .i64 (n3 : Int)) ∧ B < V.heap.size ∧ p1 < V.heap.size ∧ p2 < V.heap.size ∧ p3 < V.heap.size)) := Lib.hid (fun V h => by
    have z := h.size
    exact ⟨cell_below h c3, cell_below h c4, cell_below h d1, cell_below h d2, cell_below h d3, by have := lt_of_cell c3; simp only at this; omega, by have := lt_of_cell d1; simp only at this; omega, by have := lt_of_cell d2; simp only at this; omega, by have := lt_of_cell d3; simp only at this; omega⟩)
  have hQ0 := Below.refl (w.heap.size + 1) (w.alloc (.cells #[.int .i64 xn, .int .i64 xw, .int .i64 xf, .int .i64 xm] 45))
  obtain ⟨-, -, -, -, -, hz0, hz1, hz2, hz3⟩ := KE.out _ (Below.refl _ w)
  go_enter Tryz.func102, Tryz.ntmps102
  go_upto_region 3 with (go_at_call 76; go_must (refine (B0.out _ _ ?_).mono ?_; (simp); rintro e w2 ⟨rfl, hb2⟩; have hQ := (hQ0.alloc (by simp) (.cells #[.int .i64 xn] 3)).trans (hb2.mono (by simp)); dsimp only))
  clear c3 c4 d1 d2 d3 hb2 hQ0 hz0 hz1 hz2 hz3
  obtain ⟨c3, c4, d1, d2, d3, hz0, hz1, hz2, hz3⟩ := KE.out _ (box_old hQ)
  have x0 := box_cell hQ 0 _ rfl
  have x1 := box_cell hQ 1 _ rfl
  have x2 := box_cell hQ 2 _ rfl
  have x3 := box_cell hQ 3 _ rfl
  have xz := lt_of_cell x0
  have HC := HI.out _ (box_old hQ)
  go_cut [16] from 17 to 30 (fun v W => v = .bool false ∧ Below w2.heap.size w2 W)
  case first =>
    by_cases hi0 : i = 0
    · subst hi0
      go_quiet (fail)
      go_wp2
      go_meet
      case rel => exact ⟨rfl, below_draws _ _ _⟩
    · obtain ⟨j, rfl⟩ : ∃ j, i = j + 1 := ⟨i - 1, by omega⟩
      obtain ⟨b, off, rfl, hb, e0, -⟩ := HC j (by omega)
      have hlt := HX.out j rfl (by omega)
      generalize c.copies[j].number = y at e0 hlt
      have hg : ¬ xn ≤ y := by omega
      have hj1 : (j : Int) < c.copies.length := by omega
      clear hi0 HI HX KE hlt HC B0 B1 B2 B3
      go_quiet (fail)
      go_wp2
      go_meet
      case rel => exact ⟨by simp <;> omega, below_draws _ _ _⟩
  case rest =>
    obtain ⟨rfl, hbc⟩ := hcut
    rename World => V
    have hQV := box_on hQ hbc
    clear x0 x1 x2 x3 xz HC c3 c4 d1 d2 d3 hz0 hz1 hz2 hz3 hbc hQ
    obtain ⟨c3, c4, d1, d2, d3, hz0, hz1, hz2, hz3⟩ := KE.out _ (box_old hQV)
    have x1 := box_cell hQV 1 _ rfl
    have xz := lt_of_cell x1
    go_wp2_with (first
      | (go_at_call 76; (with_reducible refine (B3.out _ _ ?_).mono ?_); (simp); rintro e w5 ⟨rfl, hb5⟩; have hQ5 := (hQ4.alloc (box_size hQ4) (.cells #[.int .i64 xm] 3)).trans (hb5.mono (by have := box_size hQ4; simp; omega)); dsimp only)
      | (go_at_call 76; (with_reducible refine (B2.out _ _ ?_).mono ?_); (simp); rintro e w4 ⟨rfl, hb4⟩; have hQ4 := (hQ3.alloc (box_size hQ3) (.cells #[.int .i64 xf] 3)).trans (hb4.mono (by have := box_size hQ3; simp; omega)); obtain ⟨-, -, -, -, g3, -, -, -, gz3⟩ := KE.out _ (box_old hQ4); have z1 := box_cell hQ4 3 _ rfl; have zz := lt_of_cell z1; dsimp only)
      | (go_at_call 76; go_must (refine (B1.out _ _ ?_).mono ?_; (simp); rintro e w3 ⟨rfl, hb3⟩; have hQ3 := (hQV.alloc (box_size hQV) (.cells #[.int .i64 xw] 3)).trans (hb3.mono (by have := box_size hQV; simp; omega)); obtain ⟨-, -, -, f2, -, -, -, fz2, -⟩ := KE.out _ (box_old hQ3); have y1 := box_cell hQ3 2 _ rfl; have yz := lt_of_cell y1; dsimp only)))
    go_ret
    exact ⟨rfl, box_old hQ5⟩
end Go.Proofs.YtcgplocmncionaaGreat
