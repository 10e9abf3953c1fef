/- What is proved here: contracts of failing of layer 9, and of the searches of slices by a name. Conditions: the slice lies in memory; a function that answers as a plain one does. -/
import Derived.Test.YtchnpekgmkhacaaDeRep
import Derived.Test.YtchnpekgmkhacaaDeNames
import Derived.Test.YtchnpekgmkhacaaDeFew
set_option linter.unusedVariables false
set_option linter.unusedSimpArgs false
namespace Go.Proofs.Ytchnpekgmkhacaa
open Go Go.RowKit

set_option maxHeartbeats 1000000 in
theorem DFailW_any (a : Option Addr) (l : List DeW) (c F most : Nat) (caps : Array Value) (f : Nat → Int) (w : World) (hl : l.length ≤ 9223372036854775807) (hm : most ≤ 5) (hi : WritersC w a l)
    (hCF : ∀ (xs : Array Value) (W : World), (callFunc F xs).run Try.prog W = .ok (.enter F xs) W)
    (hK : ∀ (k : Nat) (h : k < l.length) (W : World), Below w.heap.size w W → Calls Try.prog F (#[.int .i64 (k : Int), .agg #[.string l[k].name, .int .i64 l[k].kinds, .int .i64 l[k].lo, .int .i64 l[k].hi]] ++ caps) W fun e W' => e = .returned (.int .i64 (f k)) ∧ Below W.heap.size W W') :
    Calls Try.prog 57 #[.slice a l.length c, .int .i64 (most : Int), .func (.func F) #[] caps] w fun e w' => e = .returned (.tuple #[.int .i64 (failOf l.length most f).1, .int .i64 (failOf l.length most f).2]) ∧ Below w.heap.size w w' := by
  obtain ⟨r, hr⟩ : ∃ r, r = failOf l.length most f := ⟨_, rfl⟩
  rw [← hr]
  have Hr := Lib.hid hr
  clear hr
  replace hK := Lib.hid hK
  go_enter Try.func57, Try.ntmps57
  by_cases hlm : most < l.length
  · replace Hr := Lib.hid (Hr.out.trans (failOf_long hlm))
    go_wp2
    go_ret2
    have := Hr.out
    subst this
    exact ⟨rfl, Below.refl _ _⟩
  go_wp2
  go_loopw [17] (fun i wr => ∃ k : Nat, k ≤ l.length ∧ i = .int .i64 k ∧ Hid (∀ j, j < k → f j = 0) ∧ Below w.heap.size w wr) (fun i _ => l.length - (intOf i).toNat)
  case atStart => exact ⟨0, Nat.zero_le _, rfl, Lib.hid (fun j h => absurd h (Nat.not_lt_zero j)), Below.refl _ _⟩
  case round =>
    obtain ⟨k, hk, rfl, HZ, hbw⟩ := hrel
    by_cases hlt : k < l.length
    · have K := Lib.hid (fun (W : World) (h : Below w.heap.size w W) => hK.out k hlt W h)
      obtain ⟨b, off, rfl, hb, h1, h2, h3, h4⟩ := (hi.mono hbw) k hlt
      have HE := Lib.hid (fun (h : f k ≠ 0) => Hr.out.trans (failOf_err (by omega) hlt HZ.out h))
      have HN := Lib.hid (fun (h : f k = 0) => show ∀ j, j < k + 1 → f j = 0 from fun j hj => if hjk : j < k then HZ.out j hjk else (by have e : j = k := (by omega); subst e; exact h))
      generalize f k = y at K HE HN
      generalize l[k] = x at K h1 h2 h3 h4
      obtain ⟨name, kinds, lo, hi⟩ := x
      simp only at K h1 h2 h3 h4
      by_cases hx : y = 0
      · have hx2 := nei_f hx
        replace HN := Lib.hid (HN.out hx)
        subst hx
        clear HE
        go_wp2_with ((with_reducible refine (K.out _ (hbw.alloc hbw.size _)).mono ?_); rintro e w2 ⟨rfl, hb2⟩; have hbn := (hbw.alloc hbw.size (.cells #[.string name, .int .i64 kinds, .int .i64 lo, .int .i64 hi] 72)).trans (hb2.mono (by have := hbw.size; simp; omega)); dsimp only)
        go_roundw
        case rel => exact ⟨k + 1, by omega, by go_num, HN, hbn⟩
        case measure => simp [intOf]; omega
      · have hx2 := nei_t hx
        replace HE := Lib.hid (HE.out hx)
        clear HN hx
        go_wp2_with ((with_reducible refine (K.out _ (hbw.alloc hbw.size _)).mono ?_); rintro e w2 ⟨rfl, hb2⟩; have hbn := (hbw.alloc hbw.size (.cells #[.string name, .int .i64 kinds, .int .i64 lo, .int .i64 hi] 72)).trans (hb2.mono (by have := hbw.size; simp; omega)); dsimp only)
        go_ret2
        have := HE.out
        subst this
        exact ⟨rfl, hbn⟩
    · obtain rfl : k = l.length := by omega
      go_wp2
      go_ret2
      have := Hr.out.trans (failOf_ok (by omega) HZ.out)
      subst this
      exact ⟨rfl, hbw⟩

theorem DSameW_any (x : DeW) (s : ByteArray) (B : Nat) (w : World) (c0 : w.cell? ⟨B, 0, none⟩ = some (.string s)) :
    Calls Try.prog 61 #[.agg #[.string x.name, .int .i64 x.kinds, .int .i64 x.lo, .int .i64 x.hi], .pointer (some ⟨B, 0, none⟩)] w fun e w' => e = .returned (.bool (decide (x.name = s))) ∧ Below w.heap.size w w' := by
  have hB := lt_of_cell c0
  obtain ⟨name, kinds, lo, hi⟩ := x
  simp only
  have h2 := str_eq name s
  go_enter Try.func61, Try.ntmps61
  go_wp2
  go_ret
  exact ⟨ret_bool (by first | exact h2 | simp [h2]), by go_grown⟩
theorem anyNameW (l : List DeW) (s : ByteArray) : (l.any fun x => decide (x.name = s)) = hasS (l.map (·.name)) s := by unfold hasS; rw [List.any_map]; rfl
set_option maxHeartbeats 1000000 in
theorem DIndexW_any (a : Option Addr) (l : List DeW) (c : Nat) (s : ByteArray) (B : Nat) (w : World) (hl : l.length ≤ 9223372036854775807) (hi : WritersC w a l) (c0 : w.cell? ⟨B, 0, none⟩ = some (.string s)) :
    Calls Try.prog 93 #[.slice a l.length c, .func (.func 61) #[] #[.pointer (some ⟨B, 0, none⟩)]] w fun e w' => ∃ k : Int, e = .returned (.int .i64 k) ∧ Hid (decide (0 ≤ k) = l.any fun x => decide (x.name = s)) ∧ Below w.heap.size w w' := by
  go_enter Try.func93, Try.ntmps93
  go_wp2
  go_loopw [8] (fun i wr => ∃ k : Nat, k ≤ l.length ∧ i = .int .i64 k ∧ Hid (∀ j (_ : j < k) (h : j < l.length), decide (l[j].name = s) = false) ∧ Below w.heap.size w wr) (fun i _ => l.length - (intOf i).toNat)
  case atStart => exact ⟨0, Nat.zero_le _, rfl, Lib.hid (fun j h => absurd h (Nat.not_lt_zero j)), Below.refl _ _⟩
  case round =>
    obtain ⟨k, hk, rfl, HR, hbw⟩ := hrel
    by_cases hlt : k < l.length
    · obtain ⟨b, off, rfl, hb, h1, h2, h3, h4⟩ := (hi.mono hbw) k hlt
      have S := DSameW_any l[k] s B wr (cell_below hbw c0)
      have HT := Lib.hid (fun (h : decide (l[k].name = s) = true) => (any_lt (f := fun x => decide (x.name = s)) hlt h : l.any (fun x => decide (x.name = s)) = true))
      have HN := Lib.hid (fun (h : decide (l[k].name = s) = false) => show ∀ j (_ : j < k + 1) (h : j < l.length), decide (l[j].name = s) = false from fun j hj hjl => if hjk : j < k then HR.out j hjk hjl else (by have e : j = k := (by omega); subst e; exact h))
      generalize l[k] = x at S h1 h2 h3 h4 HT HN
      generalize decide (x.name = s) = br at S HT HN
      obtain ⟨name, kinds, lo, hi⟩ := x
      simp only at S h1 h2 h3 h4
      have S := Lib.hid S
      cases br
      · go_wp2_with (go_at_call 61; go_must ((with_reducible refine S.out.mono ?_); rintro e w2 ⟨rfl, hb2⟩; have hbn := hbw.trans (hb2.mono hbw.size); dsimp only))
        go_roundw
        case rel => exact ⟨k + 1, by omega, by go_num, Lib.hid (HN.out (by trivial)), hbn⟩
        case measure => simp [intOf]; omega
      · go_wp2_with (go_at_call 61; go_must ((with_reducible refine S.out.mono ?_); rintro e w2 ⟨rfl, hb2⟩; have hbn := hbw.trans (hb2.mono hbw.size); dsimp only))
        go_ret
        exact ⟨_, rfl, Lib.hid (by rw [HT.out (by trivial)]; simp), hbn⟩
    · obtain rfl : k = l.length := by omega
      go_wp2
      go_ret
      exact ⟨_, rfl, Lib.hid (by rw [any_not (fun j h => HR.out j h h)]; simp), hbw⟩
set_option maxHeartbeats 1000000 in
theorem DContainsW_any (a : Option Addr) (l : List DeW) (c : Nat) (s : ByteArray) (B : Nat) (w : World) (hl : l.length ≤ 9223372036854775807) (hi : WritersC w a l) (c0 : w.cell? ⟨B, 0, none⟩ = some (.string s)) :
    Calls Try.prog 60 #[.slice a l.length c, .func (.func 61) #[] #[.pointer (some ⟨B, 0, none⟩)]] w fun e w' => e = .returned (.bool (hasS (l.map (·.name)) s)) ∧ Below w.heap.size w w' := by
  have I := Lib.hid (DIndexW_any a l c s B w hl hi c0)
  rw [anyNameW] at I
  go_enter Try.func60, Try.ntmps60
  cases ha : hasS (l.map (·.name)) s
  · go_wp2_with (go_at_call 93; go_must ((with_reducible refine I.out.mono ?_); rintro e w2 ⟨k, rfl, hk, hb2⟩; have hk2 : ¬ 0 ≤ k := of_decide_eq_false (hk.out.trans ha); dsimp only))
    go_ret
    exact ⟨rfl, hb2⟩
  · go_wp2_with (go_at_call 93; go_must ((with_reducible refine I.out.mono ?_); rintro e w2 ⟨k, rfl, hk, hb2⟩; have hk2 : 0 ≤ k := of_decide_eq_true (hk.out.trans ha); dsimp only))
    go_ret
    exact ⟨rfl, hb2⟩

set_option maxHeartbeats 1000000 in
theorem DFailC_any (a : Option Addr) (l : List DeC) (c F most : Nat) (caps : Array Value) (f : Nat → Int) (w : World) (hl : l.length ≤ 9223372036854775807) (hm : most ≤ 5) (hi : CustsC w a l)
    (hCF : ∀ (xs : Array Value) (W : World), (callFunc F xs).run Try.prog W = .ok (.enter F xs) W)
    (hK : ∀ (k : Nat) (h : k < l.length) (W : World), Below w.heap.size w W → Calls Try.prog F (#[.int .i64 (k : Int), .agg #[.string l[k].name, .int .i64 l[k].kind, .int .i64 l[k].lo, .int .i64 l[k].hi, .int .i64 l[k].ship]] ++ caps) W fun e W' => e = .returned (.int .i64 (f k)) ∧ Below W.heap.size W W') :
    Calls Try.prog 62 #[.slice a l.length c, .int .i64 (most : Int), .func (.func F) #[] caps] w fun e w' => e = .returned (.tuple #[.int .i64 (failOf l.length most f).1, .int .i64 (failOf l.length most f).2]) ∧ Below w.heap.size w w' := by
  obtain ⟨r, hr⟩ : ∃ r, r = failOf l.length most f := ⟨_, rfl⟩
  rw [← hr]
  have Hr := Lib.hid hr
  clear hr
  replace hK := Lib.hid hK
  go_enter Try.func62, Try.ntmps62
  by_cases hlm : most < l.length
  · replace Hr := Lib.hid (Hr.out.trans (failOf_long hlm))
    go_wp2
    go_ret2
    have := Hr.out
    subst this
    exact ⟨rfl, Below.refl _ _⟩
  go_wp2
  go_loopw [17] (fun i wr => ∃ k : Nat, k ≤ l.length ∧ i = .int .i64 k ∧ Hid (∀ j, j < k → f j = 0) ∧ Below w.heap.size w wr) (fun i _ => l.length - (intOf i).toNat)
  case atStart => exact ⟨0, Nat.zero_le _, rfl, Lib.hid (fun j h => absurd h (Nat.not_lt_zero j)), Below.refl _ _⟩
  case round =>
    obtain ⟨k, hk, rfl, HZ, hbw⟩ := hrel
    by_cases hlt : k < l.length
    · have K := Lib.hid (fun (W : World) (h : Below w.heap.size w W) => hK.out k hlt W h)
      obtain ⟨b, off, rfl, hb, h1, h2, h3, h4, h5⟩ := (hi.mono hbw) k hlt
      have HE := Lib.hid (fun (h : f k ≠ 0) => Hr.out.trans (failOf_err (by omega) hlt HZ.out h))
      have HN := Lib.hid (fun (h : f k = 0) => show ∀ j, j < k + 1 → f j = 0 from fun j hj => if hjk : j < k then HZ.out j hjk else (by have e : j = k := (by omega); subst e; exact h))
      generalize f k = y at K HE HN
      generalize l[k] = x at K h1 h2 h3 h4 h5
      obtain ⟨name, kind, lo, hi, ship⟩ := x
      simp only at K h1 h2 h3 h4 h5
      by_cases hx : y = 0
      · have hx2 := nei_f hx
        replace HN := Lib.hid (HN.out hx)
        subst hx
        clear HE
        go_wp2_with ((with_reducible refine (K.out _ (hbw.alloc hbw.size _)).mono ?_); rintro e w2 ⟨rfl, hb2⟩; have hbn := (hbw.alloc hbw.size (.cells #[.string name, .int .i64 kind, .int .i64 lo, .int .i64 hi, .int .i64 ship] 55)).trans (hb2.mono (by have := hbw.size; simp; omega)); dsimp only)
        go_roundw
        case rel => exact ⟨k + 1, by omega, by go_num, HN, hbn⟩
        case measure => simp [intOf]; omega
      · have hx2 := nei_t hx
        replace HE := Lib.hid (HE.out hx)
        clear HN hx
        go_wp2_with ((with_reducible refine (K.out _ (hbw.alloc hbw.size _)).mono ?_); rintro e w2 ⟨rfl, hb2⟩; have hbn := (hbw.alloc hbw.size (.cells #[.string name, .int .i64 kind, .int .i64 lo, .int .i64 hi, .int .i64 ship] 55)).trans (hb2.mono (by have := hbw.size; simp; omega)); dsimp only)
        go_ret2
        have := HE.out
        subst this
        exact ⟨rfl, hbn⟩
    · obtain rfl : k = l.length := by omega
      go_wp2
      go_ret2
      have := Hr.out.trans (failOf_ok (by omega) HZ.out)
      subst this
      exact ⟨rfl, hbw⟩

theorem DSameC_any (x : DeC) (s : ByteArray) (B : Nat) (w : World) (c0 : w.cell? ⟨B, 0, none⟩ = some (.string s)) :
    Calls Try.prog 65 #[.agg #[.string x.name, .int .i64 x.kind, .int .i64 x.lo, .int .i64 x.hi, .int .i64 x.ship], .pointer (some ⟨B, 0, none⟩)] w fun e w' => e = .returned (.bool (decide (x.name = s))) ∧ Below w.heap.size w w' := by
  have hB := lt_of_cell c0
  obtain ⟨name, kind, lo, hi, ship⟩ := x
  simp only
  have h2 := str_eq name s
  go_enter Try.func65, Try.ntmps65
  go_wp2
  go_ret
  exact ⟨ret_bool (by first | exact h2 | simp [h2]), by go_grown⟩
theorem anyNameC (l : List DeC) (s : ByteArray) : (l.any fun x => decide (x.name = s)) = hasS (l.map (·.name)) s := by unfold hasS; rw [List.any_map]; rfl
set_option maxHeartbeats 1000000 in
theorem DIndexC_any (a : Option Addr) (l : List DeC) (c : Nat) (s : ByteArray) (B : Nat) (w : World) (hl : l.length ≤ 9223372036854775807) (hi : CustsC w a l) (c0 : w.cell? ⟨B, 0, none⟩ = some (.string s)) :
    Calls Try.prog 94 #[.slice a l.length c, .func (.func 65) #[] #[.pointer (some ⟨B, 0, none⟩)]] w fun e w' => ∃ k : Int, e = .returned (.int .i64 k) ∧ Hid (decide (0 ≤ k) = l.any fun x => decide (x.name = s)) ∧ Below w.heap.size w w' := by
  go_enter Try.func94, Try.ntmps94
  go_wp2
  go_loopw [8] (fun i wr => ∃ k : Nat, k ≤ l.length ∧ i = .int .i64 k ∧ Hid (∀ j (_ : j < k) (h : j < l.length), decide (l[j].name = s) = false) ∧ Below w.heap.size w wr) (fun i _ => l.length - (intOf i).toNat)
  case atStart => exact ⟨0, Nat.zero_le _, rfl, Lib.hid (fun j h => absurd h (Nat.not_lt_zero j)), Below.refl _ _⟩
  case round =>
    obtain ⟨k, hk, rfl, HR, hbw⟩ := hrel
    by_cases hlt : k < l.length
    · obtain ⟨b, off, rfl, hb, h1, h2, h3, h4, h5⟩ := (hi.mono hbw) k hlt
      have S := DSameC_any l[k] s B wr (cell_below hbw c0)
      have HT := Lib.hid (fun (h : decide (l[k].name = s) = true) => (any_lt (f := fun x => decide (x.name = s)) hlt h : l.any (fun x => decide (x.name = s)) = true))
      have HN := Lib.hid (fun (h : decide (l[k].name = s) = false) => show ∀ j (_ : j < k + 1) (h : j < l.length), decide (l[j].name = s) = false from fun j hj hjl => if hjk : j < k then HR.out j hjk hjl else (by have e : j = k := (by omega); subst e; exact h))
      generalize l[k] = x at S h1 h2 h3 h4 h5 HT HN
      generalize decide (x.name = s) = br at S HT HN
      obtain ⟨name, kind, lo, hi, ship⟩ := x
      simp only at S h1 h2 h3 h4 h5
      have S := Lib.hid S
      cases br
      · go_wp2_with (go_at_call 65; go_must ((with_reducible refine S.out.mono ?_); rintro e w2 ⟨rfl, hb2⟩; have hbn := hbw.trans (hb2.mono hbw.size); dsimp only))
        go_roundw
        case rel => exact ⟨k + 1, by omega, by go_num, Lib.hid (HN.out (by trivial)), hbn⟩
        case measure => simp [intOf]; omega
      · go_wp2_with (go_at_call 65; go_must ((with_reducible refine S.out.mono ?_); rintro e w2 ⟨rfl, hb2⟩; have hbn := hbw.trans (hb2.mono hbw.size); dsimp only))
        go_ret
        exact ⟨_, rfl, Lib.hid (by rw [HT.out (by trivial)]; simp), hbn⟩
    · obtain rfl : k = l.length := by omega
      go_wp2
      go_ret
      exact ⟨_, rfl, Lib.hid (by rw [any_not (fun j h => HR.out j h h)]; simp), hbw⟩
set_option maxHeartbeats 1000000 in
theorem DContainsC_any (a : Option Addr) (l : List DeC) (c : Nat) (s : ByteArray) (B : Nat) (w : World) (hl : l.length ≤ 9223372036854775807) (hi : CustsC w a l) (c0 : w.cell? ⟨B, 0, none⟩ = some (.string s)) :
    Calls Try.prog 64 #[.slice a l.length c, .func (.func 65) #[] #[.pointer (some ⟨B, 0, none⟩)]] w fun e w' => e = .returned (.bool (hasS (l.map (·.name)) s)) ∧ Below w.heap.size w w' := by
  have I := Lib.hid (DIndexC_any a l c s B w hl hi c0)
  rw [anyNameC] at I
  go_enter Try.func64, Try.ntmps64
  cases ha : hasS (l.map (·.name)) s
  · go_wp2_with (go_at_call 94; go_must ((with_reducible refine I.out.mono ?_); rintro e w2 ⟨k, rfl, hk, hb2⟩; have hk2 : ¬ 0 ≤ k := of_decide_eq_false (hk.out.trans ha); dsimp only))
    go_ret
    exact ⟨rfl, hb2⟩
  · go_wp2_with (go_at_call 94; go_must ((with_reducible refine I.out.mono ?_); rintro e w2 ⟨k, rfl, hk, hb2⟩; have hk2 : 0 ≤ k := of_decide_eq_true (hk.out.trans ha); dsimp only))
    go_ret
    exact ⟨rfl, hb2⟩

end Go.Proofs.Ytchnpekgmkhacaa
