/- What is proved here: contracts of failing, for each kind of a room's parts. Conditions: the slice lies in memory; a function that answers as a plain one does. -/
import Derived.Test.YtmhbjohpggghgaaSeRep
import Derived.Test.YtmhbjohpggghgaaSeNames
set_option linter.unusedVariables false
set_option linter.unusedSimpArgs false
namespace Go.Proofs.Ytmhbjohpggghgaa
open Go Go.RowKit

theorem LeaksC.mono {w W : World} {a : Option Addr} {l : List SeLeak} (h : LeaksC w a l) (hb : Below w.heap.size w W) : LeaksC W a l := h.keep (.of_below hb)
theorem LettersC.mono {w W : World} {a : Option Addr} {l : List SeLetter} (h : LettersC w a l) (hb : Below w.heap.size w W) : LettersC W a l := h.keep (.of_below hb)
theorem HeardC.mono {w W : World} {a : Option Addr} {l : List SeHeard} (h : HeardC w a l) (hb : Below w.heap.size w W) : HeardC W a l := h.keep (.of_below hb)
def failN (n : Nat) (f : Nat → Int) : Int × Int := match firstErr n f with | some i => ((i : Int), f i) | none => (0, 0)
theorem failN_err {n k : Nat} {f : Nat → Int} (hk : k < n) (h0 : ∀ i, i < k → f i = 0) (hf : f k ≠ 0) : failN n f = ((k : Int), f k) := by
  unfold failN; rw [firstErr_some hk h0 hf]
theorem failN_ok {n : Nat} {f : Nat → Int} (h0 : ∀ i, i < n → f i = 0) : failN n f = (0, 0) := by
  unfold failN; rw [firstErr_none h0]

set_option maxHeartbeats 1000000 in
theorem SFailS_any (a : Option Addr) (l : List ByteArray) (c F : Nat) (caps : Array Value) (f : Nat → Int) (w : World) (hl : l.length ≤ 9223372036854775807) (hi : StrsC w a l)
    (hCF : ∀ (xs : Array Value) (W : World), (callFunc F xs).run Try.prog W = .ok (.enter F xs) W)
    (hK : ∀ (k : Nat) (h : k < l.length) (W : World), Below w.heap.size w W → Calls Try.prog F (#[.int .i64 (k : Int), .string l[k]] ++ caps) W fun e W' => e = .returned (.int .i64 (f k)) ∧ Below W.heap.size W W') :
    Calls Try.prog 54 #[.slice a l.length c, .func (.func F) #[] caps] w fun e w' => e = .returned (.tuple #[.int .i64 (failN l.length f).1, .int .i64 (failN l.length f).2]) ∧ Below w.heap.size w w' := by
  obtain ⟨r, hr⟩ : ∃ r, r = failN l.length f := ⟨_, rfl⟩
  rw [← hr]
  have Hr := Lib.hid hr
  clear hr
  replace hK := Lib.hid hK
  go_enter Try.func54, Try.ntmps54
  go_wp2
  go_loopw [11] (fun i wr => ∃ k : Nat, k ≤ l.length ∧ i = .int .i64 k ∧ Hid (∀ j, j < k → f j = 0) ∧ Below w.heap.size w wr) (fun i _ => l.length - (intOf i).toNat)
  case atStart => exact ⟨0, Nat.zero_le _, rfl, Lib.hid (fun j h => absurd h (Nat.not_lt_zero j)), Below.refl _ _⟩
  case round =>
    obtain ⟨k, hk, rfl, HZ, hbw⟩ := hrel
    by_cases hlt : k < l.length
    · have K := Lib.hid (fun (W : World) (h : Below w.heap.size w W) => hK.out k hlt W h)
      obtain ⟨b, off, rfl, hb, h1⟩ := (hi.mono hbw) k hlt
      have HE := Lib.hid (fun (h : f k ≠ 0) => Hr.out.trans (failN_err hlt HZ.out h))
      have HN := Lib.hid (fun (h : f k = 0) => show ∀ j, j < k + 1 → f j = 0 from fun j hj => if hjk : j < k then HZ.out j hjk else (by have e : j = k := (by omega); subst e; exact h))
      generalize f k = y at K HE HN
      generalize l[k] = x at K h1
      by_cases hx : y = 0
      · have hx2 := nei_f hx
        replace HN := Lib.hid (HN.out hx)
        subst hx
        clear HE
        go_wp2_with ((with_reducible refine (K.out _ hbw).mono ?_); rintro e w2 ⟨rfl, hb2⟩; have hbn := hbw.trans (hb2.mono hbw.size); dsimp only)
        go_roundw
        case rel => exact ⟨k + 1, by omega, by go_num, HN, hbn⟩
        case measure => simp [intOf]; omega
      · have hx2 := nei_t hx
        replace HE := Lib.hid (HE.out hx)
        clear HN hx
        go_wp2_with ((with_reducible refine (K.out _ hbw).mono ?_); rintro e w2 ⟨rfl, hb2⟩; have hbn := hbw.trans (hb2.mono hbw.size); dsimp only)
        go_ret2
        have := HE.out
        subst this
        exact ⟨rfl, hbn⟩
    · obtain rfl : k = l.length := by omega
      go_wp2
      go_ret2
      have := Hr.out.trans (failN_ok HZ.out)
      subst this
      exact ⟨rfl, hbw⟩

set_option maxHeartbeats 1000000 in
theorem SFailI_any (a : Option Addr) (l : List Int) (c F : Nat) (caps : Array Value) (f : Nat → Int) (w : World) (hl : l.length ≤ 9223372036854775807) (hi : IntsC w a l)
    (hCF : ∀ (xs : Array Value) (W : World), (callFunc F xs).run Try.prog W = .ok (.enter F xs) W)
    (hK : ∀ (k : Nat) (h : k < l.length) (W : World), Below w.heap.size w W → Calls Try.prog F (#[.int .i64 (k : Int), .int .i64 l[k]] ++ caps) W fun e W' => e = .returned (.int .i64 (f k)) ∧ Below W.heap.size W W') :
    Calls Try.prog 58 #[.slice a l.length c, .func (.func F) #[] caps] w fun e w' => e = .returned (.tuple #[.int .i64 (failN l.length f).1, .int .i64 (failN l.length f).2]) ∧ Below w.heap.size w w' := by
  obtain ⟨r, hr⟩ : ∃ r, r = failN l.length f := ⟨_, rfl⟩
  rw [← hr]
  have Hr := Lib.hid hr
  clear hr
  replace hK := Lib.hid hK
  go_enter Try.func58, Try.ntmps58
  go_wp2
  go_loopw [11] (fun i wr => ∃ k : Nat, k ≤ l.length ∧ i = .int .i64 k ∧ Hid (∀ j, j < k → f j = 0) ∧ Below w.heap.size w wr) (fun i _ => l.length - (intOf i).toNat)
  case atStart => exact ⟨0, Nat.zero_le _, rfl, Lib.hid (fun j h => absurd h (Nat.not_lt_zero j)), Below.refl _ _⟩
  case round =>
    obtain ⟨k, hk, rfl, HZ, hbw⟩ := hrel
    by_cases hlt : k < l.length
    · have K := Lib.hid (fun (W : World) (h : Below w.heap.size w W) => hK.out k hlt W h)
      obtain ⟨b, off, rfl, hb, h1⟩ := (hi.mono hbw) k hlt
      have HE := Lib.hid (fun (h : f k ≠ 0) => Hr.out.trans (failN_err hlt HZ.out h))
      have HN := Lib.hid (fun (h : f k = 0) => show ∀ j, j < k + 1 → f j = 0 from fun j hj => if hjk : j < k then HZ.out j hjk else (by have e : j = k := (by omega); subst e; exact h))
      generalize f k = y at K HE HN
      generalize l[k] = x at K h1
      by_cases hx : y = 0
      · have hx2 := nei_f hx
        replace HN := Lib.hid (HN.out hx)
        subst hx
        clear HE
        go_wp2_with ((with_reducible refine (K.out _ hbw).mono ?_); rintro e w2 ⟨rfl, hb2⟩; have hbn := hbw.trans (hb2.mono hbw.size); dsimp only)
        go_roundw
        case rel => exact ⟨k + 1, by omega, by go_num, HN, hbn⟩
        case measure => simp [intOf]; omega
      · have hx2 := nei_t hx
        replace HE := Lib.hid (HE.out hx)
        clear HN hx
        go_wp2_with ((with_reducible refine (K.out _ hbw).mono ?_); rintro e w2 ⟨rfl, hb2⟩; have hbn := hbw.trans (hb2.mono hbw.size); dsimp only)
        go_ret2
        have := HE.out
        subst this
        exact ⟨rfl, hbn⟩
    · obtain rfl : k = l.length := by omega
      go_wp2
      go_ret2
      have := Hr.out.trans (failN_ok HZ.out)
      subst this
      exact ⟨rfl, hbw⟩

set_option maxHeartbeats 1000000 in
theorem SFailL_any (a : Option Addr) (l : List SeLeak) (c F : Nat) (caps : Array Value) (f : Nat → Int) (w : World) (hl : l.length ≤ 9223372036854775807) (hi : LeaksC w a l)
    (hCF : ∀ (xs : Array Value) (W : World), (callFunc F xs).run Try.prog W = .ok (.enter F xs) W)
    (hK : ∀ (k : Nat) (h : k < l.length) (W : World), Below w.heap.size w W → Calls Try.prog F (#[.int .i64 (k : Int), .agg #[.int .i64 l[k].src, .int .i64 l[k].dst, .bool l[k].sure]] ++ caps) W fun e W' => e = .returned (.int .i64 (f k)) ∧ Below W.heap.size W W') :
    Calls Try.prog 61 #[.slice a l.length c, .func (.func F) #[] caps] w fun e w' => e = .returned (.tuple #[.int .i64 (failN l.length f).1, .int .i64 (failN l.length f).2]) ∧ Below w.heap.size w w' := by
  obtain ⟨r, hr⟩ : ∃ r, r = failN l.length f := ⟨_, rfl⟩
  rw [← hr]
  have Hr := Lib.hid hr
  clear hr
  replace hK := Lib.hid hK
  go_enter Try.func61, Try.ntmps61
  go_wp2
  go_loopw [11] (fun i wr => ∃ k : Nat, k ≤ l.length ∧ i = .int .i64 k ∧ Hid (∀ j, j < k → f j = 0) ∧ Below w.heap.size w wr) (fun i _ => l.length - (intOf i).toNat)
  case atStart => exact ⟨0, Nat.zero_le _, rfl, Lib.hid (fun j h => absurd h (Nat.not_lt_zero j)), Below.refl _ _⟩
  case round =>
    obtain ⟨k, hk, rfl, HZ, hbw⟩ := hrel
    by_cases hlt : k < l.length
    · have K := Lib.hid (fun (W : World) (h : Below w.heap.size w W) => hK.out k hlt W h)
      obtain ⟨b, off, rfl, hb, h1, h2, h3⟩ := (hi.mono hbw) k hlt
      have HE := Lib.hid (fun (h : f k ≠ 0) => Hr.out.trans (failN_err hlt HZ.out h))
      have HN := Lib.hid (fun (h : f k = 0) => show ∀ j, j < k + 1 → f j = 0 from fun j hj => if hjk : j < k then HZ.out j hjk else (by have e : j = k := (by omega); subst e; exact h))
      generalize f k = y at K HE HN
      generalize l[k] = x at K h1 h2 h3
      obtain ⟨src, dst, sure⟩ := x
      simp only at K h1 h2 h3
      by_cases hx : y = 0
      · have hx2 := nei_f hx
        replace HN := Lib.hid (HN.out hx)
        subst hx
        clear HE
        go_wp2_with ((with_reducible refine (K.out _ (hbw.alloc hbw.size _)).mono ?_); rintro e w2 ⟨rfl, hb2⟩; have hbn := (hbw.alloc hbw.size (.cells #[.int .i64 src, .int .i64 dst, .bool sure] 79)).trans (hb2.mono (by have := hbw.size; simp; omega)); dsimp only)
        go_roundw
        case rel => exact ⟨k + 1, by omega, by go_num, HN, hbn⟩
        case measure => simp [intOf]; omega
      · have hx2 := nei_t hx
        replace HE := Lib.hid (HE.out hx)
        clear HN hx
        go_wp2_with ((with_reducible refine (K.out _ (hbw.alloc hbw.size _)).mono ?_); rintro e w2 ⟨rfl, hb2⟩; have hbn := (hbw.alloc hbw.size (.cells #[.int .i64 src, .int .i64 dst, .bool sure] 79)).trans (hb2.mono (by have := hbw.size; simp; omega)); dsimp only)
        go_ret2
        have := HE.out
        subst this
        exact ⟨rfl, hbn⟩
    · obtain rfl : k = l.length := by omega
      go_wp2
      go_ret2
      have := Hr.out.trans (failN_ok HZ.out)
      subst this
      exact ⟨rfl, hbw⟩

set_option maxHeartbeats 1000000 in
theorem SFailT_any (a : Option Addr) (l : List SeLetter) (c F : Nat) (caps : Array Value) (f : Nat → Int) (w : World) (hl : l.length ≤ 9223372036854775807) (hi : LettersC w a l)
    (hCF : ∀ (xs : Array Value) (W : World), (callFunc F xs).run Try.prog W = .ok (.enter F xs) W)
    (hK : ∀ (k : Nat) (h : k < l.length) (W : World), Below w.heap.size w W → Calls Try.prog F (#[.int .i64 (k : Int), .agg #[.int .i64 l[k].day, .int .i64 l[k].secrets, .int .i64 l[k].writer]] ++ caps) W fun e W' => e = .returned (.int .i64 (f k)) ∧ Below W.heap.size W W') :
    Calls Try.prog 65 #[.slice a l.length c, .func (.func F) #[] caps] w fun e w' => e = .returned (.tuple #[.int .i64 (failN l.length f).1, .int .i64 (failN l.length f).2]) ∧ Below w.heap.size w w' := by
  obtain ⟨r, hr⟩ : ∃ r, r = failN l.length f := ⟨_, rfl⟩
  rw [← hr]
  have Hr := Lib.hid hr
  clear hr
  replace hK := Lib.hid hK
  go_enter Try.func65, Try.ntmps65
  go_wp2
  go_loopw [11] (fun i wr => ∃ k : Nat, k ≤ l.length ∧ i = .int .i64 k ∧ Hid (∀ j, j < k → f j = 0) ∧ Below w.heap.size w wr) (fun i _ => l.length - (intOf i).toNat)
  case atStart => exact ⟨0, Nat.zero_le _, rfl, Lib.hid (fun j h => absurd h (Nat.not_lt_zero j)), Below.refl _ _⟩
  case round =>
    obtain ⟨k, hk, rfl, HZ, hbw⟩ := hrel
    by_cases hlt : k < l.length
    · have K := Lib.hid (fun (W : World) (h : Below w.heap.size w W) => hK.out k hlt W h)
      obtain ⟨b, off, rfl, hb, h1, h2, h3⟩ := (hi.mono hbw) k hlt
      have HE := Lib.hid (fun (h : f k ≠ 0) => Hr.out.trans (failN_err hlt HZ.out h))
      have HN := Lib.hid (fun (h : f k = 0) => show ∀ j, j < k + 1 → f j = 0 from fun j hj => if hjk : j < k then HZ.out j hjk else (by have e : j = k := (by omega); subst e; exact h))
      generalize f k = y at K HE HN
      generalize l[k] = x at K h1 h2 h3
      obtain ⟨day, secrets, writer⟩ := x
      simp only at K h1 h2 h3
      by_cases hx : y = 0
      · have hx2 := nei_f hx
        replace HN := Lib.hid (HN.out hx)
        subst hx
        clear HE
        go_wp2_with ((with_reducible refine (K.out _ (hbw.alloc hbw.size _)).mono ?_); rintro e w2 ⟨rfl, hb2⟩; have hbn := (hbw.alloc hbw.size (.cells #[.int .i64 day, .int .i64 secrets, .int .i64 writer] 68)).trans (hb2.mono (by have := hbw.size; simp; omega)); dsimp only)
        go_roundw
        case rel => exact ⟨k + 1, by omega, by go_num, HN, hbn⟩
        case measure => simp [intOf]; omega
      · have hx2 := nei_t hx
        replace HE := Lib.hid (HE.out hx)
        clear HN hx
        go_wp2_with ((with_reducible refine (K.out _ (hbw.alloc hbw.size _)).mono ?_); rintro e w2 ⟨rfl, hb2⟩; have hbn := (hbw.alloc hbw.size (.cells #[.int .i64 day, .int .i64 secrets, .int .i64 writer] 68)).trans (hb2.mono (by have := hbw.size; simp; omega)); dsimp only)
        go_ret2
        have := HE.out
        subst this
        exact ⟨rfl, hbn⟩
    · obtain rfl : k = l.length := by omega
      go_wp2
      go_ret2
      have := Hr.out.trans (failN_ok HZ.out)
      subst this
      exact ⟨rfl, hbw⟩

set_option maxHeartbeats 1000000 in
theorem SFailH_any (a : Option Addr) (l : List SeHeard) (c F : Nat) (caps : Array Value) (f : Nat → Int) (w : World) (hl : l.length ≤ 9223372036854775807) (hi : HeardC w a l)
    (hCF : ∀ (xs : Array Value) (W : World), (callFunc F xs).run Try.prog W = .ok (.enter F xs) W)
    (hK : ∀ (k : Nat) (h : k < l.length) (W : World), Below w.heap.size w W → Calls Try.prog F (#[.int .i64 (k : Int), .agg #[.int .i64 l[k].writer, .int .i64 l[k].secret, .int .i64 l[k].day, .bool l[k].knew]] ++ caps) W fun e W' => e = .returned (.int .i64 (f k)) ∧ Below W.heap.size W W') :
    Calls Try.prog 69 #[.slice a l.length c, .func (.func F) #[] caps] w fun e w' => e = .returned (.tuple #[.int .i64 (failN l.length f).1, .int .i64 (failN l.length f).2]) ∧ Below w.heap.size w w' := by
  obtain ⟨r, hr⟩ : ∃ r, r = failN l.length f := ⟨_, rfl⟩
  rw [← hr]
  have Hr := Lib.hid hr
  clear hr
  replace hK := Lib.hid hK
  go_enter Try.func69, Try.ntmps69
  go_wp2
  go_loopw [11] (fun i wr => ∃ k : Nat, k ≤ l.length ∧ i = .int .i64 k ∧ Hid (∀ j, j < k → f j = 0) ∧ Below w.heap.size w wr) (fun i _ => l.length - (intOf i).toNat)
  case atStart => exact ⟨0, Nat.zero_le _, rfl, Lib.hid (fun j h => absurd h (Nat.not_lt_zero j)), Below.refl _ _⟩
  case round =>
    obtain ⟨k, hk, rfl, HZ, hbw⟩ := hrel
    by_cases hlt : k < l.length
    · have K := Lib.hid (fun (W : World) (h : Below w.heap.size w W) => hK.out k hlt W h)
      obtain ⟨b, off, rfl, hb, h1, h2, h3, h4⟩ := (hi.mono hbw) k hlt
      have HE := Lib.hid (fun (h : f k ≠ 0) => Hr.out.trans (failN_err hlt HZ.out h))
      have HN := Lib.hid (fun (h : f k = 0) => show ∀ j, j < k + 1 → f j = 0 from fun j hj => if hjk : j < k then HZ.out j hjk else (by have e : j = k := (by omega); subst e; exact h))
      generalize f k = y at K HE HN
      generalize l[k] = x at K h1 h2 h3 h4
      obtain ⟨writer, secret, day, knew⟩ := x
      simp only at K h1 h2 h3 h4
      by_cases hx : y = 0
      · have hx2 := nei_f hx
        replace HN := Lib.hid (HN.out hx)
        subst hx
        clear HE
        go_wp2_with ((with_reducible refine (K.out _ (hbw.alloc hbw.size _)).mono ?_); rintro e w2 ⟨rfl, hb2⟩; have hbn := (hbw.alloc hbw.size (.cells #[.int .i64 writer, .int .i64 secret, .int .i64 day, .bool knew] 74)).trans (hb2.mono (by have := hbw.size; simp; omega)); dsimp only)
        go_roundw
        case rel => exact ⟨k + 1, by omega, by go_num, HN, hbn⟩
        case measure => simp [intOf]; omega
      · have hx2 := nei_t hx
        replace HE := Lib.hid (HE.out hx)
        clear HN hx
        go_wp2_with ((with_reducible refine (K.out _ (hbw.alloc hbw.size _)).mono ?_); rintro e w2 ⟨rfl, hb2⟩; have hbn := (hbw.alloc hbw.size (.cells #[.int .i64 writer, .int .i64 secret, .int .i64 day, .bool knew] 74)).trans (hb2.mono (by have := hbw.size; simp; omega)); dsimp only)
        go_ret2
        have := HE.out
        subst this
        exact ⟨rfl, hbn⟩
    · obtain rfl : k = l.length := by omega
      go_wp2
      go_ret2
      have := Hr.out.trans (failN_ok HZ.out)
      subst this
      exact ⟨rfl, hbw⟩
end Go.Proofs.Ytmhbjohpggghgaa
