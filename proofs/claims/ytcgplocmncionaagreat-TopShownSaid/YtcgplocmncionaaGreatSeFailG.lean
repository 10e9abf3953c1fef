/- What is proved here: contracts of failing, for each kind of a room's parts. Conditions: the slice lies in memory; a function that answers as a plain one does. -/
/- What is proved here: contracts of the searches for an equal leak, for another letter of a writer on a day. Conditions: slices lie in memory. -/
import Derived.Test.YtcgplocmncionaaGreatSeMemG
import Derived.Test.YtcgplocmncionaaGreatSeNames
set_option linter.unusedVariables false
set_option linter.unusedSimpArgs false
namespace Go.Proofs.YtcgplocmncionaaGreat
open Go Go.RowKit

theorem LeaksC.mono {w W : World} {a : Option Addr} {l : List SeLeak} (h : LeaksC w a l) (hb : Below w.heap.size w W) : LeaksC W a l := h.keep (.of_below hb)
theorem LettersC.mono {w W : World} {a : Option Addr} {l : List SeLetter} (h : LettersC w a l) (hb : Below w.heap.size w W) : LettersC W a l := h.keep (.of_below hb)
theorem HeardC.mono {w W : World} {a : Option Addr} {l : List SeHeard} (h : HeardC w a l) (hb : Below w.heap.size w W) : HeardC W a l := h.keep (.of_below hb)
def failN (n : Nat) (f : Nat → Int) : Int × Int := match firstErr n f with | some i => ((i : Int), f i) | none => (0, 0)
theorem failN_err {n k : Nat} {f : Nat → Int} (hk : k < n) (h0 : ∀ i, i < k → f i = 0) (hf : f k ≠ 0) : failN n f = ((k : Int), f k) := by
  unfold failN; rw [firstErr_some hk h0 hf]
theorem failN_ok {n : Nat} {f : Nat → Int} (h0 : ∀ i, i < n → f i = 0) : failN n f = (0, 0) := by
  unfold failN; rw [firstErr_none h0]

set_option maxHeartbeats 1000000 in
theorem SFailS_any (a : Option Addr) (l : List ByteArray) (c F : Nat) (caps : Array Value) (f : Nat → Int) (w : World) (hl : l.length ≤ 9223372036854775807) (hi : StrsC w a l)
    (hCF : ∀ (xs : Array Value) (W : World), (callFunc F xs).run Tryz.prog W = .ok (.enter F xs) W)
    (hK : ∀ (k : Nat) (h : k < l.length) (W : World), Below w.heap.size w W → Calls Tryz.prog F (#[.int .i64 (k : Int), .string l[k]] ++ caps) W fun e W' => e = .returned (.int .i64 (f k)) ∧ Below W.heap.size W W') :
    Calls Tryz.prog 81 #[.slice a l.length c, .func (.func F) #[] caps] w fun e w' => e = .returned (.tuple #[.int .i64 (failN l.length f).1, .int .i64 (failN l.length f).2]) ∧ Below w.heap.size w w' := by
  obtain ⟨r, hr⟩ : ∃ r, r = failN l.length f := ⟨_, rfl⟩
  rw [← hr]
  have Hr := Lib.hid hr
  clear hr
  replace hK := Lib.hid hK
  go_enter Tryz.func81, Tryz.ntmps81
  go_wp2
  go_loopw [11] (fun i wr => ∃ k : Nat, k ≤ l.length ∧ i = .int .i64 k ∧ Hid (∀ j, j < k → f j = 0) ∧ Below w.heap.size w wr) (fun i _ => l.length - (intOf i).toNat)
  case atStart => exact ⟨0, Nat.zero_le _, rfl, Lib.hid (fun j h => absurd h (Nat.not_lt_zero j)), Below.refl _ _⟩
  case round =>
    obtain ⟨k, hk, rfl, HZ, hbw⟩ := hrel
    by_cases hlt : k < l.length
    · have K := Lib.hid (fun (W : World) (h : Below w.heap.size w W) => hK.out k hlt W h)
      obtain ⟨b, off, rfl, hb, h1⟩ := (hi.mono hbw) k hlt
      have HE := Lib.hid (fun (h : f k ≠ 0) => Hr.out.trans (failN_err hlt HZ.out h))
      have HN := Lib.hid (fun (h : f k = 0) => show ∀ j, j < k + 1 → f j = 0 from fun j hj => if hjk : j < k then HZ.out j hjk else (by have e : j = k := (by omega); subst e; exact h))
      generalize f k = y at K HE HN
      generalize l[k] = x at K h1
      by_cases hx : y = 0
      · have hx2 := nei_f hx
        replace HN := Lib.hid (HN.out hx)
        subst hx
        clear HE
        go_wp2_with ((with_reducible refine (K.out _ hbw).mono ?_); rintro e w2 ⟨rfl, hb2⟩; have hbn := hbw.trans (hb2.mono hbw.size); dsimp only)
        go_roundw
        case rel => exact ⟨k + 1, by omega, by go_num, HN, hbn⟩
        case measure => simp [intOf]; omega
      · have hx2 := nei_t hx
        replace HE := Lib.hid (HE.out hx)
        clear HN hx
        go_wp2_with ((with_reducible refine (K.out _ hbw).mono ?_); rintro e w2 ⟨rfl, hb2⟩; have hbn := hbw.trans (hb2.mono hbw.size); dsimp only)
        go_ret2
        have := HE.out
        subst this
        exact ⟨rfl, hbn⟩
    · obtain rfl : k = l.length := by omega
      go_wp2
      go_ret2
      have := Hr.out.trans (failN_ok HZ.out)
      subst this
      exact ⟨rfl, hbw⟩

set_option maxHeartbeats 1000000 in
theorem SFailI_any (a : Option Addr) (l : List Int) (c F : Nat) (caps : Array Value) (f : Nat → Int) (w : World) (hl : l.length ≤ 9223372036854775807) (hi : IntsC w a l)
    (hCF : ∀ (xs : Array Value) (W : World), (callFunc F xs).run Tryz.prog W = .ok (.enter F xs) W)
    (hK : ∀ (k : Nat) (h : k < l.length) (W : World), Below w.heap.size w W → Calls Tryz.prog F (#[.int .i64 (k : Int), .int .i64 l[k]] ++ caps) W fun e W' => e = .returned (.int .i64 (f k)) ∧ Below W.heap.size W W') :
    Calls Tryz.prog 85 #[.slice a l.length c, .func (.func F) #[] caps] w fun e w' => e = .returned (.tuple #[.int .i64 (failN l.length f).1, .int .i64 (failN l.length f).2]) ∧ Below w.heap.size w w' := by
  obtain ⟨r, hr⟩ : ∃ r, r = failN l.length f := ⟨_, rfl⟩
  rw [← hr]
  have Hr := Lib.hid hr
  clear hr
  replace hK := Lib.hid hK
  go_enter Tryz.func85, Tryz.ntmps85
  go_wp2
  go_loopw [11] (fun i wr => ∃ k : Nat, k ≤ l.length ∧ i = .int .i64 k ∧ Hid (∀ j, j < k → f j = 0) ∧ Below w.heap.size w wr) (fun i _ => l.length - (intOf i).toNat)
  case atStart => exact ⟨0, Nat.zero_le _, rfl, Lib.hid (fun j h => absurd h (Nat.not_lt_zero j)), Below.refl _ _⟩
  case round =>
    obtain ⟨k, hk, rfl, HZ, hbw⟩ := hrel
    by_cases hlt : k < l.length
    · have K := Lib.hid (fun (W : World) (h : Below w.heap.size w W) => hK.out k hlt W h)
      obtain ⟨b, off, rfl, hb, h1⟩ := (hi.mono hbw) k hlt
      have HE := Lib.hid (fun (h : f k ≠ 0) => Hr.out.trans (failN_err hlt HZ.out h))
      have HN := Lib.hid (fun (h : f k = 0) => show ∀ j, j < k + 1 → f j = 0 from fun j hj => if hjk : j < k then HZ.out j hjk else (by have e : j = k := (by omega); subst e; exact h))
      generalize f k = y at K HE HN
      generalize l[k] = x at K h1
      by_cases hx : y = 0
      · have hx2 := nei_f hx
        replace HN := Lib.hid (HN.out hx)
        subst hx
        clear HE
        go_wp2_with ((with_reducible refine (K.out _ hbw).mono ?_); rintro e w2 ⟨rfl, hb2⟩; have hbn := hbw.trans (hb2.mono hbw.size); dsimp only)
        go_roundw
        case rel => exact ⟨k + 1, by omega, by go_num, HN, hbn⟩
        case measure => simp [intOf]; omega
      · have hx2 := nei_t hx
        replace HE := Lib.hid (HE.out hx)
        clear HN hx
        go_wp2_with ((with_reducible refine (K.out _ hbw).mono ?_); rintro e w2 ⟨rfl, hb2⟩; have hbn := hbw.trans (hb2.mono hbw.size); dsimp only)
        go_ret2
        have := HE.out
        subst this
        exact ⟨rfl, hbn⟩
    · obtain rfl : k = l.length := by omega
      go_wp2
      go_ret2
      have := Hr.out.trans (failN_ok HZ.out)
      subst this
      exact ⟨rfl, hbw⟩

set_option maxHeartbeats 1000000 in
theorem SFailL_any (a : Option Addr) (l : List SeLeak) (c F : Nat) (caps : Array Value) (f : Nat → Int) (w : World) (hl : l.length ≤ 9223372036854775807) (hi : LeaksC w a l)
    (hCF : ∀ (xs : Array Value) (W : World), (callFunc F xs).run Tryz.prog W = .ok (.enter F xs) W)
    (hK : ∀ (k : Nat) (h : k < l.length) (W : World), Below w.heap.size w W → Calls Tryz.prog F (#[.int .i64 (k : Int), .agg #[.int .i64 l[k].src, .int .i64 l[k].dst, .bool l[k].sure]] ++ caps) W fun e W' => e = .returned (.int .i64 (f k)) ∧ Below W.heap.size W W') :
    Calls Tryz.prog 87 #[.slice a l.length c, .func (.func F) #[] caps] w fun e w' => e = .returned (.tuple #[.int .i64 (failN l.length f).1, .int .i64 (failN l.length f).2]) ∧ Below w.heap.size w w' := by
  obtain ⟨r, hr⟩ : ∃ r, r = failN l.length f := ⟨_, rfl⟩
  rw [← hr]
  have Hr := Lib.hid hr
  clear hr
  replace hK := Lib.hid hK
  go_enter Tryz.func87, Tryz.ntmps87
  go_wp2
  go_loopw [11] (fun i wr => ∃ k : Nat, k ≤ l.length ∧ i = .int .i64 k ∧ Hid (∀ j, j < k → f j = 0) ∧ Below w.heap.size w wr) (fun i _ => l.length - (intOf i).toNat)
  case atStart => exact ⟨0, Nat.zero_le _, rfl, Lib.hid (fun j h => absurd h (Nat.not_lt_zero j)), Below.refl _ _⟩
  case round =>
    obtain ⟨k, hk, rfl, HZ, hbw⟩ := hrel
    by_cases hlt : k < l.length
    · have K := Lib.hid (fun (W : World) (h : Below w.heap.size w W) => hK.out k hlt W h)
      obtain ⟨b, off, rfl, hb, h1, h2, h3⟩ := (hi.mono hbw) k hlt
      have HE := Lib.hid (fun (h : f k ≠ 0) => Hr.out.trans (failN_err hlt HZ.out h))
      have HN := Lib.hid (fun (h : f k = 0) => show ∀ j, j < k + 1 → f j = 0 from fun j hj => if hjk : j < k then HZ.out j hjk else (by have e : j = k := (by omega); subst e; exact h))
      generalize f k = y at K HE HN
      generalize l[k] = x at K h1 h2 h3
      obtain ⟨src, dst, sure⟩ := x
      simp only at K h1 h2 h3
      by_cases hx : y = 0
      · have hx2 := nei_f hx
        replace HN := Lib.hid (HN.out hx)
        subst hx
        clear HE
        go_wp2_with ((with_reducible refine (K.out _ (hbw.alloc hbw.size _)).mono ?_); rintro e w2 ⟨rfl, hb2⟩; have hbn := (hbw.alloc hbw.size (.cells #[.int .i64 src, .int .i64 dst, .bool sure] 37)).trans (hb2.mono (by have := hbw.size; simp; omega)); dsimp only)
        go_roundw
        case rel => exact ⟨k + 1, by omega, by go_num, HN, hbn⟩
        case measure => simp [intOf]; omega
      · have hx2 := nei_t hx
        replace HE := Lib.hid (HE.out hx)
        clear HN hx
        go_wp2_with ((with_reducible refine (K.out _ (hbw.alloc hbw.size _)).mono ?_); rintro e w2 ⟨rfl, hb2⟩; have hbn := (hbw.alloc hbw.size (.cells #[.int .i64 src, .int .i64 dst, .bool sure] 37)).trans (hb2.mono (by have := hbw.size; simp; omega)); dsimp only)
        go_ret2
        have := HE.out
        subst this
        exact ⟨rfl, hbn⟩
    · obtain rfl : k = l.length := by omega
      go_wp2
      go_ret2
      have := Hr.out.trans (failN_ok HZ.out)
      subst this
      exact ⟨rfl, hbw⟩

set_option maxHeartbeats 1000000 in
theorem SFailT_any (a : Option Addr) (l : List SeLetter) (c F : Nat) (caps : Array Value) (f : Nat → Int) (w : World) (hl : l.length ≤ 9223372036854775807) (hi : LettersC w a l)
    (hCF : ∀ (xs : Array Value) (W : World), (callFunc F xs).run Tryz.prog W = .ok (.enter F xs) W)
    (hK : ∀ (k : Nat) (h : k < l.length) (W : World), Below w.heap.size w W → Calls Tryz.prog F (#[.int .i64 (k : Int), .agg #[.int .i64 l[k].day, .int .i64 l[k].secrets, .int .i64 l[k].writer]] ++ caps) W fun e W' => e = .returned (.int .i64 (f k)) ∧ Below W.heap.size W W') :
    Calls Tryz.prog 91 #[.slice a l.length c, .func (.func F) #[] caps] w fun e w' => e = .returned (.tuple #[.int .i64 (failN l.length f).1, .int .i64 (failN l.length f).2]) ∧ Below w.heap.size w w' := by
  obtain ⟨r, hr⟩ : ∃ r, r = failN l.length f := ⟨_, rfl⟩
  rw [← hr]
  have Hr := Lib.hid hr
  clear hr
  replace hK := Lib.hid hK
  go_enter Tryz.func91, Tryz.ntmps91
  go_wp2
  go_loopw [11] (fun i wr => ∃ k : Nat, k ≤ l.length ∧ i = .int .i64 k ∧ Hid (∀ j, j < k → f j = 0) ∧ Below w.heap.size w wr) (fun i _ => l.length - (intOf i).toNat)
  case atStart => exact ⟨0, Nat.zero_le _, rfl, Lib.hid (fun j h => absurd h (Nat.not_lt_zero j)), Below.refl _ _⟩
  case round =>
    obtain ⟨k, hk, rfl, HZ, hbw⟩ := hrel
    by_cases hlt : k < l.length
    · have K := Lib.hid (fun (W : World) (h : Below w.heap.size w W) => hK.out k hlt W h)
      obtain ⟨b, off, rfl, hb, h1, h2, h3⟩ := (hi.mono hbw) k hlt
      have HE := Lib.hid (fun (h : f k ≠ 0) => Hr.out.trans (failN_err hlt HZ.out h))
      have HN := Lib.hid (fun (h : f k = 0) => show ∀ j, j < k + 1 → f j = 0 from fun j hj => if hjk : j < k then HZ.out j hjk else (by have e : j = k := (by omega); subst e; exact h))
      generalize f k = y at K HE HN
      generalize l[k] = x at K h1 h2 h3
      obtain ⟨day, secrets, writer⟩ := x
      simp only at K h1 h2 h3
      by_cases hx : y = 0
      · have hx2 := nei_f hx
        replace HN := Lib.hid (HN.out hx)
        subst hx
        clear HE
        go_wp2_with ((with_reducible refine (K.out _ (hbw.alloc hbw.size _)).mono ?_); rintro e w2 ⟨rfl, hb2⟩; have hbn := (hbw.alloc hbw.size (.cells #[.int .i64 day, .int .i64 secrets, .int .i64 writer] 43)).trans (hb2.mono (by have := hbw.size; simp; omega)); dsimp only)
        go_roundw
        case rel => exact ⟨k + 1, by omega, by go_num, HN, hbn⟩
        case measure => simp [intOf]; omega
      · have hx2 := nei_t hx
        replace HE := Lib.hid (HE.out hx)
        clear HN hx
        go_wp2_with ((with_reducible refine (K.out _ (hbw.alloc hbw.size _)).mono ?_); rintro e w2 ⟨rfl, hb2⟩; have hbn := (hbw.alloc hbw.size (.cells #[.int .i64 day, .int .i64 secrets, .int .i64 writer] 43)).trans (hb2.mono (by have := hbw.size; simp; omega)); dsimp only)
        go_ret2
        have := HE.out
        subst this
        exact ⟨rfl, hbn⟩
    · obtain rfl : k = l.length := by omega
      go_wp2
      go_ret2
      have := Hr.out.trans (failN_ok HZ.out)
      subst this
      exact ⟨rfl, hbw⟩

set_option maxHeartbeats 1000000 in
theorem SFailH_any (a : Option Addr) (l : List SeHeard) (c F : Nat) (caps : Array Value) (f : Nat → Int) (w : World) (hl : l.length ≤ 9223372036854775807) (hi : HeardC w a l)
    (hCF : ∀ (xs : Array Value) (W : World), (callFunc F xs).run Tryz.prog W = .ok (.enter F xs) W)
    (hK : ∀ (k : Nat) (h : k < l.length) (W : World), Below w.heap.size w W → Calls Tryz.prog F (#[.int .i64 (k : Int), .agg #[.int .i64 l[k].writer, .int .i64 l[k].secret, .int .i64 l[k].day, .bool l[k].knew]] ++ caps) W fun e W' => e = .returned (.int .i64 (f k)) ∧ Below W.heap.size W W') :
    Calls Tryz.prog 95 #[.slice a l.length c, .func (.func F) #[] caps] w fun e w' => e = .returned (.tuple #[.int .i64 (failN l.length f).1, .int .i64 (failN l.length f).2]) ∧ Below w.heap.size w w' := by
  obtain ⟨r, hr⟩ : ∃ r, r = failN l.length f := ⟨_, rfl⟩
  rw [← hr]
  have Hr := Lib.hid hr
  clear hr
  replace hK := Lib.hid hK
  go_enter Tryz.func95, Tryz.ntmps95
  go_wp2
  go_loopw [11] (fun i wr => ∃ k : Nat, k ≤ l.length ∧ i = .int .i64 k ∧ Hid (∀ j, j < k → f j = 0) ∧ Below w.heap.size w wr) (fun i _ => l.length - (intOf i).toNat)
  case atStart => exact ⟨0, Nat.zero_le _, rfl, Lib.hid (fun j h => absurd h (Nat.not_lt_zero j)), Below.refl _ _⟩
  case round =>
    obtain ⟨k, hk, rfl, HZ, hbw⟩ := hrel
    by_cases hlt : k < l.length
    · have K := Lib.hid (fun (W : World) (h : Below w.heap.size w W) => hK.out k hlt W h)
      obtain ⟨b, off, rfl, hb, h1, h2, h3, h4⟩ := (hi.mono hbw) k hlt
      have HE := Lib.hid (fun (h : f k ≠ 0) => Hr.out.trans (failN_err hlt HZ.out h))
      have HN := Lib.hid (fun (h : f k = 0) => show ∀ j, j < k + 1 → f j = 0 from fun j hj => if hjk : j < k then HZ.out j hjk else (by have e : j = k := (by omega); subst e; exact h))
      generalize f k = y at K HE HN
      generalize l[k] = x at K h1 h2 h3 h4
      obtain ⟨writer, secret, day, knew⟩ := x
      simp only at K h1 h2 h3 h4
      by_cases hx : y = 0
      · have hx2 := nei_f hx
        replace HN := Lib.hid (HN.out hx)
        subst hx
        clear HE
        go_wp2_with ((with_reducible refine (K.out _ (hbw.alloc hbw.size _)).mono ?_); rintro e w2 ⟨rfl, hb2⟩; have hbn := (hbw.alloc hbw.size (.cells #[.int .i64 writer, .int .i64 secret, .int .i64 day, .bool knew] 58)).trans (hb2.mono (by have := hbw.size; simp; omega)); dsimp only)
        go_roundw
        case rel => exact ⟨k + 1, by omega, by go_num, HN, hbn⟩
        case measure => simp [intOf]; omega
      · have hx2 := nei_t hx
        replace HE := Lib.hid (HE.out hx)
        clear HN hx
        go_wp2_with ((with_reducible refine (K.out _ (hbw.alloc hbw.size _)).mono ?_); rintro e w2 ⟨rfl, hb2⟩; have hbn := (hbw.alloc hbw.size (.cells #[.int .i64 writer, .int .i64 secret, .int .i64 day, .bool knew] 58)).trans (hb2.mono (by have := hbw.size; simp; omega)); dsimp only)
        go_ret2
        have := HE.out
        subst this
        exact ⟨rfl, hbn⟩
    · obtain rfl : k = l.length := by omega
      go_wp2
      go_ret2
      have := Hr.out.trans (failN_ok HZ.out)
      subst this
      exact ⟨rfl, hbw⟩
end Go.Proofs.YtcgplocmncionaaGreat
namespace Go.Proofs.YtcgplocmncionaaGreat
open Go Go.RowKit

set_option maxHeartbeats 1000000 in
theorem SSameL_any (y : SeLeak) (a b : Int) (p : Nat) (w : World) (h0 : w.cell? ⟨p, 0, none⟩ = some (.int .i64 a)) (h1 : w.cell? ⟨p, 1, none⟩ = some (.int .i64 b)) :
    Calls Tryz.prog 90 #[.agg #[.int .i64 y.src, .int .i64 y.dst, .bool y.sure], .pointer (some ⟨p, 0, none⟩)] w fun e w' => e = .returned (.bool (decide (y.src = a) && decide (y.dst = b))) ∧ Below w.heap.size w w' := by
  obtain ⟨ys, yd, yb⟩ := y
  simp only
  have hp := lt_of_cell h0
  by_cases he : ys = a
  · have e2 := eqi_t he
    by_cases he3 : yd = b
    all_goals
      first | have e3 := eqi_t he3 | have e3 := eqi_f he3
      go_enter Tryz.func90, Tryz.ntmps90
      go_wp2
      go_ret
      exact ⟨ret_bool (by simp [he, he3]), by go_grown⟩
  · have e2 := eqi_f he
    go_enter Tryz.func90, Tryz.ntmps90
    go_wp2
    go_ret
    exact ⟨ret_bool (by simp [he]), by go_grown⟩
theorem LeaksC.take {w : World} {a : Option Addr} {l : List SeLeak} (h : LeaksC w a l) (k : Nat) : LeaksC w a (l.take k) := fun i hi => by
  have hi' : i < l.length := by simp at hi; omega
  obtain ⟨b, off, e, hlt, h1, h2, h3⟩ := h i hi'
  exact ⟨b, off, e, hlt, by rw [h1]; simp, by rw [h2]; simp, by rw [h3]; simp⟩
set_option maxHeartbeats 1000000 in
theorem SIndexL_any (ad : Option Addr) (l : List SeLeak) (c : Nat) (a b : Int) (p : Nat) (w : World) (hl : l.length ≤ 9223372036854775807) (hi' : LeaksC w ad l) (h0 : w.cell? ⟨p, 0, none⟩ = some (.int .i64 a)) (h1 : w.cell? ⟨p, 1, none⟩ = some (.int .i64 b)) :
    Calls Tryz.prog 110 #[.slice ad l.length c, .func (.func 90) #[] #[.pointer (some ⟨p, 0, none⟩)]] w fun e w' => ∃ k : Int, e = .returned (.int .i64 k) ∧ Hid (decide (0 ≤ k) = l.any fun y => decide (y.src = a) && decide (y.dst = b)) ∧ Below w.heap.size w w' := by
  obtain ⟨so, hso⟩ : ∃ so : SeLeak → Bool, so = fun y => decide (y.src = a) && decide (y.dst = b) := ⟨_, rfl⟩
  have HS : ∀ (y : SeLeak) (W : World), Below w.heap.size w W → Calls Tryz.prog 90 #[.agg #[.int .i64 y.src, .int .i64 y.dst, .bool y.sure], .pointer (some ⟨p, 0, none⟩)] W fun e w' => e = .returned (.bool (so y)) ∧ Below W.heap.size W w' := fun y W h => by
    rw [hso]; exact SSameL_any y a b p W (cell_below h h0) (cell_below h h1)
  rw [← hso]
  clear hso h0 h1
  have HS := Lib.hid HS
  go_enter Tryz.func110, Tryz.ntmps110
  go_wp2
  go_loopw [8] (fun i wr => ∃ k : Nat, k ≤ l.length ∧ i = .int .i64 k ∧ Hid (∀ j (_ : j < k) (h : j < l.length), so l[j] = false) ∧ Below w.heap.size w wr) (fun i _ => l.length - (intOf i).toNat)
  case atStart => exact ⟨0, Nat.zero_le _, rfl, Lib.hid (fun j h => absurd h (Nat.not_lt_zero j)), Below.refl _ _⟩
  case round =>
    obtain ⟨k, hk, rfl, HR, hbw⟩ := hrel
    by_cases hlt : k < l.length
    · obtain ⟨bb, off, rfl, hb, hx1, hx2, hx3⟩ := hi'.mono hbw k hlt
      have B := HS.out l[k] wr hbw
      have HT := Lib.hid (fun (h : so l[k] = true) => (any_lt hlt h : l.any so = true))
      have HN := Lib.hid (fun (h : so l[k] = false) => show ∀ j (_ : j < k + 1) (h : j < l.length), so l[j] = false from fun j hj hjl => if hjk : j < k then HR.out j hjk hjl else (by have e : j = k := (by omega); subst e; exact h))
      generalize so l[k] = br at B HT HN
      generalize l[k] = y at B hx1 hx2 hx3
      obtain ⟨ys, yd, yb⟩ := y
      simp only at B hx1 hx2 hx3
      have B := Lib.hid B
      cases br
      · go_wp2_with (go_at_call 90; go_must (refine B.out.mono ?_; rintro e w2 ⟨rfl, hb2⟩; dsimp only))
        go_roundw
        case rel => exact ⟨k + 1, by omega, by go_num, Lib.hid (HN.out (by trivial)), hbw.trans (hb2.mono hbw.size)⟩
        case measure => simp [intOf]; omega
      · go_wp2_with (go_at_call 90; go_must (refine B.out.mono ?_; rintro e w2 ⟨rfl, hb2⟩; dsimp only))
        go_ret
        exact ⟨_, rfl, Lib.hid (by rw [HT.out (by trivial)]; simp), hbw.trans (hb2.mono hbw.size)⟩
    · obtain rfl : k = l.length := by omega
      go_wp2
      go_ret
      exact ⟨_, rfl, Lib.hid (by rw [any_not (f := so) (fun j h => HR.out j h h)]; simp), hbw⟩
set_option maxHeartbeats 1000000 in
theorem SContainsL_any (ad : Option Addr) (l : List SeLeak) (c : Nat) (a b : Int) (p : Nat) (w : World) (hl : l.length ≤ 9223372036854775807) (hi' : LeaksC w ad l) (h0 : w.cell? ⟨p, 0, none⟩ = some (.int .i64 a)) (h1 : w.cell? ⟨p, 1, none⟩ = some (.int .i64 b)) :
    Calls Tryz.prog 89 #[.slice ad l.length c, .func (.func 90) #[] #[.pointer (some ⟨p, 0, none⟩)]] w fun e w' => e = .returned (.bool (l.any fun y => decide (y.src = a) && decide (y.dst = b))) ∧ Below w.heap.size w w' := by
  have I := Lib.hid (SIndexL_any ad l c a b p w hl hi' h0 h1)
  obtain ⟨r, hr⟩ : ∃ r, r = l.any fun y => decide (y.src = a) && decide (y.dst = b) := ⟨_, rfl⟩
  rw [← hr] at I ⊢
  clear hr
  go_enter Tryz.func89, Tryz.ntmps89
  cases r
  · go_wp2_with (go_at_call 110; go_must (refine I.out.mono ?_; rintro e w2 ⟨k, rfl, hk, hb2⟩; have hk2 : ¬ 0 ≤ k := of_decide_eq_false hk.out; dsimp only))
    go_ret
    exact ⟨rfl, hb2⟩
  · go_wp2_with (go_at_call 110; go_must (refine I.out.mono ?_; rintro e w2 ⟨k, rfl, hk, hb2⟩; have hk2 : 0 ≤ k := of_decide_eq_true hk.out; dsimp only))
    go_ret
    exact ⟨rfl, hb2⟩

set_option maxHeartbeats 1000000 in
theorem SSameT_any (y : SeLetter) (a b : Int) (p : Nat) (w : World) (h0 : w.cell? ⟨p, 2, none⟩ = some (.int .i64 a)) (h1 : w.cell? ⟨p, 0, none⟩ = some (.int .i64 b)) :
    Calls Tryz.prog 94 #[.agg #[.int .i64 y.day, .int .i64 y.secrets, .int .i64 y.writer], .pointer (some ⟨p, 0, none⟩)] w fun e w' => e = .returned (.bool (decide (y.writer = a) && decide (y.day = b))) ∧ Below w.heap.size w w' := by
  obtain ⟨yd, yc, ys⟩ := y
  simp only
  have hp := lt_of_cell h0
  by_cases he : ys = a
  · have e2 := eqi_t he
    by_cases he3 : yd = b
    all_goals
      first | have e3 := eqi_t he3 | have e3 := eqi_f he3
      go_enter Tryz.func94, Tryz.ntmps94
      go_wp2
      go_ret
      exact ⟨ret_bool (by simp [he, he3]), by go_grown⟩
  · have e2 := eqi_f he
    go_enter Tryz.func94, Tryz.ntmps94
    go_wp2
    go_ret
    exact ⟨ret_bool (by simp [he]), by go_grown⟩
theorem LettersC.take {w : World} {a : Option Addr} {l : List SeLetter} (h : LettersC w a l) (k : Nat) : LettersC w a (l.take k) := fun i hi => by
  have hi' : i < l.length := by simp at hi; omega
  obtain ⟨b, off, e, hlt, h1, h2, h3⟩ := h i hi'
  exact ⟨b, off, e, hlt, by rw [h1]; simp, by rw [h2]; simp, by rw [h3]; simp⟩
set_option maxHeartbeats 1000000 in
theorem SIndexT_any (ad : Option Addr) (l : List SeLetter) (c : Nat) (a b : Int) (p : Nat) (w : World) (hl : l.length ≤ 9223372036854775807) (hi' : LettersC w ad l) (h0 : w.cell? ⟨p, 2, none⟩ = some (.int .i64 a)) (h1 : w.cell? ⟨p, 0, none⟩ = some (.int .i64 b)) :
    Calls Tryz.prog 111 #[.slice ad l.length c, .func (.func 94) #[] #[.pointer (some ⟨p, 0, none⟩)]] w fun e w' => ∃ k : Int, e = .returned (.int .i64 k) ∧ Hid (decide (0 ≤ k) = l.any fun y => decide (y.writer = a) && decide (y.day = b)) ∧ Below w.heap.size w w' := by
  obtain ⟨so, hso⟩ : ∃ so : SeLetter → Bool, so = fun y => decide (y.writer = a) && decide (y.day = b) := ⟨_, rfl⟩
  have HS : ∀ (y : SeLetter) (W : World), Below w.heap.size w W → Calls Tryz.prog 94 #[.agg #[.int .i64 y.day, .int .i64 y.secrets, .int .i64 y.writer], .pointer (some ⟨p, 0, none⟩)] W fun e w' => e = .returned (.bool (so y)) ∧ Below W.heap.size W w' := fun y W h => by
    rw [hso]; exact SSameT_any y a b p W (cell_below h h0) (cell_below h h1)
  rw [← hso]
  clear hso h0 h1
  have HS := Lib.hid HS
  go_enter Tryz.func111, Tryz.ntmps111
  go_wp2
  go_loopw [8] (fun i wr => ∃ k : Nat, k ≤ l.length ∧ i = .int .i64 k ∧ Hid (∀ j (_ : j < k) (h : j < l.length), so l[j] = false) ∧ Below w.heap.size w wr) (fun i _ => l.length - (intOf i).toNat)
  case atStart => exact ⟨0, Nat.zero_le _, rfl, Lib.hid (fun j h => absurd h (Nat.not_lt_zero j)), Below.refl _ _⟩
  case round =>
    obtain ⟨k, hk, rfl, HR, hbw⟩ := hrel
    by_cases hlt : k < l.length
    · obtain ⟨bb, off, rfl, hb, hx1, hx2, hx3⟩ := hi'.mono hbw k hlt
      have B := HS.out l[k] wr hbw
      have HT := Lib.hid (fun (h : so l[k] = true) => (any_lt hlt h : l.any so = true))
      have HN := Lib.hid (fun (h : so l[k] = false) => show ∀ j (_ : j < k + 1) (h : j < l.length), so l[j] = false from fun j hj hjl => if hjk : j < k then HR.out j hjk hjl else (by have e : j = k := (by omega); subst e; exact h))
      generalize so l[k] = br at B HT HN
      generalize l[k] = y at B hx1 hx2 hx3
      obtain ⟨yd, yc, ys⟩ := y
      simp only at B hx1 hx2 hx3
      have B := Lib.hid B
      cases br
      · go_wp2_with (go_at_call 94; go_must (refine B.out.mono ?_; rintro e w2 ⟨rfl, hb2⟩; dsimp only))
        go_roundw
        case rel => exact ⟨k + 1, by omega, by go_num, Lib.hid (HN.out (by trivial)), hbw.trans (hb2.mono hbw.size)⟩
        case measure => simp [intOf]; omega
      · go_wp2_with (go_at_call 94; go_must (refine B.out.mono ?_; rintro e w2 ⟨rfl, hb2⟩; dsimp only))
        go_ret
        exact ⟨_, rfl, Lib.hid (by rw [HT.out (by trivial)]; simp), hbw.trans (hb2.mono hbw.size)⟩
    · obtain rfl : k = l.length := by omega
      go_wp2
      go_ret
      exact ⟨_, rfl, Lib.hid (by rw [any_not (f := so) (fun j h => HR.out j h h)]; simp), hbw⟩
set_option maxHeartbeats 1000000 in
theorem SContainsT_any (ad : Option Addr) (l : List SeLetter) (c : Nat) (a b : Int) (p : Nat) (w : World) (hl : l.length ≤ 9223372036854775807) (hi' : LettersC w ad l) (h0 : w.cell? ⟨p, 2, none⟩ = some (.int .i64 a)) (h1 : w.cell? ⟨p, 0, none⟩ = some (.int .i64 b)) :
    Calls Tryz.prog 93 #[.slice ad l.length c, .func (.func 94) #[] #[.pointer (some ⟨p, 0, none⟩)]] w fun e w' => e = .returned (.bool (l.any fun y => decide (y.writer = a) && decide (y.day = b))) ∧ Below w.heap.size w w' := by
  have I := Lib.hid (SIndexT_any ad l c a b p w hl hi' h0 h1)
  obtain ⟨r, hr⟩ : ∃ r, r = l.any fun y => decide (y.writer = a) && decide (y.day = b) := ⟨_, rfl⟩
  rw [← hr] at I ⊢
  clear hr
  go_enter Tryz.func93, Tryz.ntmps93
  cases r
  · go_wp2_with (go_at_call 111; go_must (refine I.out.mono ?_; rintro e w2 ⟨k, rfl, hk, hb2⟩; have hk2 : ¬ 0 ≤ k := of_decide_eq_false hk.out; dsimp only))
    go_ret
    exact ⟨rfl, hb2⟩
  · go_wp2_with (go_at_call 111; go_must (refine I.out.mono ?_; rintro e w2 ⟨k, rfl, hk, hb2⟩; have hk2 : 0 ≤ k := of_decide_eq_true hk.out; dsimp only))
    go_ret
    exact ⟨rfl, hb2⟩
end Go.Proofs.YtcgplocmncionaaGreat
