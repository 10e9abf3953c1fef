/- What is proved here: contracts of the laws' helpers turn, turned. Conditions: the slice of bytes lies in memory. -/
import Derived.Test.YtnlolliankhfmaaNames
import Derived.Test.YtnlolliankhfmaaFacts
set_option linter.unusedVariables false
set_option linter.unusedSimpArgs false
namespace Go.Proofs.Ytnlolliankhfmaa
open Go Go.RowKit
/-- A slice of bytes. -/
def BytesC (w : World) (a : Option Addr) (l : List Int) : Prop :=
  ∀ i (_ : i < l.length), ∃ b off, a = some ⟨b, off, none⟩ ∧ b < w.heap.size ∧ w.cell? ⟨b, off + i, none⟩ = some (.int .u8 l[i]) ∧ 0 ≤ l[i] ∧ l[i] ≤ 255
theorem BytesC.mono {w W : World} {a : Option Addr} {l : List Int} (h : BytesC w a l) (hb : Below w.heap.size w W) : BytesC W a l := fun i hi => by
  obtain ⟨b, off, e, hlt, hc, h2⟩ := h i hi
  exact ⟨b, off, e, Nat.lt_of_lt_of_le hlt hb.size, cell_below hb hc, h2⟩
theorem tmod_at {x : Int} {n : Nat} (hx : 0 ≤ x) (hn : 0 < n) : ∃ k : Nat, k < n ∧ x.tmod (n : Int) = (k : Int) := by
  obtain ⟨a, rfl⟩ := Int.eq_ofNat_of_zero_le hx
  exact ⟨a % n, Nat.mod_lt _ hn, by rw [Int.ofNat_tmod]⟩
/-- 'turn'. -/
def turnOf (l : List Int) (n : Nat) : Int := if l.length = 0 then 0 else l[n % l.length]?.getD 0
theorem turnOf_bd {l : List Int} (h : ∀ x ∈ l, 0 ≤ x ∧ x ≤ 255) (n : Nat) : 0 ≤ turnOf l n ∧ turnOf l n ≤ 255 := by
  unfold turnOf
  by_cases h0 : l.length = 0
  · rw [if_pos h0]; decide
  · rw [if_neg h0]
    have hlt : n % l.length < l.length := Nat.mod_lt _ (by omega)
    rw [List.getElem?_eq_getElem hlt]
    exact h _ (List.getElem_mem hlt)
set_option maxHeartbeats 400000 in
theorem Turn_any (a : Option Addr) (l : List Int) (c n : Nat) (w : World) (hl : l.length ≤ 9223372036854775807) (hn : n ≤ 1000) (hi : BytesC w a l) :
    Calls Try.prog 93 #[.slice a l.length c, .int .i64 n] w fun e w' => e = .returned (.int .i64 (turnOf l n)) ∧ Below w.heap.size w w' := by
  by_cases h0 : l.length = 0
  · have hr : turnOf l n = 0 := by unfold turnOf; rw [if_pos h0]
    rw [hr, h0]
    go_enter Try.func93, Try.ntmps93
    go_wp2
    go_ret
    exact ⟨rfl, Below.refl _ _⟩
  · have hlt : n % l.length < l.length := Nat.mod_lt _ (by omega)
    have hr : Hid (turnOf l n = l[n % l.length]) := Lib.hid (by unfold turnOf; rw [if_neg h0, List.getElem?_eq_getElem hlt]; rfl)
    obtain ⟨b, off, rfl, hb, hc, h1, h2⟩ := hi _ hlt
    have hne : ((l.length : Int) == 0) = false := eqi_f (by omega)
    generalize turnOf l n = r at hr ⊢
    generalize l[n % l.length] = y at hc h1 h2 hr
    have hbl := lt_of_cell hc
    go_enter Try.func93, Try.ntmps93
    go_wp2
    go_ret
    exact ⟨by rw [hr.out]; rfl, Below.refl _ _⟩
theorem turned_half (b : Int) (j : Nat) (hj : j ≤ 4) : 0 ≤ turnedTo b j ∧ turnedTo b j ≤ 15 := by
  have h := turnedTo_bd b j
  have : (2 : Int) ^ j ≤ 16 := by
    have : j = 0 ∨ j = 1 ∨ j = 2 ∨ j = 3 ∨ j = 4 := by omega
    rcases this with rfl | rfl | rfl | rfl | rfl <;> decide
  omega
set_option maxHeartbeats 400000 in
theorem Turned_any (b : Int) (n : Nat) (w : World) (hn : n ≤ 4) (h1 : -9223372036854775808 ≤ b) (h2 : b ≤ 9223372036854775807) :
    Calls Try.prog 56 #[.int .i64 b, .int .i64 n] w fun e w' => e = .returned (.int .i64 (turnedTo b n)) ∧ Below w.heap.size w w' := by
  obtain ⟨r, hr⟩ : ∃ r, r = turnedTo b n := ⟨_, rfl⟩
  rw [← hr]
  have Hr := Lib.hid hr
  clear hr
  have B := Lib.hid (fun (W : World) (k : Nat) (hk : k ≤ 4) => Bit_any b (k : Int) W (by omega) (by omega) h1 h2)
  go_enter Try.func56, Try.ntmps56
  go_wp2
  go_loopw [5, 6] (fun o i wr => ∃ k : Nat, k ≤ n ∧ i = .int .i64 k ∧ o = .int .i64 (turnedTo b k) ∧ Below w.heap.size w wr) (fun _ i _ => n - (intOf i).toNat)
  case atStart => exact ⟨0, Nat.zero_le _, rfl, rfl, Below.refl _ _⟩
  case round =>
    obtain ⟨k, hk, rfl, rfl, hB⟩ := hrel
    have hbd := turned_half b k (by omega)
    by_cases hlt : k < n
    · have hs : Hid (turnedTo b (k + 1) = 2 * turnedTo b k + (if bitB b k then 1 else 0)) := Lib.hid rfl
      generalize turnedTo b k = y at hs hbd ⊢
      have C := Lib.hid (B.out wr k (by omega))
      simp only [Int.toNat_natCast] at C
      cases hb : bitB b k
      all_goals
        rw [hb] at C hs
        replace hs := Lib.hid hs.out
        go_wp2_with (go_at_call 46; go_must (refine C.out.mono ?_; rintro e w2 ⟨rfl, rfl⟩; dsimp only))
        go_roundw
        case rel => exact ⟨k + 1, by omega, by go_num, by have h := hs.out; simp at h; rw [h], hB⟩
        case measure => simp [intOf]; omega
    · obtain rfl : k = n := by omega
      go_wp2
      go_ret
      exact ⟨by rw [Hr.out]; rfl, hB⟩
end Go.Proofs.Ytnlolliankhfmaa
