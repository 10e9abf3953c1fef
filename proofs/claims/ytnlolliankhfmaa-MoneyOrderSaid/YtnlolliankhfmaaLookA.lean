/- What is proved here: a list of layer 7 that is looked at, in memory; the contract of counts. Conditions: the list is valid. -/
/- What is proved here: the contracts of sayings, its two closures, kept. Conditions: the list is valid. -/
import Derived.Test.YtnlolliankhfmaaPlain
import Derived.Test.YtnlolliankhfmaaMoRep
import Derived.Test.YtnlolliankhfmaaGround
import Derived.Laws.EntriesVeiled
set_option linter.unusedVariables false
set_option linter.unusedSimpArgs false
namespace Go.Proofs.Ytnlolliankhfmaa
open Go Go.RowKit

theorem results_one {fn : Func} {p : Tmp} {ty : TypeId} (h : fn.results = #[.cell p ty]) (tmps : Array Value) (P : Program) (w : World) :
    (results fn tmps).run P w = ((asAddr (tmps.getD p undef)).run P w).andThen fun a w₁ => ((loadVar ty a).run P w₁) := by
  simp only [results, h]
  simp [Sem.run_bind, Result.andThen]

/-- A list that is looked at: the list, its four slices in block bm, the words that have come. -/
structure LookC (w : World) (bm : Nat) (ac az aw ap : Option Addr) (cc cz cw cp : Nat) (m : MoList) (c : Nat) : Prop where
  lst : ListC w ac az aw ap cc cz cw cp m
  c0 : w.cell? ⟨bm, 0, none⟩ = some (.slice ac m.claimants.length cc)
  c1 : w.cell? ⟨bm, 1, none⟩ = some (.slice az m.sums.length cz)
  c2 : w.cell? ⟨bm, 2, none⟩ = some (.slice aw m.words.length cw)
  c3 : w.cell? ⟨bm, 3, none⟩ = some (.slice ap m.paid.length cp)
  c4 : w.cell? ⟨bm, 4, none⟩ = some (.int .i64 (c : Int))
theorem LookC.mono {w W : World} {bm : Nat} {ac az aw ap : Option Addr} {cc cz cw cp : Nat} {m : MoList} {c : Nat} (h : LookC w bm ac az aw ap cc cz cw cp m c) (hb : Below w.heap.size w W) : LookC W bm ac az aw ap cc cz cw cp m c :=
  ⟨h.lst.mono hb, cell_below hb h.c0, cell_below hb h.c1, cell_below hb h.c2, cell_below hb h.c3, cell_below hb h.c4⟩

theorem bit_and : ∀ c : Nat, c < 64 → ∀ k : Nat, k < 7 → (bits BinOp.and IntKind.i64 ((c : Int) / 2 ^ k) 1 == 1) = c.testBit k := by decide +kernel
theorem backTo_hit {m : MoList} {c at_ k : Nat} (h : k < m.words.length) (h1 : m.words[k].back = (at_ : Int)) (h2 : c.testBit k = true) : backTo m c at_ m.words.length = false := by
  unfold backTo
  rw [List.all_eq_false]
  exact ⟨k, by simpa using h, by simp [List.getElem?_eq_getElem h, h1, h2]⟩

set_option maxHeartbeats 2000000 in
theorem MCounts_any (ac az aw ap : Option Addr) (cc cz cw cp : Nat) (m : MoList) (c at_ bm : Nat) (w : World) (hm : LookC w bm ac az aw ap cc cz cw cp m c) (hv : Valid m) (hat : at_ < m.words.length) (hc : c < 64) :
    Calls Try.prog 113 #[.pointer (some ⟨bm, 0, none⟩), .int .i64 (at_ : Int)] w fun e w' => e = .returned (.bool (counts (withBits m c) at_)) ∧ Below w.heap.size w w' := by
  have l3 := hm.lst.okw.len
  have v3 := hv.nw
  have HE := Lib.hid (counts_bits m c at_ hat)
  generalize counts (withBits m c) at_ = r at HE ⊢
  have c2 := hm.c2
  have c4 := hm.c4
  have hB := lt_of_cell c2
  go_enter Try.func113, Try.ntmps113
  go_wp2
  go_loopw [13] (fun i wr => ∃ k : Nat, k ≤ m.words.length ∧ i = .int .i64 k ∧ Hid (backTo m c at_ k = true) ∧ Below w.heap.size w wr) (fun i _ => m.words.length - (intOf i).toNat)
  case atStart => exact ⟨0, Nat.zero_le _, rfl, Lib.hid rfl, Below.refl _ _⟩
  case round =>
    obtain ⟨k, hk, rfl, HB, hbw⟩ := hrel
    have d2 := cell_below hbw c2
    have d4 := cell_below hbw c4
    have hB2 := lt_of_cell d2
    clear c2 c4 hB
    by_cases hlt : k < m.words.length
    · obtain ⟨b, off, rfl, hb, h1, h2, h3, h4, h5⟩ := (hm.lst.mono hbw).words k hlt
      have HK := Lib.hid (bit_and c hc k (by omega))
      have HS := Lib.hid (backTo_succ m c at_ k hlt)
      have HH := Lib.hid (backTo_hit (m := m) (c := c) (at_ := at_) hlt)
      go_wp2
      · go_ret
        exact ⟨ret_bool (by rw [HE.out, HH.out (by assumption) (by rw [← HK.out]; assumption)]; simp), hbw.alloc hbw.size _⟩
      · go_roundw
        case rel => exact ⟨k + 1, by omega, by go_num, Lib.hid (by rw [HS.out, HB.out, ← HK.out]; have h : (bits BinOp.and IntKind.i64 ((c : Int) / 2 ^ k) 1 == 1) = false := (by assumption); rw [h]; simp), hbw.alloc hbw.size _⟩
        case measure => simp [intOf]; omega
      · go_roundw
        case rel => exact ⟨k + 1, by omega, by go_num, Lib.hid (by rw [HS.out, HB.out]; have h : ¬ m.words[k].back = (at_ : Int) := (by assumption); simp [h]), hbw.alloc hbw.size _⟩
        case measure => simp [intOf]; omega
    · obtain rfl : k = m.words.length := by omega
      have HK := Lib.hid (bit_and c hc at_ (by omega))
      go_wp2
      go_ret
      exact ⟨ret_bool (by rw [HE.out, HB.out, ← HK.out]; simp), hbw⟩
end Go.Proofs.Ytnlolliankhfmaa
namespace Go.Proofs.Ytnlolliankhfmaa
open Go Go.RowKit

theorem Say1_any (a b : Int) (w : World) : Calls Try.prog 114 #[.int .i64 a, .int .i64 b] w fun e w' => e = .returned (.bool (decide (a = b))) ∧ w = w' := by
  go_enter Try.func114, Try.ntmps114
  go_wp2
  go_ret
  exact ⟨rfl, rfl⟩
theorem Say2_any (a b : Int) (w : World) : Calls Try.prog 115 #[.int .i64 a, .int .i64 b] w fun e w' => e = .returned (.bool (!decide (a = b))) ∧ w = w' := by
  go_enter Try.func115, Try.ntmps115
  go_wp2
  go_ret
  exact ⟨rfl, rfl⟩
set_option maxHeartbeats 2000000 in
theorem Sayings_any (w : World) : Calls Try.prog 112 #[] w fun e w' => e = .returned (.agg #[.func (.func 114) #[] #[], .func (.func 115) #[] #[], .func (.func 114) #[] #[], .func (.func 115) #[] #[]]) ∧ Below w.heap.size w w' := by
  go_enter Try.func112, Try.ntmps112
  go_wp2
  (try simp only [Exit.inBlock, Exit.then])
  refine bodyPost_ret (v := .agg #[.func (.func 114) #[] #[], .func (.func 115) #[] #[], .func (.func 114) #[] #[], .func (.func 115) #[] #[]]) ?_ rfl ⟨rfl, ?_⟩
  · rw [results_one rfl]
    go_simp
  · go_goals
    go_grown
end Go.Proofs.Ytnlolliankhfmaa
