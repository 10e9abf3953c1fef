/- What is proved here: the functions of layer 7 and of its reference, at lists whose answers are named. Conditions: the list lies in memory. -/
import Derived.Test.YtnlolliankhfmaaAw4
set_option linter.unusedVariables false
set_option linter.unusedSimpArgs false
namespace Go.Proofs.Ytnlolliankhfmaa
open Go Go.RowKit

theorem A_Check (ac az aw ap : Option Addr) (cc cz cw cp : Nat) (m : MoList) (i j e : Int) (h : check m = (i, j, e)) (w : World) (hm : ListC w ac az aw ap cc cz cw cp m) : Calls Try.prog 16 #[(.agg #[.slice ac m.claimants.length cc, .slice az m.sums.length cz, .slice aw m.words.length cw, .slice ap m.paid.length cp])] w fun x w' => x = .returned (.tuple #[.int .i64 i, .int .i64 j, .int .i64 e]) ∧ Below w.heap.size w w' := by
  have C := MCheck_any ac az aw ap cc cz cw cp m w hm
  rwa [h] at C
theorem B_Check (ac az aw ap : Option Addr) (cc cz cw cp : Nat) (m : MoList) (i j e : Int) (h : check m = (i, j, e)) (w : World) (hm : ListC w ac az aw ap cc cz cw cp m) : Calls Try.prog 17 #[(.agg #[.slice ac m.claimants.length cc, .slice az m.sums.length cz, .slice aw m.words.length cw, .slice ap m.paid.length cp])] w fun x w' => x = .returned (.tuple #[.int .i64 i, .int .i64 j, .int .i64 e]) ∧ Below w.heap.size w w' := by
  have C := Check7_any ac az aw ap cc cz cw cp m w hm
  rwa [h] at C
theorem B_First (ac az aw ap : Option Addr) (cc cz cw cp : Nat) (m : MoList) (l : List Int) (n e : Int) (h : firstOf m = (l, n, e)) (w : World) (hm : ListC w ac az aw ap cc cz cw cp m) : Calls Try.prog 19 #[(.agg #[.slice ac m.claimants.length cc, .slice az m.sums.length cz, .slice aw m.words.length cw, .slice ap m.paid.length cp])] w fun x w' => ∃ a c, x = .returned (.tuple #[.slice a l.length c, .int .i64 n, .int .i64 e]) ∧ SlOk a l.length c ∧ IntsC w' a l ∧ Below w.heap.size w w' := by
  have C := First7_any ac az aw ap cc cz cw cp m w hm
  rw [h] at C
  exact C.mono fun x w' ⟨v, h1, ⟨a, c, h2, h3, h4⟩, h5⟩ => ⟨a, c, by rw [h1, h2], h3, h4, h5⟩
theorem B_For (ac az aw ap : Option Addr) (cc cz cw cp : Nat) (m : MoList) (s : Int) (l : List Int) (e : Int) (h : forOf m s = (l, e)) (w : World) (hm : ListC w ac az aw ap cc cz cw cp m) : Calls Try.prog 22 #[(.agg #[.slice ac m.claimants.length cc, .slice az m.sums.length cz, .slice aw m.words.length cw, .slice ap m.paid.length cp]), .int .i64 s] w fun x w' => ∃ a c, x = .returned (.tuple #[.slice a l.length c, .int .i64 e]) ∧ SlOk a l.length c ∧ IntsC w' a l ∧ Below w.heap.size w w' := by
  have C := For7_any ac az aw ap cc cz cw cp m s w hm
  rw [h] at C
  exact C.mono fun x w' ⟨v, h1, ⟨a, c, h2, h3, h4⟩, h5⟩ => ⟨a, c, by rw [h1, h2], h3, h4, h5⟩
theorem B_Held (ac az aw ap : Option Addr) (cc cz cw cp : Nat) (m : MoList) (l : List Int) (e : Int) (h : heldOf m = (l, e)) (w : World) (hm : ListC w ac az aw ap cc cz cw cp m) : Calls Try.prog 27 #[(.agg #[.slice ac m.claimants.length cc, .slice az m.sums.length cz, .slice aw m.words.length cw, .slice ap m.paid.length cp])] w fun x w' => ∃ a c, x = .returned (.tuple #[.slice a l.length c, .int .i64 e]) ∧ SlOk a l.length c ∧ IntsC w' a l ∧ Below w.heap.size w w' := by
  have C := Held7_any ac az aw ap cc cz cw cp m w hm
  rw [h] at C
  exact C.mono fun x w' ⟨v, h1, ⟨a, c, h2, h3, h4⟩, h5⟩ => ⟨a, c, by rw [h1, h2], h3, h4, h5⟩
theorem B_Wait (ac az aw ap : Option Addr) (cc cz cw cp : Nat) (m : MoList) (l : List Int) (e : Int) (h : waitOf m = (l, e)) (w : World) (hm : ListC w ac az aw ap cc cz cw cp m) : Calls Try.prog 29 #[(.agg #[.slice ac m.claimants.length cc, .slice az m.sums.length cz, .slice aw m.words.length cw, .slice ap m.paid.length cp])] w fun x w' => ∃ a c, x = .returned (.tuple #[.slice a l.length c, .int .i64 e]) ∧ SlOk a l.length c ∧ IntsC w' a l ∧ Below w.heap.size w w' := by
  have C := Wait7_any ac az aw ap cc cz cw cp m w hm
  rw [h] at C
  exact C.mono fun x w' ⟨v, h1, ⟨a, c, h2, h3, h4⟩, h5⟩ => ⟨a, c, by rw [h1, h2], h3, h4, h5⟩
theorem B_Wrong (ac az aw ap : Option Addr) (cc cz cw cp : Nat) (m : MoList) (l : List Int) (e : Int) (h : wrongOf m = (l, e)) (w : World) (hm : ListC w ac az aw ap cc cz cw cp m) : Calls Try.prog 31 #[(.agg #[.slice ac m.claimants.length cc, .slice az m.sums.length cz, .slice aw m.words.length cw, .slice ap m.paid.length cp])] w fun x w' => ∃ a c, x = .returned (.tuple #[.slice a l.length c, .int .i64 e]) ∧ SlOk a l.length c ∧ IntsC w' a l ∧ Below w.heap.size w w' := by
  have C := Wrong7_any ac az aw ap cc cz cw cp m w hm
  rw [h] at C
  exact C.mono fun x w' ⟨v, h1, ⟨a, c, h2, h3, h4⟩, h5⟩ => ⟨a, c, by rw [h1, h2], h3, h4, h5⟩
theorem B_Pay (ac az aw ap : Option Addr) (cc cz cw cp : Nat) (m : MoList) (s n e : Int) (h : payOf m s = (n, e)) (w : World) (hm : ListC w ac az aw ap cc cz cw cp m) : Calls Try.prog 25 #[(.agg #[.slice ac m.claimants.length cc, .slice az m.sums.length cz, .slice aw m.words.length cw, .slice ap m.paid.length cp]), .int .i64 s] w fun x w' => x = .returned (.tuple #[.int .i64 n, .int .i64 e]) ∧ Below w.heap.size w w' := by
  have C := Pay7_any ac az aw ap cc cz cw cp m s w hm
  rwa [h] at C
theorem B_Owed (ac az aw ap : Option Addr) (cc cz cw cp : Nat) (m : MoList) (s lo hi e : Int) (h : owedOf m s = ((lo, hi), e)) (w : World) (hm : ListC w ac az aw ap cc cz cw cp m) : Calls Try.prog 33 #[(.agg #[.slice ac m.claimants.length cc, .slice az m.sums.length cz, .slice aw m.words.length cw, .slice ap m.paid.length cp]), .int .i64 s] w fun x w' => x = .returned (.tuple #[.agg #[.int .i64 lo, .int .i64 hi], .int .i64 e]) ∧ Below w.heap.size w w' := by
  have C := Owed7_any ac az aw ap cc cz cw cp m s w hm
  rwa [h] at C
theorem B_Need (ac az aw ap : Option Addr) (cc cz cw cp : Nat) (m : MoList) (s n e : Int) (h : needOf m = (s, n, e)) (w : World) (hm : ListC w ac az aw ap cc cz cw cp m) : Calls Try.prog 35 #[(.agg #[.slice ac m.claimants.length cc, .slice az m.sums.length cz, .slice aw m.words.length cw, .slice ap m.paid.length cp])] w fun x w' => x = .returned (.tuple #[.int .i64 s, .int .i64 n, .int .i64 e]) ∧ Below w.heap.size w w' := by
  have C := Need7_any ac az aw ap cc cz cw cp m w hm
  rwa [h] at C
theorem Ints_same {a b : Option Addr} {l : List Int} {c d : Nat} {w : World} (hl : SlOk a l.length c) (hi : IntsC w a l) (hj : IntsC w b l) :
    Calls Try.prog 20 #[.slice a l.length c, .slice b l.length d] w fun e w' => e = .returned (.bool true) ∧ Below w.heap.size w w' := by
  have C := Ints_any a b l l c d w hl.len hl.len hi hj
  rw [intsB_iff.2 rfl] at C
  exact C.mono fun e w' ⟨h1, q, h2⟩ => ⟨h1, by rw [h2]; exact below_draws _ _ q⟩
theorem box_onw {w W W' : World} {o : Obj} (h : Below (w.heap.size + 1) (w.alloc o) W) (h2 : Below W.heap.size W W') : Below (w.heap.size + 1) (w.alloc o) W' := box_on h h2
end Go.Proofs.Ytnlolliankhfmaa
