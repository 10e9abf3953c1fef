/- What is proved here: helpers of the laws over memory: a list with other payments; small contracts at known answers. Conditions: the list lies in memory. -/
import Derived.Test.YtnlolliankhfmaaLwHeld
import Derived.Test.YtnlolliankhfmaaFlat
set_option linter.unusedVariables false
set_option linter.unusedSimpArgs false
namespace Go.Proofs.Ytnlolliankhfmaa
open Go Go.RowKit
theorem list_paid {w V : World} {ac az aw ap ap' : Option Addr} {cc cz cw cp cp' : Nat} {m : MoList} {p : List MoPaid} (hm : ListC w ac az aw ap cc cz cw cp m) (hb : Below w.heap.size w V) (hs : SlOk ap' p.length cp') (hp : PaidC V ap' p) :
    ListC V ac az aw ap' cc cz cw cp' (withPaid m p) := by
  have hY := hm.mono hb
  exact ⟨hY.okc, hY.okz, hY.okw, hs, hY.claimants, hY.sums, hY.words, hp, hY.csize, hY.zsize⟩
theorem A_PayP (ac az aw ap : Option Addr) (cc cz cw cp : Nat) (m : MoList) (p : List MoPaid) (s n e : Int) (h : payOf (withPaid m p) s = (n, e)) (w : World) (hm : ListC w ac az aw ap cc cz cw cp (withPaid m p)) : Calls Try.prog 24 #[.agg #[.slice ac m.claimants.length cc, .slice az m.sums.length cz, .slice aw m.words.length cw, .slice ap p.length cp], .int .i64 s] w fun x w' => x = .returned (.tuple #[.int .i64 n, .int .i64 e]) ∧ Below w.heap.size w w' :=
  A_Pay ac az aw ap cc cz cw cp (withPaid m p) s n e h w hm
theorem A_WrongP (ac az aw ap : Option Addr) (cc cz cw cp : Nat) (m : MoList) (p : List MoPaid) (l : List Int) (e : Int) (h : wrongOf (withPaid m p) = (l, e)) (w : World) (hm : ListC w ac az aw ap cc cz cw cp (withPaid m p)) : Calls Try.prog 30 #[.agg #[.slice ac m.claimants.length cc, .slice az m.sums.length cz, .slice aw m.words.length cw, .slice ap p.length cp]] w fun x w' => ∃ a c, x = .returned (.tuple #[.slice a l.length c, .int .i64 e]) ∧ SlOk a l.length c ∧ IntsC w' a l ∧ Below w.heap.size w w' :=
  A_Wrong ac az aw ap cc cz cw cp (withPaid m p) l e h w hm
theorem paid_snoc (p : List MoPaid) (s c : Int) : flatC paidCells p ++ [.int .i64 s, .int .i64 c] = flatC paidCells (p ++ [⟨s, c⟩]) := flatC_snoc (f := paidCells) p ⟨s, c⟩
theorem paid_none (W : World) : PaidC W none [] := fun i hi => absurd hi (Nat.not_lt_zero i)
end Go.Proofs.Ytnlolliankhfmaa
