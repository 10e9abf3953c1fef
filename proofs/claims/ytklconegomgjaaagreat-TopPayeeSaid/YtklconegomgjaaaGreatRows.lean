/-
  No cell of these rows narrows 'for every input' (looked for: loops, veiled, ifaces, maps, wideKeys, modest, calm, conditions, laid).
  DERIVED. THE GIVEN ROWS OF THIS SEAT. 2 by the template 'for every input the law returns true; each argument reads behind the call as it read before'; 0 by the template 'total and deterministic' (their statements: YtklconegomgjaaaGreatTotals.lean).
  GIVEN WITH THE SEED: the statements are not yours to turn. If you find one false, say at which input.
  Laid BY PROGRAM, IN A SANDBOX (cutbox-rows.mjs): the forced cells as the released guide's own fill.sh prints them over the translation a68ff35595d42036… (all of the seat's roots in one cut). By AI agents, Wed Nov 11 2026. No macro, syntax, notation, axiom, sorry.
-/
import Derived.Test.YtklconegomgjaaaGreatChecked
import GoSem.Claim
import GoSem.ClaimJoined
import GoSem.ClaimMapViews
import Derived.JoinedTies
import Derived.KernelRfl
namespace Go.Proofs.YtklconegomgjaaaGreat
/- THE CELL 'sum', in the pinned program and in every row, IS THE sha256 OF THE DUMP (.gsa) THAT YtklconegomgjaaaGreatProg.lean LOADS. Nothing in Lean hashes anything: it is a label: what it is worth is what the hold of that sum in a sandbox is worth. -/
noncomputable def Tryz.pinned : Pinned := { name := "ytklconegomgjaaagreat", sum := "a68ff35595d420368ce65f0155b215bbd636e157ab556b8bfe716c24f295d8df", checked := Tryz.checked }
namespace Rows
def none {H : Type} : Left H := { results := [], args := [] }

/-- 'escribanotop.TopNamed': WHATEVER THE INPUT: true; the input reads as it did. -/
def topNamedSpec : ChangeSpec := { name := "topNamed", fn := fun _ => fun
  | [d1, d2] => { results := [.lit (.bool true)], args := [d1, d2] }
  | _ => none }
def topNamedRow : OpenClaim := { program := "ytklconegomgjaaagreat", sum := "a68ff35595d420368ce65f0155b215bbd636e157ab556b8bfe716c24f295d8df", func := "escribano/escribanotop.TopNamed", spec := "topNamed", unfollowed := true, recurses := true, plainKeys := false, apart := false }
def TopNamedSaid : Prop := topNamedRow.holds Tryz.pinned (OpenSpec.ofChange topNamedSpec)

/-- ITS FALSE NEIGHBOUR: 'it returns false'. Refute it at one input. -/
def topNamedWrong : ChangeSpec := { name := "topNamed", fn := fun _ => fun
  | [d1, d2] => { results := [.lit (.bool false)], args := [d1, d2] }
  | _ => none }
def TopNamedWrongFalsely : Prop := topNamedRow.holds Tryz.pinned (OpenSpec.ofChange topNamedWrong)

/-- 'escribanotop.TopPayee': WHATEVER THE INPUT: true; the input reads as it did. -/
def topPayeeSpec : ChangeSpec := { name := "topPayee", fn := fun _ => fun
  | [d1, d2] => { results := [.lit (.bool true)], args := [d1, d2] }
  | _ => none }
def topPayeeRow : OpenClaim := { program := "ytklconegomgjaaagreat", sum := "a68ff35595d420368ce65f0155b215bbd636e157ab556b8bfe716c24f295d8df", func := "escribano/escribanotop.TopPayee", spec := "topPayee", unfollowed := true, recurses := true, plainKeys := false, apart := false }
def TopPayeeSaid : Prop := topPayeeRow.holds Tryz.pinned (OpenSpec.ofChange topPayeeSpec)

/-- ITS FALSE NEIGHBOUR: 'it returns false'. Refute it at one input. -/
def topPayeeWrong : ChangeSpec := { name := "topPayee", fn := fun _ => fun
  | [d1, d2] => { results := [.lit (.bool false)], args := [d1, d2] }
  | _ => none }
def TopPayeeWrongFalsely : Prop := topPayeeRow.holds Tryz.pinned (OpenSpec.ofChange topPayeeWrong)

/- THE SECOND FORM. 'bulk': how many values and letters a reading holds, each counted each time it is reached (what is shared counts as often as it is met; a slice's spare places count too). A statement '..UptoSaid' is the law's where the arguments, and the package variables that the reading takes, are together of bulk at most 1048576: NARROWER than '..Said'. Prove '..Said' where nothing that the law and all that it calls make is longer than what came in: it says more and counts as full. Else prove '..UptoSaid'. A law counts once. -/
mutual
def uptoBulk {H : Type} : DataW H → Nat
  | .lit (.string bytes) => bytes.length + 1
  | .lit _ => 1
  | .nil => 1
  | .ptr d => uptoBulk d + 1
  | .slice elems spare => uptoBulkAll elems + uptoBulkAll spare + 1
  | .agg parts => uptoBulkAll parts + 1
  | .iface _ d => uptoBulk d + 1
  | .map entries => uptoBulkEntries entries + 1
  | .held _ => 1
def uptoBulkAll {H : Type} : List (DataW H) → Nat
  | [] => 0
  | d :: r => uptoBulk d + uptoBulkAll r
def uptoBulkEntries {H : Type} : List (Lit × DataW H) → Nat
  | [] => 0
  | x :: r => uptoBulkEntry x + uptoBulkEntries r
def uptoBulkEntry {H : Type} : Lit × DataW H → Nat
  | (.string bytes, d) => bytes.length + uptoBulk d + 1
  | (_, d) => uptoBulk d + 1
 end
def uptoSmall : (H : Type) → List (DataW H) → Bool := fun _ ds => decide (uptoBulkAll ds ≤ 1048576)
def OpenSpec.upto (s : _root_.Go.ChangeSpec) : _root_.Go.OpenSpec := { _root_.Go.OpenSpec.ofChange s with cond := some uptoSmall }

/-- 'escribanotop.TopNamed', WHERE WHAT IT READS IS OF BULK AT MOST 1048576: true; the input reads as it did. -/
def topNamedUptoRow : OpenClaim := { program := "ytklconegomgjaaagreat", sum := "a68ff35595d420368ce65f0155b215bbd636e157ab556b8bfe716c24f295d8df", func := "escribano/escribanotop.TopNamed", spec := "topNamed", unfollowed := true, recurses := true, plainKeys := false, apart := false, narrowed := true }
def TopNamedUptoSaid : Prop := topNamedUptoRow.holds Tryz.pinned (OpenSpec.upto topNamedSpec)

/-- 'escribanotop.TopPayee', WHERE WHAT IT READS IS OF BULK AT MOST 1048576: true; the input reads as it did. -/
def topPayeeUptoRow : OpenClaim := { program := "ytklconegomgjaaagreat", sum := "a68ff35595d420368ce65f0155b215bbd636e157ab556b8bfe716c24f295d8df", func := "escribano/escribanotop.TopPayee", spec := "topPayee", unfollowed := true, recurses := true, plainKeys := false, apart := false, narrowed := true }
def TopPayeeUptoSaid : Prop := topPayeeUptoRow.holds Tryz.pinned (OpenSpec.upto topPayeeSpec)

end Rows
end Go.Proofs.YtklconegomgjaaaGreat
