/-
  No cell of these rows narrows 'for every input' (looked for: loops, veiled, ifaces, maps, wideKeys, modest, calm, conditions, laid).
  DERIVED. THE GIVEN ROWS OF THIS SEAT. 13 by the template 'for every input the law returns true; each argument reads behind the call as it read before'; 0 by the template 'total and deterministic' (their statements: YtmhbjohpggghgaaTotals.lean).
  GIVEN WITH THE SEED: the statements are not yours to turn. If you find one false, say at which input.
  Laid BY PROGRAM, IN A SANDBOX (cutbox-rows.mjs): the forced cells as the released guide's own fill.sh prints them over the translation 9839138f90817900… (all of the seat's roots in one cut). By AI agents, Wed Nov 11 2026. No macro, syntax, notation, axiom, sorry.
-/
import Derived.Test.YtmhbjohpggghgaaChecked
import GoSem.Claim
import GoSem.ClaimJoined
import GoSem.ClaimMapViews
import Derived.JoinedTies
import Derived.KernelRfl
namespace Go.Proofs.Ytmhbjohpggghgaa
/- THE CELL 'sum', in the pinned program and in every row, IS THE sha256 OF THE DUMP (.gsa) THAT YtmhbjohpggghgaaProg.lean LOADS. Nothing in Lean hashes anything: it is a label: what it is worth is what the hold of that sum in a sandbox is worth. -/
noncomputable def Try.pinned : Pinned := { name := "ytmhbjohpggghgaa", sum := "9839138f9081790067193cd30f17675861cc9879d728a44ee0fec7c1c7780e17", checked := Try.checked }
namespace Rows
def none {H : Type} : Left H := { results := [], args := [] }

/-- 'escribanolaw12.SecretKnows': WHATEVER THE INPUT: true; the input reads as it did. -/
def secretKnowsSpec : ChangeSpec := { name := "secretKnows", fn := fun _ => fun
  | [d1, d2] => { results := [.lit (.bool true)], args := [d1, d2] }
  | _ => none }
def secretKnowsRow : OpenClaim := { program := "ytmhbjohpggghgaa", sum := "9839138f9081790067193cd30f17675861cc9879d728a44ee0fec7c1c7780e17", func := "escribano/escribanolaw12.SecretKnows", spec := "secretKnows", unfollowed := true, recurses := true, plainKeys := false, apart := false }
def SecretKnowsSaid : Prop := secretKnowsRow.holds Try.pinned (OpenSpec.ofChange secretKnowsSpec)

/-- ITS FALSE NEIGHBOUR: 'it returns false'. Refute it at one input. -/
def secretKnowsWrong : ChangeSpec := { name := "secretKnows", fn := fun _ => fun
  | [d1, d2] => { results := [.lit (.bool false)], args := [d1, d2] }
  | _ => none }
def SecretKnowsWrongFalsely : Prop := secretKnowsRow.holds Try.pinned (OpenSpec.ofChange secretKnowsWrong)

/-- 'escribanolaw12.SecretTolds': WHATEVER THE INPUT: true; the input reads as it did. -/
def secretToldsSpec : ChangeSpec := { name := "secretTolds", fn := fun _ => fun
  | [d1, d2] => { results := [.lit (.bool true)], args := [d1, d2] }
  | _ => none }
def secretToldsRow : OpenClaim := { program := "ytmhbjohpggghgaa", sum := "9839138f9081790067193cd30f17675861cc9879d728a44ee0fec7c1c7780e17", func := "escribano/escribanolaw12.SecretTolds", spec := "secretTolds", unfollowed := true, recurses := true, plainKeys := false, apart := false }
def SecretToldsSaid : Prop := secretToldsRow.holds Try.pinned (OpenSpec.ofChange secretToldsSpec)

/-- ITS FALSE NEIGHBOUR: 'it returns false'. Refute it at one input. -/
def secretToldsWrong : ChangeSpec := { name := "secretTolds", fn := fun _ => fun
  | [d1, d2] => { results := [.lit (.bool false)], args := [d1, d2] }
  | _ => none }
def SecretToldsWrongFalsely : Prop := secretToldsRow.holds Try.pinned (OpenSpec.ofChange secretToldsWrong)

/-- 'escribanolaw12.SecretPlans': WHATEVER THE INPUT: true; the input reads as it did. -/
def secretPlansSpec : ChangeSpec := { name := "secretPlans", fn := fun _ => fun
  | [d1, d2] => { results := [.lit (.bool true)], args := [d1, d2] }
  | _ => none }
def secretPlansRow : OpenClaim := { program := "ytmhbjohpggghgaa", sum := "9839138f9081790067193cd30f17675861cc9879d728a44ee0fec7c1c7780e17", func := "escribano/escribanolaw12.SecretPlans", spec := "secretPlans", unfollowed := true, recurses := true, plainKeys := false, apart := false }
def SecretPlansSaid : Prop := secretPlansRow.holds Try.pinned (OpenSpec.ofChange secretPlansSpec)

/-- ITS FALSE NEIGHBOUR: 'it returns false'. Refute it at one input. -/
def secretPlansWrong : ChangeSpec := { name := "secretPlans", fn := fun _ => fun
  | [d1, d2] => { results := [.lit (.bool false)], args := [d1, d2] }
  | _ => none }
def SecretPlansWrongFalsely : Prop := secretPlansRow.holds Try.pinned (OpenSpec.ofChange secretPlansWrong)

/-- 'escribanolaw12.SecretCuts': WHATEVER THE INPUT: true; the input reads as it did. -/
def secretCutsSpec : ChangeSpec := { name := "secretCuts", fn := fun _ => fun
  | [d1, d2] => { results := [.lit (.bool true)], args := [d1, d2] }
  | _ => none }
def secretCutsRow : OpenClaim := { program := "ytmhbjohpggghgaa", sum := "9839138f9081790067193cd30f17675861cc9879d728a44ee0fec7c1c7780e17", func := "escribano/escribanolaw12.SecretCuts", spec := "secretCuts", unfollowed := true, recurses := true, plainKeys := false, apart := false }
def SecretCutsSaid : Prop := secretCutsRow.holds Try.pinned (OpenSpec.ofChange secretCutsSpec)

/-- ITS FALSE NEIGHBOUR: 'it returns false'. Refute it at one input. -/
def secretCutsWrong : ChangeSpec := { name := "secretCuts", fn := fun _ => fun
  | [d1, d2] => { results := [.lit (.bool false)], args := [d1, d2] }
  | _ => none }
def SecretCutsWrongFalsely : Prop := secretCutsRow.holds Try.pinned (OpenSpec.ofChange secretCutsWrong)

/-- 'escribanolaw12.SecretKnown': WHATEVER THE INPUT: true; the input reads as it did. -/
def secretKnownSpec : ChangeSpec := { name := "secretKnown", fn := fun _ => fun
  | [] => { results := [.lit (.bool true)], args := [] }
  | _ => none }
def secretKnownRow : OpenClaim := { program := "ytmhbjohpggghgaa", sum := "9839138f9081790067193cd30f17675861cc9879d728a44ee0fec7c1c7780e17", func := "escribano/escribanolaw12.SecretKnown", spec := "secretKnown", unfollowed := true, recurses := true, plainKeys := false, apart := false }
def SecretKnownSaid : Prop := secretKnownRow.holds Try.pinned (OpenSpec.ofChange secretKnownSpec)

/-- ITS FALSE NEIGHBOUR: 'it returns false'. Refute it at one input. -/
def secretKnownWrong : ChangeSpec := { name := "secretKnown", fn := fun _ => fun
  | [] => { results := [.lit (.bool false)], args := [] }
  | _ => none }
def SecretKnownWrongFalsely : Prop := secretKnownRow.holds Try.pinned (OpenSpec.ofChange secretKnownWrong)

/-- 'escribanolaw12.SecretTrue': WHATEVER THE INPUT: true; the input reads as it did. -/
def secretTrueSpec : ChangeSpec := { name := "secretTrue", fn := fun _ => fun
  | [d1, d2] => { results := [.lit (.bool true)], args := [d1, d2] }
  | _ => none }
def secretTrueRow : OpenClaim := { program := "ytmhbjohpggghgaa", sum := "9839138f9081790067193cd30f17675861cc9879d728a44ee0fec7c1c7780e17", func := "escribano/escribanolaw12.SecretTrue", spec := "secretTrue", unfollowed := true, recurses := true, plainKeys := false, apart := false }
def SecretTrueSaid : Prop := secretTrueRow.holds Try.pinned (OpenSpec.ofChange secretTrueSpec)

/-- ITS FALSE NEIGHBOUR: 'it returns false'. Refute it at one input. -/
def secretTrueWrong : ChangeSpec := { name := "secretTrue", fn := fun _ => fun
  | [d1, d2] => { results := [.lit (.bool false)], args := [d1, d2] }
  | _ => none }
def SecretTrueWrongFalsely : Prop := secretTrueRow.holds Try.pinned (OpenSpec.ofChange secretTrueWrong)

/-- 'escribanolaw12.SecretFewest': WHATEVER THE INPUT: true; the input reads as it did. -/
def secretFewestSpec : ChangeSpec := { name := "secretFewest", fn := fun _ => fun
  | [d1, d2] => { results := [.lit (.bool true)], args := [d1, d2] }
  | _ => none }
def secretFewestRow : OpenClaim := { program := "ytmhbjohpggghgaa", sum := "9839138f9081790067193cd30f17675861cc9879d728a44ee0fec7c1c7780e17", func := "escribano/escribanolaw12.SecretFewest", spec := "secretFewest", unfollowed := true, recurses := true, plainKeys := false, apart := false }
def SecretFewestSaid : Prop := secretFewestRow.holds Try.pinned (OpenSpec.ofChange secretFewestSpec)

/-- ITS FALSE NEIGHBOUR: 'it returns false'. Refute it at one input. -/
def secretFewestWrong : ChangeSpec := { name := "secretFewest", fn := fun _ => fun
  | [d1, d2] => { results := [.lit (.bool false)], args := [d1, d2] }
  | _ => none }
def SecretFewestWrongFalsely : Prop := secretFewestRow.holds Try.pinned (OpenSpec.ofChange secretFewestWrong)

/-- 'escribanolaw12.SecretKept': WHATEVER THE INPUT: true; the input reads as it did. -/
def secretKeptSpec : ChangeSpec := { name := "secretKept", fn := fun _ => fun
  | [d1, d2] => { results := [.lit (.bool true)], args := [d1, d2] }
  | _ => none }
def secretKeptRow : OpenClaim := { program := "ytmhbjohpggghgaa", sum := "9839138f9081790067193cd30f17675861cc9879d728a44ee0fec7c1c7780e17", func := "escribano/escribanolaw12.SecretKept", spec := "secretKept", unfollowed := true, recurses := true, plainKeys := false, apart := false }
def SecretKeptSaid : Prop := secretKeptRow.holds Try.pinned (OpenSpec.ofChange secretKeptSpec)

/-- ITS FALSE NEIGHBOUR: 'it returns false'. Refute it at one input. -/
def secretKeptWrong : ChangeSpec := { name := "secretKept", fn := fun _ => fun
  | [d1, d2] => { results := [.lit (.bool false)], args := [d1, d2] }
  | _ => none }
def SecretKeptWrongFalsely : Prop := secretKeptRow.holds Try.pinned (OpenSpec.ofChange secretKeptWrong)

/-- 'escribanolaw12.SecretMore': WHATEVER THE INPUT: true; the input reads as it did. -/
def secretMoreSpec : ChangeSpec := { name := "secretMore", fn := fun _ => fun
  | [d1, d2, d3] => { results := [.lit (.bool true)], args := [d1, d2, d3] }
  | _ => none }
def secretMoreRow : OpenClaim := { program := "ytmhbjohpggghgaa", sum := "9839138f9081790067193cd30f17675861cc9879d728a44ee0fec7c1c7780e17", func := "escribano/escribanolaw12.SecretMore", spec := "secretMore", unfollowed := true, recurses := true, plainKeys := false, apart := false }
def SecretMoreSaid : Prop := secretMoreRow.holds Try.pinned (OpenSpec.ofChange secretMoreSpec)

/-- ITS FALSE NEIGHBOUR: 'it returns false'. Refute it at one input. -/
def secretMoreWrong : ChangeSpec := { name := "secretMore", fn := fun _ => fun
  | [d1, d2, d3] => { results := [.lit (.bool false)], args := [d1, d2, d3] }
  | _ => none }
def SecretMoreWrongFalsely : Prop := secretMoreRow.holds Try.pinned (OpenSpec.ofChange secretMoreWrong)

/-- 'escribanolaw12.SecretDays': WHATEVER THE INPUT: true; the input reads as it did. -/
def secretDaysSpec : ChangeSpec := { name := "secretDays", fn := fun _ => fun
  | [d1, d2] => { results := [.lit (.bool true)], args := [d1, d2] }
  | _ => none }
def secretDaysRow : OpenClaim := { program := "ytmhbjohpggghgaa", sum := "9839138f9081790067193cd30f17675861cc9879d728a44ee0fec7c1c7780e17", func := "escribano/escribanolaw12.SecretDays", spec := "secretDays", unfollowed := true, recurses := true, plainKeys := false, apart := false }
def SecretDaysSaid : Prop := secretDaysRow.holds Try.pinned (OpenSpec.ofChange secretDaysSpec)

/-- ITS FALSE NEIGHBOUR: 'it returns false'. Refute it at one input. -/
def secretDaysWrong : ChangeSpec := { name := "secretDays", fn := fun _ => fun
  | [d1, d2] => { results := [.lit (.bool false)], args := [d1, d2] }
  | _ => none }
def SecretDaysWrongFalsely : Prop := secretDaysRow.holds Try.pinned (OpenSpec.ofChange secretDaysWrong)

/-- 'escribanolaw12.SecretCut': WHATEVER THE INPUT: true; the input reads as it did. -/
def secretCutSpec : ChangeSpec := { name := "secretCut", fn := fun _ => fun
  | [d1, d2] => { results := [.lit (.bool true)], args := [d1, d2] }
  | _ => none }
def secretCutRow : OpenClaim := { program := "ytmhbjohpggghgaa", sum := "9839138f9081790067193cd30f17675861cc9879d728a44ee0fec7c1c7780e17", func := "escribano/escribanolaw12.SecretCut", spec := "secretCut", unfollowed := true, recurses := true, plainKeys := false, apart := false }
def SecretCutSaid : Prop := secretCutRow.holds Try.pinned (OpenSpec.ofChange secretCutSpec)

/-- ITS FALSE NEIGHBOUR: 'it returns false'. Refute it at one input. -/
def secretCutWrong : ChangeSpec := { name := "secretCut", fn := fun _ => fun
  | [d1, d2] => { results := [.lit (.bool false)], args := [d1, d2] }
  | _ => none }
def SecretCutWrongFalsely : Prop := secretCutRow.holds Try.pinned (OpenSpec.ofChange secretCutWrong)

/-- 'escribanolaw12.SecretMay': WHATEVER THE INPUT: true; the input reads as it did. -/
def secretMaySpec : ChangeSpec := { name := "secretMay", fn := fun _ => fun
  | [d1, d2] => { results := [.lit (.bool true)], args := [d1, d2] }
  | _ => none }
def secretMayRow : OpenClaim := { program := "ytmhbjohpggghgaa", sum := "9839138f9081790067193cd30f17675861cc9879d728a44ee0fec7c1c7780e17", func := "escribano/escribanolaw12.SecretMay", spec := "secretMay", unfollowed := true, recurses := true, plainKeys := false, apart := false }
def SecretMaySaid : Prop := secretMayRow.holds Try.pinned (OpenSpec.ofChange secretMaySpec)

/-- ITS FALSE NEIGHBOUR: 'it returns false'. Refute it at one input. -/
def secretMayWrong : ChangeSpec := { name := "secretMay", fn := fun _ => fun
  | [d1, d2] => { results := [.lit (.bool false)], args := [d1, d2] }
  | _ => none }
def SecretMayWrongFalsely : Prop := secretMayRow.holds Try.pinned (OpenSpec.ofChange secretMayWrong)

/-- 'escribanolaw12.SecretLeak': WHATEVER THE INPUT: true; the input reads as it did. -/
def secretLeakSpec : ChangeSpec := { name := "secretLeak", fn := fun _ => fun
  | [d1, d2, d3] => { results := [.lit (.bool true)], args := [d1, d2, d3] }
  | _ => none }
def secretLeakRow : OpenClaim := { program := "ytmhbjohpggghgaa", sum := "9839138f9081790067193cd30f17675861cc9879d728a44ee0fec7c1c7780e17", func := "escribano/escribanolaw12.SecretLeak", spec := "secretLeak", unfollowed := true, recurses := true, plainKeys := false, apart := false }
def SecretLeakSaid : Prop := secretLeakRow.holds Try.pinned (OpenSpec.ofChange secretLeakSpec)

/-- ITS FALSE NEIGHBOUR: 'it returns false'. Refute it at one input. -/
def secretLeakWrong : ChangeSpec := { name := "secretLeak", fn := fun _ => fun
  | [d1, d2, d3] => { results := [.lit (.bool false)], args := [d1, d2, d3] }
  | _ => none }
def SecretLeakWrongFalsely : Prop := secretLeakRow.holds Try.pinned (OpenSpec.ofChange secretLeakWrong)

/- THE SECOND FORM. 'bulk': how many values and letters a reading holds, each counted each time it is reached (what is shared counts as often as it is met; a slice's spare places count too). A statement '..UptoSaid' is the law's where the arguments, and the package variables that the reading takes, are together of bulk at most 1048576: NARROWER than '..Said'. Prove '..Said' where nothing that the law and all that it calls make is longer than what came in: it says more and counts as full. Else prove '..UptoSaid'. A law counts once. -/
mutual
def uptoBulk {H : Type} : DataW H → Nat
  | .lit (.string bytes) => bytes.length + 1
  | .lit _ => 1
  | .nil => 1
  | .ptr d => uptoBulk d + 1
  | .slice elems spare => uptoBulkAll elems + uptoBulkAll spare + 1
  | .agg parts => uptoBulkAll parts + 1
  | .iface _ d => uptoBulk d + 1
  | .map entries => uptoBulkEntries entries + 1
  | .held _ => 1
def uptoBulkAll {H : Type} : List (DataW H) → Nat
  | [] => 0
  | d :: r => uptoBulk d + uptoBulkAll r
def uptoBulkEntries {H : Type} : List (Lit × DataW H) → Nat
  | [] => 0
  | x :: r => uptoBulkEntry x + uptoBulkEntries r
def uptoBulkEntry {H : Type} : Lit × DataW H → Nat
  | (.string bytes, d) => bytes.length + uptoBulk d + 1
  | (_, d) => uptoBulk d + 1
 end
def uptoSmall : (H : Type) → List (DataW H) → Bool := fun _ ds => decide (uptoBulkAll ds ≤ 1048576)
def OpenSpec.upto (s : _root_.Go.ChangeSpec) : _root_.Go.OpenSpec := { _root_.Go.OpenSpec.ofChange s with cond := some uptoSmall }

/-- 'escribanolaw12.SecretKnows', WHERE WHAT IT READS IS OF BULK AT MOST 1048576: true; the input reads as it did. -/
def secretKnowsUptoRow : OpenClaim := { program := "ytmhbjohpggghgaa", sum := "9839138f9081790067193cd30f17675861cc9879d728a44ee0fec7c1c7780e17", func := "escribano/escribanolaw12.SecretKnows", spec := "secretKnows", unfollowed := true, recurses := true, plainKeys := false, apart := false, narrowed := true }
def SecretKnowsUptoSaid : Prop := secretKnowsUptoRow.holds Try.pinned (OpenSpec.upto secretKnowsSpec)

/-- 'escribanolaw12.SecretTolds', WHERE WHAT IT READS IS OF BULK AT MOST 1048576: true; the input reads as it did. -/
def secretToldsUptoRow : OpenClaim := { program := "ytmhbjohpggghgaa", sum := "9839138f9081790067193cd30f17675861cc9879d728a44ee0fec7c1c7780e17", func := "escribano/escribanolaw12.SecretTolds", spec := "secretTolds", unfollowed := true, recurses := true, plainKeys := false, apart := false, narrowed := true }
def SecretToldsUptoSaid : Prop := secretToldsUptoRow.holds Try.pinned (OpenSpec.upto secretToldsSpec)

/-- 'escribanolaw12.SecretPlans', WHERE WHAT IT READS IS OF BULK AT MOST 1048576: true; the input reads as it did. -/
def secretPlansUptoRow : OpenClaim := { program := "ytmhbjohpggghgaa", sum := "9839138f9081790067193cd30f17675861cc9879d728a44ee0fec7c1c7780e17", func := "escribano/escribanolaw12.SecretPlans", spec := "secretPlans", unfollowed := true, recurses := true, plainKeys := false, apart := false, narrowed := true }
def SecretPlansUptoSaid : Prop := secretPlansUptoRow.holds Try.pinned (OpenSpec.upto secretPlansSpec)

/-- 'escribanolaw12.SecretCuts', WHERE WHAT IT READS IS OF BULK AT MOST 1048576: true; the input reads as it did. -/
def secretCutsUptoRow : OpenClaim := { program := "ytmhbjohpggghgaa", sum := "9839138f9081790067193cd30f17675861cc9879d728a44ee0fec7c1c7780e17", func := "escribano/escribanolaw12.SecretCuts", spec := "secretCuts", unfollowed := true, recurses := true, plainKeys := false, apart := false, narrowed := true }
def SecretCutsUptoSaid : Prop := secretCutsUptoRow.holds Try.pinned (OpenSpec.upto secretCutsSpec)

/-- 'escribanolaw12.SecretKnown', WHERE WHAT IT READS IS OF BULK AT MOST 1048576: true; the input reads as it did. -/
def secretKnownUptoRow : OpenClaim := { program := "ytmhbjohpggghgaa", sum := "9839138f9081790067193cd30f17675861cc9879d728a44ee0fec7c1c7780e17", func := "escribano/escribanolaw12.SecretKnown", spec := "secretKnown", unfollowed := true, recurses := true, plainKeys := false, apart := false, narrowed := true }
def SecretKnownUptoSaid : Prop := secretKnownUptoRow.holds Try.pinned (OpenSpec.upto secretKnownSpec)

/-- 'escribanolaw12.SecretTrue', WHERE WHAT IT READS IS OF BULK AT MOST 1048576: true; the input reads as it did. -/
def secretTrueUptoRow : OpenClaim := { program := "ytmhbjohpggghgaa", sum := "9839138f9081790067193cd30f17675861cc9879d728a44ee0fec7c1c7780e17", func := "escribano/escribanolaw12.SecretTrue", spec := "secretTrue", unfollowed := true, recurses := true, plainKeys := false, apart := false, narrowed := true }
def SecretTrueUptoSaid : Prop := secretTrueUptoRow.holds Try.pinned (OpenSpec.upto secretTrueSpec)

/-- 'escribanolaw12.SecretFewest', WHERE WHAT IT READS IS OF BULK AT MOST 1048576: true; the input reads as it did. -/
def secretFewestUptoRow : OpenClaim := { program := "ytmhbjohpggghgaa", sum := "9839138f9081790067193cd30f17675861cc9879d728a44ee0fec7c1c7780e17", func := "escribano/escribanolaw12.SecretFewest", spec := "secretFewest", unfollowed := true, recurses := true, plainKeys := false, apart := false, narrowed := true }
def SecretFewestUptoSaid : Prop := secretFewestUptoRow.holds Try.pinned (OpenSpec.upto secretFewestSpec)

/-- 'escribanolaw12.SecretKept', WHERE WHAT IT READS IS OF BULK AT MOST 1048576: true; the input reads as it did. -/
def secretKeptUptoRow : OpenClaim := { program := "ytmhbjohpggghgaa", sum := "9839138f9081790067193cd30f17675861cc9879d728a44ee0fec7c1c7780e17", func := "escribano/escribanolaw12.SecretKept", spec := "secretKept", unfollowed := true, recurses := true, plainKeys := false, apart := false, narrowed := true }
def SecretKeptUptoSaid : Prop := secretKeptUptoRow.holds Try.pinned (OpenSpec.upto secretKeptSpec)

/-- 'escribanolaw12.SecretMore', WHERE WHAT IT READS IS OF BULK AT MOST 1048576: true; the input reads as it did. -/
def secretMoreUptoRow : OpenClaim := { program := "ytmhbjohpggghgaa", sum := "9839138f9081790067193cd30f17675861cc9879d728a44ee0fec7c1c7780e17", func := "escribano/escribanolaw12.SecretMore", spec := "secretMore", unfollowed := true, recurses := true, plainKeys := false, apart := false, narrowed := true }
def SecretMoreUptoSaid : Prop := secretMoreUptoRow.holds Try.pinned (OpenSpec.upto secretMoreSpec)

/-- 'escribanolaw12.SecretDays', WHERE WHAT IT READS IS OF BULK AT MOST 1048576: true; the input reads as it did. -/
def secretDaysUptoRow : OpenClaim := { program := "ytmhbjohpggghgaa", sum := "9839138f9081790067193cd30f17675861cc9879d728a44ee0fec7c1c7780e17", func := "escribano/escribanolaw12.SecretDays", spec := "secretDays", unfollowed := true, recurses := true, plainKeys := false, apart := false, narrowed := true }
def SecretDaysUptoSaid : Prop := secretDaysUptoRow.holds Try.pinned (OpenSpec.upto secretDaysSpec)

/-- 'escribanolaw12.SecretCut', WHERE WHAT IT READS IS OF BULK AT MOST 1048576: true; the input reads as it did. -/
def secretCutUptoRow : OpenClaim := { program := "ytmhbjohpggghgaa", sum := "9839138f9081790067193cd30f17675861cc9879d728a44ee0fec7c1c7780e17", func := "escribano/escribanolaw12.SecretCut", spec := "secretCut", unfollowed := true, recurses := true, plainKeys := false, apart := false, narrowed := true }
def SecretCutUptoSaid : Prop := secretCutUptoRow.holds Try.pinned (OpenSpec.upto secretCutSpec)

/-- 'escribanolaw12.SecretMay', WHERE WHAT IT READS IS OF BULK AT MOST 1048576: true; the input reads as it did. -/
def secretMayUptoRow : OpenClaim := { program := "ytmhbjohpggghgaa", sum := "9839138f9081790067193cd30f17675861cc9879d728a44ee0fec7c1c7780e17", func := "escribano/escribanolaw12.SecretMay", spec := "secretMay", unfollowed := true, recurses := true, plainKeys := false, apart := false, narrowed := true }
def SecretMayUptoSaid : Prop := secretMayUptoRow.holds Try.pinned (OpenSpec.upto secretMaySpec)

/-- 'escribanolaw12.SecretLeak', WHERE WHAT IT READS IS OF BULK AT MOST 1048576: true; the input reads as it did. -/
def secretLeakUptoRow : OpenClaim := { program := "ytmhbjohpggghgaa", sum := "9839138f9081790067193cd30f17675861cc9879d728a44ee0fec7c1c7780e17", func := "escribano/escribanolaw12.SecretLeak", spec := "secretLeak", unfollowed := true, recurses := true, plainKeys := false, apart := false, narrowed := true }
def SecretLeakUptoSaid : Prop := secretLeakUptoRow.holds Try.pinned (OpenSpec.upto secretLeakSpec)

end Rows
end Go.Proofs.Ytmhbjohpggghgaa
