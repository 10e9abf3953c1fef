/-
  No cell of these rows narrows 'for every input' (looked for: loops, veiled, ifaces, maps, wideKeys, modest, calm, conditions, laid).
  DERIVED. THE GIVEN ROWS OF THIS SEAT. 13 by the template 'for every input the law returns true; each argument reads behind the call as it read before'; 0 by the template 'total and deterministic' (their statements: YtchnpekgmkhacaaTotals.lean).
  GIVEN WITH THE SEED: the statements are not yours to turn. If you find one false, say at which input.
  Laid BY PROGRAM, IN A SANDBOX (cutbox-rows.mjs): the forced cells as the released guide's own fill.sh prints them over the translation cd965c61b22fd0fa… (all of the seat's roots in one cut). By AI agents, Wed Nov 11 2026. No macro, syntax, notation, axiom, sorry.
-/
import Derived.Test.YtchnpekgmkhacaaChecked
import GoSem.Claim
import GoSem.ClaimJoined
import GoSem.ClaimMapViews
import Derived.JoinedTies
import Derived.KernelRfl
namespace Go.Proofs.Ytchnpekgmkhacaa
/- THE CELL 'sum', in the pinned program and in every row, IS THE sha256 OF THE DUMP (.gsa) THAT YtchnpekgmkhacaaProg.lean LOADS. Nothing in Lean hashes anything: it is a label: what it is worth is what the hold of that sum in a sandbox is worth. -/
noncomputable def Try.pinned : Pinned := { name := "ytchnpekgmkhacaa", sum := "cd965c61b22fd0fa6e26679d5f5a1990ff98725d3f7ea1aedf5a3932aba42ad6", checked := Try.checked }
namespace Rows
def none {H : Type} : Left H := { results := [], args := [] }

/-- 'escribanolaw09.DeskEnds': WHATEVER THE INPUT: true; the input reads as it did. -/
def deskEndsSpec : ChangeSpec := { name := "deskEnds", fn := fun _ => fun
  | [d1, d2] => { results := [.lit (.bool true)], args := [d1, d2] }
  | _ => none }
def deskEndsRow : OpenClaim := { program := "ytchnpekgmkhacaa", sum := "cd965c61b22fd0fa6e26679d5f5a1990ff98725d3f7ea1aedf5a3932aba42ad6", func := "escribano/escribanolaw09.DeskEnds", spec := "deskEnds", unfollowed := true, recurses := true, plainKeys := false, apart := false }
def DeskEndsSaid : Prop := deskEndsRow.holds Try.pinned (OpenSpec.ofChange deskEndsSpec)

/-- ITS FALSE NEIGHBOUR: 'it returns false'. Refute it at one input. -/
def deskEndsWrong : ChangeSpec := { name := "deskEnds", fn := fun _ => fun
  | [d1, d2] => { results := [.lit (.bool false)], args := [d1, d2] }
  | _ => none }
def DeskEndsWrongFalsely : Prop := deskEndsRow.holds Try.pinned (OpenSpec.ofChange deskEndsWrong)

/-- 'escribanolaw09.DeskLates': WHATEVER THE INPUT: true; the input reads as it did. -/
def deskLatesSpec : ChangeSpec := { name := "deskLates", fn := fun _ => fun
  | [d1, d2] => { results := [.lit (.bool true)], args := [d1, d2] }
  | _ => none }
def deskLatesRow : OpenClaim := { program := "ytchnpekgmkhacaa", sum := "cd965c61b22fd0fa6e26679d5f5a1990ff98725d3f7ea1aedf5a3932aba42ad6", func := "escribano/escribanolaw09.DeskLates", spec := "deskLates", unfollowed := true, recurses := true, plainKeys := false, apart := false }
def DeskLatesSaid : Prop := deskLatesRow.holds Try.pinned (OpenSpec.ofChange deskLatesSpec)

/-- ITS FALSE NEIGHBOUR: 'it returns false'. Refute it at one input. -/
def deskLatesWrong : ChangeSpec := { name := "deskLates", fn := fun _ => fun
  | [d1, d2] => { results := [.lit (.bool false)], args := [d1, d2] }
  | _ => none }
def DeskLatesWrongFalsely : Prop := deskLatesRow.holds Try.pinned (OpenSpec.ofChange deskLatesWrong)

/-- 'escribanolaw09.DeskBests': WHATEVER THE INPUT: true; the input reads as it did. -/
def deskBestsSpec : ChangeSpec := { name := "deskBests", fn := fun _ => fun
  | [d] => { results := [.lit (.bool true)], args := [d] }
  | _ => none }
def deskBestsRow : OpenClaim := { program := "ytchnpekgmkhacaa", sum := "cd965c61b22fd0fa6e26679d5f5a1990ff98725d3f7ea1aedf5a3932aba42ad6", func := "escribano/escribanolaw09.DeskBests", spec := "deskBests", unfollowed := true, recurses := true, plainKeys := false, apart := false }
def DeskBestsSaid : Prop := deskBestsRow.holds Try.pinned (OpenSpec.ofChange deskBestsSpec)

/-- ITS FALSE NEIGHBOUR: 'it returns false'. Refute it at one input. -/
def deskBestsWrong : ChangeSpec := { name := "deskBests", fn := fun _ => fun
  | [d] => { results := [.lit (.bool false)], args := [d] }
  | _ => none }
def DeskBestsWrongFalsely : Prop := deskBestsRow.holds Try.pinned (OpenSpec.ofChange deskBestsWrong)

/-- 'escribanolaw09.DeskAways': WHATEVER THE INPUT: true; the input reads as it did. -/
def deskAwaysSpec : ChangeSpec := { name := "deskAways", fn := fun _ => fun
  | [d1, d2] => { results := [.lit (.bool true)], args := [d1, d2] }
  | _ => none }
def deskAwaysRow : OpenClaim := { program := "ytchnpekgmkhacaa", sum := "cd965c61b22fd0fa6e26679d5f5a1990ff98725d3f7ea1aedf5a3932aba42ad6", func := "escribano/escribanolaw09.DeskAways", spec := "deskAways", unfollowed := true, recurses := true, plainKeys := false, apart := false }
def DeskAwaysSaid : Prop := deskAwaysRow.holds Try.pinned (OpenSpec.ofChange deskAwaysSpec)

/-- ITS FALSE NEIGHBOUR: 'it returns false'. Refute it at one input. -/
def deskAwaysWrong : ChangeSpec := { name := "deskAways", fn := fun _ => fun
  | [d1, d2] => { results := [.lit (.bool false)], args := [d1, d2] }
  | _ => none }
def DeskAwaysWrongFalsely : Prop := deskAwaysRow.holds Try.pinned (OpenSpec.ofChange deskAwaysWrong)

/-- 'escribanolaw09.DeskKnown': WHATEVER THE INPUT: true; the input reads as it did. -/
def deskKnownSpec : ChangeSpec := { name := "deskKnown", fn := fun _ => fun
  | [] => { results := [.lit (.bool true)], args := [] }
  | _ => none }
def deskKnownRow : OpenClaim := { program := "ytchnpekgmkhacaa", sum := "cd965c61b22fd0fa6e26679d5f5a1990ff98725d3f7ea1aedf5a3932aba42ad6", func := "escribano/escribanolaw09.DeskKnown", spec := "deskKnown", unfollowed := true, recurses := true, plainKeys := false, apart := false }
def DeskKnownSaid : Prop := deskKnownRow.holds Try.pinned (OpenSpec.ofChange deskKnownSpec)

/-- ITS FALSE NEIGHBOUR: 'it returns false'. Refute it at one input. -/
def deskKnownWrong : ChangeSpec := { name := "deskKnown", fn := fun _ => fun
  | [] => { results := [.lit (.bool false)], args := [] }
  | _ => none }
def DeskKnownWrongFalsely : Prop := deskKnownRow.holds Try.pinned (OpenSpec.ofChange deskKnownWrong)

/-- 'escribanolaw09.DeskTrue': WHATEVER THE INPUT: true; the input reads as it did. -/
def deskTrueSpec : ChangeSpec := { name := "deskTrue", fn := fun _ => fun
  | [d1, d2] => { results := [.lit (.bool true)], args := [d1, d2] }
  | _ => none }
def deskTrueRow : OpenClaim := { program := "ytchnpekgmkhacaa", sum := "cd965c61b22fd0fa6e26679d5f5a1990ff98725d3f7ea1aedf5a3932aba42ad6", func := "escribano/escribanolaw09.DeskTrue", spec := "deskTrue", unfollowed := true, recurses := true, plainKeys := false, apart := false }
def DeskTrueSaid : Prop := deskTrueRow.holds Try.pinned (OpenSpec.ofChange deskTrueSpec)

/-- ITS FALSE NEIGHBOUR: 'it returns false'. Refute it at one input. -/
def deskTrueWrong : ChangeSpec := { name := "deskTrue", fn := fun _ => fun
  | [d1, d2] => { results := [.lit (.bool false)], args := [d1, d2] }
  | _ => none }
def DeskTrueWrongFalsely : Prop := deskTrueRow.holds Try.pinned (OpenSpec.ofChange deskTrueWrong)

/-- 'escribanolaw09.DeskFirst': WHATEVER THE INPUT: true; the input reads as it did. -/
def deskFirstSpec : ChangeSpec := { name := "deskFirst", fn := fun _ => fun
  | [d1, d2, d3] => { results := [.lit (.bool true)], args := [d1, d2, d3] }
  | _ => none }
def deskFirstRow : OpenClaim := { program := "ytchnpekgmkhacaa", sum := "cd965c61b22fd0fa6e26679d5f5a1990ff98725d3f7ea1aedf5a3932aba42ad6", func := "escribano/escribanolaw09.DeskFirst", spec := "deskFirst", unfollowed := true, recurses := true, plainKeys := false, apart := false }
def DeskFirstSaid : Prop := deskFirstRow.holds Try.pinned (OpenSpec.ofChange deskFirstSpec)

/-- ITS FALSE NEIGHBOUR: 'it returns false'. Refute it at one input. -/
def deskFirstWrong : ChangeSpec := { name := "deskFirst", fn := fun _ => fun
  | [d1, d2, d3] => { results := [.lit (.bool false)], args := [d1, d2, d3] }
  | _ => none }
def DeskFirstWrongFalsely : Prop := deskFirstRow.holds Try.pinned (OpenSpec.ofChange deskFirstWrong)

/-- 'escribanolaw09.DeskBetter': WHATEVER THE INPUT: true; the input reads as it did. -/
def deskBetterSpec : ChangeSpec := { name := "deskBetter", fn := fun _ => fun
  | [d1, d2] => { results := [.lit (.bool true)], args := [d1, d2] }
  | _ => none }
def deskBetterRow : OpenClaim := { program := "ytchnpekgmkhacaa", sum := "cd965c61b22fd0fa6e26679d5f5a1990ff98725d3f7ea1aedf5a3932aba42ad6", func := "escribano/escribanolaw09.DeskBetter", spec := "deskBetter", unfollowed := true, recurses := true, plainKeys := false, apart := false }
def DeskBetterSaid : Prop := deskBetterRow.holds Try.pinned (OpenSpec.ofChange deskBetterSpec)

/-- ITS FALSE NEIGHBOUR: 'it returns false'. Refute it at one input. -/
def deskBetterWrong : ChangeSpec := { name := "deskBetter", fn := fun _ => fun
  | [d1, d2] => { results := [.lit (.bool false)], args := [d1, d2] }
  | _ => none }
def DeskBetterWrongFalsely : Prop := deskBetterRow.holds Try.pinned (OpenSpec.ofChange deskBetterWrong)

/-- 'escribanolaw09.DeskFewest': WHATEVER THE INPUT: true; the input reads as it did. -/
def deskFewestSpec : ChangeSpec := { name := "deskFewest", fn := fun _ => fun
  | [d1, d2] => { results := [.lit (.bool true)], args := [d1, d2] }
  | _ => none }
def deskFewestRow : OpenClaim := { program := "ytchnpekgmkhacaa", sum := "cd965c61b22fd0fa6e26679d5f5a1990ff98725d3f7ea1aedf5a3932aba42ad6", func := "escribano/escribanolaw09.DeskFewest", spec := "deskFewest", unfollowed := true, recurses := true, plainKeys := false, apart := false }
def DeskFewestSaid : Prop := deskFewestRow.holds Try.pinned (OpenSpec.ofChange deskFewestSpec)

/-- ITS FALSE NEIGHBOUR: 'it returns false'. Refute it at one input. -/
def deskFewestWrong : ChangeSpec := { name := "deskFewest", fn := fun _ => fun
  | [d1, d2] => { results := [.lit (.bool false)], args := [d1, d2] }
  | _ => none }
def DeskFewestWrongFalsely : Prop := deskFewestRow.holds Try.pinned (OpenSpec.ofChange deskFewestWrong)

/-- 'escribanolaw09.DeskLater': WHATEVER THE INPUT: true; the input reads as it did. -/
def deskLaterSpec : ChangeSpec := { name := "deskLater", fn := fun _ => fun
  | [d1, d2] => { results := [.lit (.bool true)], args := [d1, d2] }
  | _ => none }
def deskLaterRow : OpenClaim := { program := "ytchnpekgmkhacaa", sum := "cd965c61b22fd0fa6e26679d5f5a1990ff98725d3f7ea1aedf5a3932aba42ad6", func := "escribano/escribanolaw09.DeskLater", spec := "deskLater", unfollowed := true, recurses := true, plainKeys := false, apart := false }
def DeskLaterSaid : Prop := deskLaterRow.holds Try.pinned (OpenSpec.ofChange deskLaterSpec)

/-- ITS FALSE NEIGHBOUR: 'it returns false'. Refute it at one input. -/
def deskLaterWrong : ChangeSpec := { name := "deskLater", fn := fun _ => fun
  | [d1, d2] => { results := [.lit (.bool false)], args := [d1, d2] }
  | _ => none }
def DeskLaterWrongFalsely : Prop := deskLaterRow.holds Try.pinned (OpenSpec.ofChange deskLaterWrong)

/-- 'escribanolaw09.DeskNarrow': WHATEVER THE INPUT: true; the input reads as it did. -/
def deskNarrowSpec : ChangeSpec := { name := "deskNarrow", fn := fun _ => fun
  | [d1, d2, d3] => { results := [.lit (.bool true)], args := [d1, d2, d3] }
  | _ => none }
def deskNarrowRow : OpenClaim := { program := "ytchnpekgmkhacaa", sum := "cd965c61b22fd0fa6e26679d5f5a1990ff98725d3f7ea1aedf5a3932aba42ad6", func := "escribano/escribanolaw09.DeskNarrow", spec := "deskNarrow", unfollowed := true, recurses := true, plainKeys := false, apart := false }
def DeskNarrowSaid : Prop := deskNarrowRow.holds Try.pinned (OpenSpec.ofChange deskNarrowSpec)

/-- ITS FALSE NEIGHBOUR: 'it returns false'. Refute it at one input. -/
def deskNarrowWrong : ChangeSpec := { name := "deskNarrow", fn := fun _ => fun
  | [d1, d2, d3] => { results := [.lit (.bool false)], args := [d1, d2, d3] }
  | _ => none }
def DeskNarrowWrongFalsely : Prop := deskNarrowRow.holds Try.pinned (OpenSpec.ofChange deskNarrowWrong)

/-- 'escribanolaw09.DeskEasier': WHATEVER THE INPUT: true; the input reads as it did. -/
def deskEasierSpec : ChangeSpec := { name := "deskEasier", fn := fun _ => fun
  | [d1, d2] => { results := [.lit (.bool true)], args := [d1, d2] }
  | _ => none }
def deskEasierRow : OpenClaim := { program := "ytchnpekgmkhacaa", sum := "cd965c61b22fd0fa6e26679d5f5a1990ff98725d3f7ea1aedf5a3932aba42ad6", func := "escribano/escribanolaw09.DeskEasier", spec := "deskEasier", unfollowed := true, recurses := true, plainKeys := false, apart := false }
def DeskEasierSaid : Prop := deskEasierRow.holds Try.pinned (OpenSpec.ofChange deskEasierSpec)

/-- ITS FALSE NEIGHBOUR: 'it returns false'. Refute it at one input. -/
def deskEasierWrong : ChangeSpec := { name := "deskEasier", fn := fun _ => fun
  | [d1, d2] => { results := [.lit (.bool false)], args := [d1, d2] }
  | _ => none }
def DeskEasierWrongFalsely : Prop := deskEasierRow.holds Try.pinned (OpenSpec.ofChange deskEasierWrong)

/-- 'escribanolaw09.DeskShips': WHATEVER THE INPUT: true; the input reads as it did. -/
def deskShipsSpec : ChangeSpec := { name := "deskShips", fn := fun _ => fun
  | [d1, d2] => { results := [.lit (.bool true)], args := [d1, d2] }
  | _ => none }
def deskShipsRow : OpenClaim := { program := "ytchnpekgmkhacaa", sum := "cd965c61b22fd0fa6e26679d5f5a1990ff98725d3f7ea1aedf5a3932aba42ad6", func := "escribano/escribanolaw09.DeskShips", spec := "deskShips", unfollowed := true, recurses := true, plainKeys := false, apart := false }
def DeskShipsSaid : Prop := deskShipsRow.holds Try.pinned (OpenSpec.ofChange deskShipsSpec)

/-- ITS FALSE NEIGHBOUR: 'it returns false'. Refute it at one input. -/
def deskShipsWrong : ChangeSpec := { name := "deskShips", fn := fun _ => fun
  | [d1, d2] => { results := [.lit (.bool false)], args := [d1, d2] }
  | _ => none }
def DeskShipsWrongFalsely : Prop := deskShipsRow.holds Try.pinned (OpenSpec.ofChange deskShipsWrong)

/- THE SECOND FORM. 'bulk': how many values and letters a reading holds, each counted each time it is reached (what is shared counts as often as it is met; a slice's spare places count too). A statement '..UptoSaid' is the law's where the arguments, and the package variables that the reading takes, are together of bulk at most 1048576: NARROWER than '..Said'. Prove '..Said' where nothing that the law and all that it calls make is longer than what came in: it says more and counts as full. Else prove '..UptoSaid'. A law counts once. -/
mutual
def uptoBulk {H : Type} : DataW H → Nat
  | .lit (.string bytes) => bytes.length + 1
  | .lit _ => 1
  | .nil => 1
  | .ptr d => uptoBulk d + 1
  | .slice elems spare => uptoBulkAll elems + uptoBulkAll spare + 1
  | .agg parts => uptoBulkAll parts + 1
  | .iface _ d => uptoBulk d + 1
  | .map entries => uptoBulkEntries entries + 1
  | .held _ => 1
def uptoBulkAll {H : Type} : List (DataW H) → Nat
  | [] => 0
  | d :: r => uptoBulk d + uptoBulkAll r
def uptoBulkEntries {H : Type} : List (Lit × DataW H) → Nat
  | [] => 0
  | x :: r => uptoBulkEntry x + uptoBulkEntries r
def uptoBulkEntry {H : Type} : Lit × DataW H → Nat
  | (.string bytes, d) => bytes.length + uptoBulk d + 1
  | (_, d) => uptoBulk d + 1
 end
def uptoSmall : (H : Type) → List (DataW H) → Bool := fun _ ds => decide (uptoBulkAll ds ≤ 1048576)
def OpenSpec.upto (s : _root_.Go.ChangeSpec) : _root_.Go.OpenSpec := { _root_.Go.OpenSpec.ofChange s with cond := some uptoSmall }

/-- 'escribanolaw09.DeskEnds', WHERE WHAT IT READS IS OF BULK AT MOST 1048576: true; the input reads as it did. -/
def deskEndsUptoRow : OpenClaim := { program := "ytchnpekgmkhacaa", sum := "cd965c61b22fd0fa6e26679d5f5a1990ff98725d3f7ea1aedf5a3932aba42ad6", func := "escribano/escribanolaw09.DeskEnds", spec := "deskEnds", unfollowed := true, recurses := true, plainKeys := false, apart := false, narrowed := true }
def DeskEndsUptoSaid : Prop := deskEndsUptoRow.holds Try.pinned (OpenSpec.upto deskEndsSpec)

/-- 'escribanolaw09.DeskLates', WHERE WHAT IT READS IS OF BULK AT MOST 1048576: true; the input reads as it did. -/
def deskLatesUptoRow : OpenClaim := { program := "ytchnpekgmkhacaa", sum := "cd965c61b22fd0fa6e26679d5f5a1990ff98725d3f7ea1aedf5a3932aba42ad6", func := "escribano/escribanolaw09.DeskLates", spec := "deskLates", unfollowed := true, recurses := true, plainKeys := false, apart := false, narrowed := true }
def DeskLatesUptoSaid : Prop := deskLatesUptoRow.holds Try.pinned (OpenSpec.upto deskLatesSpec)

/-- 'escribanolaw09.DeskBests', WHERE WHAT IT READS IS OF BULK AT MOST 1048576: true; the input reads as it did. -/
def deskBestsUptoRow : OpenClaim := { program := "ytchnpekgmkhacaa", sum := "cd965c61b22fd0fa6e26679d5f5a1990ff98725d3f7ea1aedf5a3932aba42ad6", func := "escribano/escribanolaw09.DeskBests", spec := "deskBests", unfollowed := true, recurses := true, plainKeys := false, apart := false, narrowed := true }
def DeskBestsUptoSaid : Prop := deskBestsUptoRow.holds Try.pinned (OpenSpec.upto deskBestsSpec)

/-- 'escribanolaw09.DeskAways', WHERE WHAT IT READS IS OF BULK AT MOST 1048576: true; the input reads as it did. -/
def deskAwaysUptoRow : OpenClaim := { program := "ytchnpekgmkhacaa", sum := "cd965c61b22fd0fa6e26679d5f5a1990ff98725d3f7ea1aedf5a3932aba42ad6", func := "escribano/escribanolaw09.DeskAways", spec := "deskAways", unfollowed := true, recurses := true, plainKeys := false, apart := false, narrowed := true }
def DeskAwaysUptoSaid : Prop := deskAwaysUptoRow.holds Try.pinned (OpenSpec.upto deskAwaysSpec)

/-- 'escribanolaw09.DeskKnown', WHERE WHAT IT READS IS OF BULK AT MOST 1048576: true; the input reads as it did. -/
def deskKnownUptoRow : OpenClaim := { program := "ytchnpekgmkhacaa", sum := "cd965c61b22fd0fa6e26679d5f5a1990ff98725d3f7ea1aedf5a3932aba42ad6", func := "escribano/escribanolaw09.DeskKnown", spec := "deskKnown", unfollowed := true, recurses := true, plainKeys := false, apart := false, narrowed := true }
def DeskKnownUptoSaid : Prop := deskKnownUptoRow.holds Try.pinned (OpenSpec.upto deskKnownSpec)

/-- 'escribanolaw09.DeskTrue', WHERE WHAT IT READS IS OF BULK AT MOST 1048576: true; the input reads as it did. -/
def deskTrueUptoRow : OpenClaim := { program := "ytchnpekgmkhacaa", sum := "cd965c61b22fd0fa6e26679d5f5a1990ff98725d3f7ea1aedf5a3932aba42ad6", func := "escribano/escribanolaw09.DeskTrue", spec := "deskTrue", unfollowed := true, recurses := true, plainKeys := false, apart := false, narrowed := true }
def DeskTrueUptoSaid : Prop := deskTrueUptoRow.holds Try.pinned (OpenSpec.upto deskTrueSpec)

/-- 'escribanolaw09.DeskFirst', WHERE WHAT IT READS IS OF BULK AT MOST 1048576: true; the input reads as it did. -/
def deskFirstUptoRow : OpenClaim := { program := "ytchnpekgmkhacaa", sum := "cd965c61b22fd0fa6e26679d5f5a1990ff98725d3f7ea1aedf5a3932aba42ad6", func := "escribano/escribanolaw09.DeskFirst", spec := "deskFirst", unfollowed := true, recurses := true, plainKeys := false, apart := false, narrowed := true }
def DeskFirstUptoSaid : Prop := deskFirstUptoRow.holds Try.pinned (OpenSpec.upto deskFirstSpec)

/-- 'escribanolaw09.DeskBetter', WHERE WHAT IT READS IS OF BULK AT MOST 1048576: true; the input reads as it did. -/
def deskBetterUptoRow : OpenClaim := { program := "ytchnpekgmkhacaa", sum := "cd965c61b22fd0fa6e26679d5f5a1990ff98725d3f7ea1aedf5a3932aba42ad6", func := "escribano/escribanolaw09.DeskBetter", spec := "deskBetter", unfollowed := true, recurses := true, plainKeys := false, apart := false, narrowed := true }
def DeskBetterUptoSaid : Prop := deskBetterUptoRow.holds Try.pinned (OpenSpec.upto deskBetterSpec)

/-- 'escribanolaw09.DeskFewest', WHERE WHAT IT READS IS OF BULK AT MOST 1048576: true; the input reads as it did. -/
def deskFewestUptoRow : OpenClaim := { program := "ytchnpekgmkhacaa", sum := "cd965c61b22fd0fa6e26679d5f5a1990ff98725d3f7ea1aedf5a3932aba42ad6", func := "escribano/escribanolaw09.DeskFewest", spec := "deskFewest", unfollowed := true, recurses := true, plainKeys := false, apart := false, narrowed := true }
def DeskFewestUptoSaid : Prop := deskFewestUptoRow.holds Try.pinned (OpenSpec.upto deskFewestSpec)

/-- 'escribanolaw09.DeskLater', WHERE WHAT IT READS IS OF BULK AT MOST 1048576: true; the input reads as it did. -/
def deskLaterUptoRow : OpenClaim := { program := "ytchnpekgmkhacaa", sum := "cd965c61b22fd0fa6e26679d5f5a1990ff98725d3f7ea1aedf5a3932aba42ad6", func := "escribano/escribanolaw09.DeskLater", spec := "deskLater", unfollowed := true, recurses := true, plainKeys := false, apart := false, narrowed := true }
def DeskLaterUptoSaid : Prop := deskLaterUptoRow.holds Try.pinned (OpenSpec.upto deskLaterSpec)

/-- 'escribanolaw09.DeskNarrow', WHERE WHAT IT READS IS OF BULK AT MOST 1048576: true; the input reads as it did. -/
def deskNarrowUptoRow : OpenClaim := { program := "ytchnpekgmkhacaa", sum := "cd965c61b22fd0fa6e26679d5f5a1990ff98725d3f7ea1aedf5a3932aba42ad6", func := "escribano/escribanolaw09.DeskNarrow", spec := "deskNarrow", unfollowed := true, recurses := true, plainKeys := false, apart := false, narrowed := true }
def DeskNarrowUptoSaid : Prop := deskNarrowUptoRow.holds Try.pinned (OpenSpec.upto deskNarrowSpec)

/-- 'escribanolaw09.DeskEasier', WHERE WHAT IT READS IS OF BULK AT MOST 1048576: true; the input reads as it did. -/
def deskEasierUptoRow : OpenClaim := { program := "ytchnpekgmkhacaa", sum := "cd965c61b22fd0fa6e26679d5f5a1990ff98725d3f7ea1aedf5a3932aba42ad6", func := "escribano/escribanolaw09.DeskEasier", spec := "deskEasier", unfollowed := true, recurses := true, plainKeys := false, apart := false, narrowed := true }
def DeskEasierUptoSaid : Prop := deskEasierUptoRow.holds Try.pinned (OpenSpec.upto deskEasierSpec)

/-- 'escribanolaw09.DeskShips', WHERE WHAT IT READS IS OF BULK AT MOST 1048576: true; the input reads as it did. -/
def deskShipsUptoRow : OpenClaim := { program := "ytchnpekgmkhacaa", sum := "cd965c61b22fd0fa6e26679d5f5a1990ff98725d3f7ea1aedf5a3932aba42ad6", func := "escribano/escribanolaw09.DeskShips", spec := "deskShips", unfollowed := true, recurses := true, plainKeys := false, apart := false, narrowed := true }
def DeskShipsUptoSaid : Prop := deskShipsUptoRow.holds Try.pinned (OpenSpec.upto deskShipsSpec)

end Rows
end Go.Proofs.Ytchnpekgmkhacaa
