/-
  No cell of these rows narrows 'for every input' (looked for: loops, veiled, ifaces, maps, wideKeys, modest, calm, conditions, laid).
  DERIVED. THE GIVEN ROWS OF THIS SEAT. 13 by the template 'for every input the law returns true; each argument reads behind the call as it read before'; 0 by the template 'total and deterministic' (their statements: YtnlolliankhfmaaTotals.lean).
  GIVEN WITH THE SEED: the statements are not yours to turn. If you find one false, say at which input.
  Laid BY PROGRAM, IN A SANDBOX (cutbox-rows.mjs): the forced cells as the released guide's own fill.sh prints them over the translation 684a571364de39ce… (all of the seat's roots in one cut). By AI agents, Wed Nov 11 2026. No macro, syntax, notation, axiom, sorry.
-/
import Derived.Test.YtnlolliankhfmaaChecked
import GoSem.Claim
import GoSem.ClaimJoined
import GoSem.ClaimMapViews
import Derived.JoinedTies
import Derived.KernelRfl
namespace Go.Proofs.Ytnlolliankhfmaa
/- THE CELL 'sum', in the pinned program and in every row, IS THE sha256 OF THE DUMP (.gsa) THAT YtnlolliankhfmaaProg.lean LOADS. Nothing in Lean hashes anything: it is a label: what it is worth is what the hold of that sum in a sandbox is worth. -/
noncomputable def Try.pinned : Pinned := { name := "ytnlolliankhfmaa", sum := "684a571364de39ce4401e7df7fb18bcabab7639f212e35eb635448fba5477a5a", checked := Try.checked }
namespace Rows
def none {H : Type} : Left H := { results := [], args := [] }

/-- 'escribanolaw07.MoneyFirsts': WHATEVER THE INPUT: true; the input reads as it did. -/
def moneyFirstsSpec : ChangeSpec := { name := "moneyFirsts", fn := fun _ => fun
  | [d1, d2] => { results := [.lit (.bool true)], args := [d1, d2] }
  | _ => none }
def moneyFirstsRow : OpenClaim := { program := "ytnlolliankhfmaa", sum := "684a571364de39ce4401e7df7fb18bcabab7639f212e35eb635448fba5477a5a", func := "escribano/escribanolaw07.MoneyFirsts", spec := "moneyFirsts", unfollowed := true, recurses := true, plainKeys := false, apart := false }
def MoneyFirstsSaid : Prop := moneyFirstsRow.holds Try.pinned (OpenSpec.ofChange moneyFirstsSpec)

/-- ITS FALSE NEIGHBOUR: 'it returns false'. Refute it at one input. -/
def moneyFirstsWrong : ChangeSpec := { name := "moneyFirsts", fn := fun _ => fun
  | [d1, d2] => { results := [.lit (.bool false)], args := [d1, d2] }
  | _ => none }
def MoneyFirstsWrongFalsely : Prop := moneyFirstsRow.holds Try.pinned (OpenSpec.ofChange moneyFirstsWrong)

/-- 'escribanolaw07.MoneyPays': WHATEVER THE INPUT: true; the input reads as it did. -/
def moneyPaysSpec : ChangeSpec := { name := "moneyPays", fn := fun _ => fun
  | [d1, d2] => { results := [.lit (.bool true)], args := [d1, d2] }
  | _ => none }
def moneyPaysRow : OpenClaim := { program := "ytnlolliankhfmaa", sum := "684a571364de39ce4401e7df7fb18bcabab7639f212e35eb635448fba5477a5a", func := "escribano/escribanolaw07.MoneyPays", spec := "moneyPays", unfollowed := true, recurses := true, plainKeys := false, apart := false }
def MoneyPaysSaid : Prop := moneyPaysRow.holds Try.pinned (OpenSpec.ofChange moneyPaysSpec)

/-- ITS FALSE NEIGHBOUR: 'it returns false'. Refute it at one input. -/
def moneyPaysWrong : ChangeSpec := { name := "moneyPays", fn := fun _ => fun
  | [d1, d2] => { results := [.lit (.bool false)], args := [d1, d2] }
  | _ => none }
def MoneyPaysWrongFalsely : Prop := moneyPaysRow.holds Try.pinned (OpenSpec.ofChange moneyPaysWrong)

/-- 'escribanolaw07.MoneyWaits': WHATEVER THE INPUT: true; the input reads as it did. -/
def moneyWaitsSpec : ChangeSpec := { name := "moneyWaits", fn := fun _ => fun
  | [d] => { results := [.lit (.bool true)], args := [d] }
  | _ => none }
def moneyWaitsRow : OpenClaim := { program := "ytnlolliankhfmaa", sum := "684a571364de39ce4401e7df7fb18bcabab7639f212e35eb635448fba5477a5a", func := "escribano/escribanolaw07.MoneyWaits", spec := "moneyWaits", unfollowed := true, recurses := true, plainKeys := false, apart := false }
def MoneyWaitsSaid : Prop := moneyWaitsRow.holds Try.pinned (OpenSpec.ofChange moneyWaitsSpec)

/-- ITS FALSE NEIGHBOUR: 'it returns false'. Refute it at one input. -/
def moneyWaitsWrong : ChangeSpec := { name := "moneyWaits", fn := fun _ => fun
  | [d] => { results := [.lit (.bool false)], args := [d] }
  | _ => none }
def MoneyWaitsWrongFalsely : Prop := moneyWaitsRow.holds Try.pinned (OpenSpec.ofChange moneyWaitsWrong)

/-- 'escribanolaw07.MoneyOweds': WHATEVER THE INPUT: true; the input reads as it did. -/
def moneyOwedsSpec : ChangeSpec := { name := "moneyOweds", fn := fun _ => fun
  | [d1, d2] => { results := [.lit (.bool true)], args := [d1, d2] }
  | _ => none }
def moneyOwedsRow : OpenClaim := { program := "ytnlolliankhfmaa", sum := "684a571364de39ce4401e7df7fb18bcabab7639f212e35eb635448fba5477a5a", func := "escribano/escribanolaw07.MoneyOweds", spec := "moneyOweds", unfollowed := true, recurses := true, plainKeys := false, apart := false }
def MoneyOwedsSaid : Prop := moneyOwedsRow.holds Try.pinned (OpenSpec.ofChange moneyOwedsSpec)

/-- ITS FALSE NEIGHBOUR: 'it returns false'. Refute it at one input. -/
def moneyOwedsWrong : ChangeSpec := { name := "moneyOweds", fn := fun _ => fun
  | [d1, d2] => { results := [.lit (.bool false)], args := [d1, d2] }
  | _ => none }
def MoneyOwedsWrongFalsely : Prop := moneyOwedsRow.holds Try.pinned (OpenSpec.ofChange moneyOwedsWrong)

/-- 'escribanolaw07.MoneyKnown': WHATEVER THE INPUT: true; the input reads as it did. -/
def moneyKnownSpec : ChangeSpec := { name := "moneyKnown", fn := fun _ => fun
  | [] => { results := [.lit (.bool true)], args := [] }
  | _ => none }
def moneyKnownRow : OpenClaim := { program := "ytnlolliankhfmaa", sum := "684a571364de39ce4401e7df7fb18bcabab7639f212e35eb635448fba5477a5a", func := "escribano/escribanolaw07.MoneyKnown", spec := "moneyKnown", unfollowed := true, recurses := true, plainKeys := false, apart := false }
def MoneyKnownSaid : Prop := moneyKnownRow.holds Try.pinned (OpenSpec.ofChange moneyKnownSpec)

/-- ITS FALSE NEIGHBOUR: 'it returns false'. Refute it at one input. -/
def moneyKnownWrong : ChangeSpec := { name := "moneyKnown", fn := fun _ => fun
  | [] => { results := [.lit (.bool false)], args := [] }
  | _ => none }
def MoneyKnownWrongFalsely : Prop := moneyKnownRow.holds Try.pinned (OpenSpec.ofChange moneyKnownWrong)

/-- 'escribanolaw07.MoneyOnce': WHATEVER THE INPUT: true; the input reads as it did. -/
def moneyOnceSpec : ChangeSpec := { name := "moneyOnce", fn := fun _ => fun
  | [d1, d2] => { results := [.lit (.bool true)], args := [d1, d2] }
  | _ => none }
def moneyOnceRow : OpenClaim := { program := "ytnlolliankhfmaa", sum := "684a571364de39ce4401e7df7fb18bcabab7639f212e35eb635448fba5477a5a", func := "escribano/escribanolaw07.MoneyOnce", spec := "moneyOnce", unfollowed := true, recurses := true, plainKeys := false, apart := false }
def MoneyOnceSaid : Prop := moneyOnceRow.holds Try.pinned (OpenSpec.ofChange moneyOnceSpec)

/-- ITS FALSE NEIGHBOUR: 'it returns false'. Refute it at one input. -/
def moneyOnceWrong : ChangeSpec := { name := "moneyOnce", fn := fun _ => fun
  | [d1, d2] => { results := [.lit (.bool false)], args := [d1, d2] }
  | _ => none }
def MoneyOnceWrongFalsely : Prop := moneyOnceRow.holds Try.pinned (OpenSpec.ofChange moneyOnceWrong)

/-- 'escribanolaw07.MoneyHeld': WHATEVER THE INPUT: true; the input reads as it did. -/
def moneyHeldSpec : ChangeSpec := { name := "moneyHeld", fn := fun _ => fun
  | [d1, d2] => { results := [.lit (.bool true)], args := [d1, d2] }
  | _ => none }
def moneyHeldRow : OpenClaim := { program := "ytnlolliankhfmaa", sum := "684a571364de39ce4401e7df7fb18bcabab7639f212e35eb635448fba5477a5a", func := "escribano/escribanolaw07.MoneyHeld", spec := "moneyHeld", unfollowed := true, recurses := true, plainKeys := false, apart := false }
def MoneyHeldSaid : Prop := moneyHeldRow.holds Try.pinned (OpenSpec.ofChange moneyHeldSpec)

/-- ITS FALSE NEIGHBOUR: 'it returns false'. Refute it at one input. -/
def moneyHeldWrong : ChangeSpec := { name := "moneyHeld", fn := fun _ => fun
  | [d1, d2] => { results := [.lit (.bool false)], args := [d1, d2] }
  | _ => none }
def MoneyHeldWrongFalsely : Prop := moneyHeldRow.holds Try.pinned (OpenSpec.ofChange moneyHeldWrong)

/-- 'escribanolaw07.MoneyTrue': WHATEVER THE INPUT: true; the input reads as it did. -/
def moneyTrueSpec : ChangeSpec := { name := "moneyTrue", fn := fun _ => fun
  | [d1, d2] => { results := [.lit (.bool true)], args := [d1, d2] }
  | _ => none }
def moneyTrueRow : OpenClaim := { program := "ytnlolliankhfmaa", sum := "684a571364de39ce4401e7df7fb18bcabab7639f212e35eb635448fba5477a5a", func := "escribano/escribanolaw07.MoneyTrue", spec := "moneyTrue", unfollowed := true, recurses := true, plainKeys := false, apart := false }
def MoneyTrueSaid : Prop := moneyTrueRow.holds Try.pinned (OpenSpec.ofChange moneyTrueSpec)

/-- ITS FALSE NEIGHBOUR: 'it returns false'. Refute it at one input. -/
def moneyTrueWrong : ChangeSpec := { name := "moneyTrue", fn := fun _ => fun
  | [d1, d2] => { results := [.lit (.bool false)], args := [d1, d2] }
  | _ => none }
def MoneyTrueWrongFalsely : Prop := moneyTrueRow.holds Try.pinned (OpenSpec.ofChange moneyTrueWrong)

/-- 'escribanolaw07.MoneyPaid': WHATEVER THE INPUT: true; the input reads as it did. -/
def moneyPaidSpec : ChangeSpec := { name := "moneyPaid", fn := fun _ => fun
  | [d1, d2] => { results := [.lit (.bool true)], args := [d1, d2] }
  | _ => none }
def moneyPaidRow : OpenClaim := { program := "ytnlolliankhfmaa", sum := "684a571364de39ce4401e7df7fb18bcabab7639f212e35eb635448fba5477a5a", func := "escribano/escribanolaw07.MoneyPaid", spec := "moneyPaid", unfollowed := true, recurses := true, plainKeys := false, apart := false }
def MoneyPaidSaid : Prop := moneyPaidRow.holds Try.pinned (OpenSpec.ofChange moneyPaidSpec)

/-- ITS FALSE NEIGHBOUR: 'it returns false'. Refute it at one input. -/
def moneyPaidWrong : ChangeSpec := { name := "moneyPaid", fn := fun _ => fun
  | [d1, d2] => { results := [.lit (.bool false)], args := [d1, d2] }
  | _ => none }
def MoneyPaidWrongFalsely : Prop := moneyPaidRow.holds Try.pinned (OpenSpec.ofChange moneyPaidWrong)

/-- 'escribanolaw07.MoneyMore': WHATEVER THE INPUT: true; the input reads as it did. -/
def moneyMoreSpec : ChangeSpec := { name := "moneyMore", fn := fun _ => fun
  | [d1, d2] => { results := [.lit (.bool true)], args := [d1, d2] }
  | _ => none }
def moneyMoreRow : OpenClaim := { program := "ytnlolliankhfmaa", sum := "684a571364de39ce4401e7df7fb18bcabab7639f212e35eb635448fba5477a5a", func := "escribano/escribanolaw07.MoneyMore", spec := "moneyMore", unfollowed := true, recurses := true, plainKeys := false, apart := false }
def MoneyMoreSaid : Prop := moneyMoreRow.holds Try.pinned (OpenSpec.ofChange moneyMoreSpec)

/-- ITS FALSE NEIGHBOUR: 'it returns false'. Refute it at one input. -/
def moneyMoreWrong : ChangeSpec := { name := "moneyMore", fn := fun _ => fun
  | [d1, d2] => { results := [.lit (.bool false)], args := [d1, d2] }
  | _ => none }
def MoneyMoreWrongFalsely : Prop := moneyMoreRow.holds Try.pinned (OpenSpec.ofChange moneyMoreWrong)

/-- 'escribanolaw07.MoneyBack': WHATEVER THE INPUT: true; the input reads as it did. -/
def moneyBackSpec : ChangeSpec := { name := "moneyBack", fn := fun _ => fun
  | [d1, d2] => { results := [.lit (.bool true)], args := [d1, d2] }
  | _ => none }
def moneyBackRow : OpenClaim := { program := "ytnlolliankhfmaa", sum := "684a571364de39ce4401e7df7fb18bcabab7639f212e35eb635448fba5477a5a", func := "escribano/escribanolaw07.MoneyBack", spec := "moneyBack", unfollowed := true, recurses := true, plainKeys := false, apart := false }
def MoneyBackSaid : Prop := moneyBackRow.holds Try.pinned (OpenSpec.ofChange moneyBackSpec)

/-- ITS FALSE NEIGHBOUR: 'it returns false'. Refute it at one input. -/
def moneyBackWrong : ChangeSpec := { name := "moneyBack", fn := fun _ => fun
  | [d1, d2] => { results := [.lit (.bool false)], args := [d1, d2] }
  | _ => none }
def MoneyBackWrongFalsely : Prop := moneyBackRow.holds Try.pinned (OpenSpec.ofChange moneyBackWrong)

/-- 'escribanolaw07.MoneyNeed': WHATEVER THE INPUT: true; the input reads as it did. -/
def moneyNeedSpec : ChangeSpec := { name := "moneyNeed", fn := fun _ => fun
  | [d1, d2] => { results := [.lit (.bool true)], args := [d1, d2] }
  | _ => none }
def moneyNeedRow : OpenClaim := { program := "ytnlolliankhfmaa", sum := "684a571364de39ce4401e7df7fb18bcabab7639f212e35eb635448fba5477a5a", func := "escribano/escribanolaw07.MoneyNeed", spec := "moneyNeed", unfollowed := true, recurses := true, plainKeys := false, apart := false }
def MoneyNeedSaid : Prop := moneyNeedRow.holds Try.pinned (OpenSpec.ofChange moneyNeedSpec)

/-- ITS FALSE NEIGHBOUR: 'it returns false'. Refute it at one input. -/
def moneyNeedWrong : ChangeSpec := { name := "moneyNeed", fn := fun _ => fun
  | [d1, d2] => { results := [.lit (.bool false)], args := [d1, d2] }
  | _ => none }
def MoneyNeedWrongFalsely : Prop := moneyNeedRow.holds Try.pinned (OpenSpec.ofChange moneyNeedWrong)

/-- 'escribanolaw07.MoneyOrder': WHATEVER THE INPUT: true; the input reads as it did. -/
def moneyOrderSpec : ChangeSpec := { name := "moneyOrder", fn := fun _ => fun
  | [d] => { results := [.lit (.bool true)], args := [d] }
  | _ => none }
def moneyOrderRow : OpenClaim := { program := "ytnlolliankhfmaa", sum := "684a571364de39ce4401e7df7fb18bcabab7639f212e35eb635448fba5477a5a", func := "escribano/escribanolaw07.MoneyOrder", spec := "moneyOrder", unfollowed := true, recurses := true, plainKeys := false, apart := false }
def MoneyOrderSaid : Prop := moneyOrderRow.holds Try.pinned (OpenSpec.ofChange moneyOrderSpec)

/-- ITS FALSE NEIGHBOUR: 'it returns false'. Refute it at one input. -/
def moneyOrderWrong : ChangeSpec := { name := "moneyOrder", fn := fun _ => fun
  | [d] => { results := [.lit (.bool false)], args := [d] }
  | _ => none }
def MoneyOrderWrongFalsely : Prop := moneyOrderRow.holds Try.pinned (OpenSpec.ofChange moneyOrderWrong)

/- THE SECOND FORM. 'bulk': how many values and letters a reading holds, each counted each time it is reached (what is shared counts as often as it is met; a slice's spare places count too). A statement '..UptoSaid' is the law's where the arguments, and the package variables that the reading takes, are together of bulk at most 1048576: NARROWER than '..Said'. Prove '..Said' where nothing that the law and all that it calls make is longer than what came in: it says more and counts as full. Else prove '..UptoSaid'. A law counts once. -/
mutual
def uptoBulk {H : Type} : DataW H → Nat
  | .lit (.string bytes) => bytes.length + 1
  | .lit _ => 1
  | .nil => 1
  | .ptr d => uptoBulk d + 1
  | .slice elems spare => uptoBulkAll elems + uptoBulkAll spare + 1
  | .agg parts => uptoBulkAll parts + 1
  | .iface _ d => uptoBulk d + 1
  | .map entries => uptoBulkEntries entries + 1
  | .held _ => 1
def uptoBulkAll {H : Type} : List (DataW H) → Nat
  | [] => 0
  | d :: r => uptoBulk d + uptoBulkAll r
def uptoBulkEntries {H : Type} : List (Lit × DataW H) → Nat
  | [] => 0
  | x :: r => uptoBulkEntry x + uptoBulkEntries r
def uptoBulkEntry {H : Type} : Lit × DataW H → Nat
  | (.string bytes, d) => bytes.length + uptoBulk d + 1
  | (_, d) => uptoBulk d + 1
 end
def uptoSmall : (H : Type) → List (DataW H) → Bool := fun _ ds => decide (uptoBulkAll ds ≤ 1048576)
def OpenSpec.upto (s : _root_.Go.ChangeSpec) : _root_.Go.OpenSpec := { _root_.Go.OpenSpec.ofChange s with cond := some uptoSmall }

/-- 'escribanolaw07.MoneyFirsts', WHERE WHAT IT READS IS OF BULK AT MOST 1048576: true; the input reads as it did. -/
def moneyFirstsUptoRow : OpenClaim := { program := "ytnlolliankhfmaa", sum := "684a571364de39ce4401e7df7fb18bcabab7639f212e35eb635448fba5477a5a", func := "escribano/escribanolaw07.MoneyFirsts", spec := "moneyFirsts", unfollowed := true, recurses := true, plainKeys := false, apart := false, narrowed := true }
def MoneyFirstsUptoSaid : Prop := moneyFirstsUptoRow.holds Try.pinned (OpenSpec.upto moneyFirstsSpec)

/-- 'escribanolaw07.MoneyPays', WHERE WHAT IT READS IS OF BULK AT MOST 1048576: true; the input reads as it did. -/
def moneyPaysUptoRow : OpenClaim := { program := "ytnlolliankhfmaa", sum := "684a571364de39ce4401e7df7fb18bcabab7639f212e35eb635448fba5477a5a", func := "escribano/escribanolaw07.MoneyPays", spec := "moneyPays", unfollowed := true, recurses := true, plainKeys := false, apart := false, narrowed := true }
def MoneyPaysUptoSaid : Prop := moneyPaysUptoRow.holds Try.pinned (OpenSpec.upto moneyPaysSpec)

/-- 'escribanolaw07.MoneyWaits', WHERE WHAT IT READS IS OF BULK AT MOST 1048576: true; the input reads as it did. -/
def moneyWaitsUptoRow : OpenClaim := { program := "ytnlolliankhfmaa", sum := "684a571364de39ce4401e7df7fb18bcabab7639f212e35eb635448fba5477a5a", func := "escribano/escribanolaw07.MoneyWaits", spec := "moneyWaits", unfollowed := true, recurses := true, plainKeys := false, apart := false, narrowed := true }
def MoneyWaitsUptoSaid : Prop := moneyWaitsUptoRow.holds Try.pinned (OpenSpec.upto moneyWaitsSpec)

/-- 'escribanolaw07.MoneyOweds', WHERE WHAT IT READS IS OF BULK AT MOST 1048576: true; the input reads as it did. -/
def moneyOwedsUptoRow : OpenClaim := { program := "ytnlolliankhfmaa", sum := "684a571364de39ce4401e7df7fb18bcabab7639f212e35eb635448fba5477a5a", func := "escribano/escribanolaw07.MoneyOweds", spec := "moneyOweds", unfollowed := true, recurses := true, plainKeys := false, apart := false, narrowed := true }
def MoneyOwedsUptoSaid : Prop := moneyOwedsUptoRow.holds Try.pinned (OpenSpec.upto moneyOwedsSpec)

/-- 'escribanolaw07.MoneyKnown', WHERE WHAT IT READS IS OF BULK AT MOST 1048576: true; the input reads as it did. -/
def moneyKnownUptoRow : OpenClaim := { program := "ytnlolliankhfmaa", sum := "684a571364de39ce4401e7df7fb18bcabab7639f212e35eb635448fba5477a5a", func := "escribano/escribanolaw07.MoneyKnown", spec := "moneyKnown", unfollowed := true, recurses := true, plainKeys := false, apart := false, narrowed := true }
def MoneyKnownUptoSaid : Prop := moneyKnownUptoRow.holds Try.pinned (OpenSpec.upto moneyKnownSpec)

/-- 'escribanolaw07.MoneyOnce', WHERE WHAT IT READS IS OF BULK AT MOST 1048576: true; the input reads as it did. -/
def moneyOnceUptoRow : OpenClaim := { program := "ytnlolliankhfmaa", sum := "684a571364de39ce4401e7df7fb18bcabab7639f212e35eb635448fba5477a5a", func := "escribano/escribanolaw07.MoneyOnce", spec := "moneyOnce", unfollowed := true, recurses := true, plainKeys := false, apart := false, narrowed := true }
def MoneyOnceUptoSaid : Prop := moneyOnceUptoRow.holds Try.pinned (OpenSpec.upto moneyOnceSpec)

/-- 'escribanolaw07.MoneyHeld', WHERE WHAT IT READS IS OF BULK AT MOST 1048576: true; the input reads as it did. -/
def moneyHeldUptoRow : OpenClaim := { program := "ytnlolliankhfmaa", sum := "684a571364de39ce4401e7df7fb18bcabab7639f212e35eb635448fba5477a5a", func := "escribano/escribanolaw07.MoneyHeld", spec := "moneyHeld", unfollowed := true, recurses := true, plainKeys := false, apart := false, narrowed := true }
def MoneyHeldUptoSaid : Prop := moneyHeldUptoRow.holds Try.pinned (OpenSpec.upto moneyHeldSpec)

/-- 'escribanolaw07.MoneyTrue', WHERE WHAT IT READS IS OF BULK AT MOST 1048576: true; the input reads as it did. -/
def moneyTrueUptoRow : OpenClaim := { program := "ytnlolliankhfmaa", sum := "684a571364de39ce4401e7df7fb18bcabab7639f212e35eb635448fba5477a5a", func := "escribano/escribanolaw07.MoneyTrue", spec := "moneyTrue", unfollowed := true, recurses := true, plainKeys := false, apart := false, narrowed := true }
def MoneyTrueUptoSaid : Prop := moneyTrueUptoRow.holds Try.pinned (OpenSpec.upto moneyTrueSpec)

/-- 'escribanolaw07.MoneyPaid', WHERE WHAT IT READS IS OF BULK AT MOST 1048576: true; the input reads as it did. -/
def moneyPaidUptoRow : OpenClaim := { program := "ytnlolliankhfmaa", sum := "684a571364de39ce4401e7df7fb18bcabab7639f212e35eb635448fba5477a5a", func := "escribano/escribanolaw07.MoneyPaid", spec := "moneyPaid", unfollowed := true, recurses := true, plainKeys := false, apart := false, narrowed := true }
def MoneyPaidUptoSaid : Prop := moneyPaidUptoRow.holds Try.pinned (OpenSpec.upto moneyPaidSpec)

/-- 'escribanolaw07.MoneyMore', WHERE WHAT IT READS IS OF BULK AT MOST 1048576: true; the input reads as it did. -/
def moneyMoreUptoRow : OpenClaim := { program := "ytnlolliankhfmaa", sum := "684a571364de39ce4401e7df7fb18bcabab7639f212e35eb635448fba5477a5a", func := "escribano/escribanolaw07.MoneyMore", spec := "moneyMore", unfollowed := true, recurses := true, plainKeys := false, apart := false, narrowed := true }
def MoneyMoreUptoSaid : Prop := moneyMoreUptoRow.holds Try.pinned (OpenSpec.upto moneyMoreSpec)

/-- 'escribanolaw07.MoneyBack', WHERE WHAT IT READS IS OF BULK AT MOST 1048576: true; the input reads as it did. -/
def moneyBackUptoRow : OpenClaim := { program := "ytnlolliankhfmaa", sum := "684a571364de39ce4401e7df7fb18bcabab7639f212e35eb635448fba5477a5a", func := "escribano/escribanolaw07.MoneyBack", spec := "moneyBack", unfollowed := true, recurses := true, plainKeys := false, apart := false, narrowed := true }
def MoneyBackUptoSaid : Prop := moneyBackUptoRow.holds Try.pinned (OpenSpec.upto moneyBackSpec)

/-- 'escribanolaw07.MoneyNeed', WHERE WHAT IT READS IS OF BULK AT MOST 1048576: true; the input reads as it did. -/
def moneyNeedUptoRow : OpenClaim := { program := "ytnlolliankhfmaa", sum := "684a571364de39ce4401e7df7fb18bcabab7639f212e35eb635448fba5477a5a", func := "escribano/escribanolaw07.MoneyNeed", spec := "moneyNeed", unfollowed := true, recurses := true, plainKeys := false, apart := false, narrowed := true }
def MoneyNeedUptoSaid : Prop := moneyNeedUptoRow.holds Try.pinned (OpenSpec.upto moneyNeedSpec)

/-- 'escribanolaw07.MoneyOrder', WHERE WHAT IT READS IS OF BULK AT MOST 1048576: true; the input reads as it did. -/
def moneyOrderUptoRow : OpenClaim := { program := "ytnlolliankhfmaa", sum := "684a571364de39ce4401e7df7fb18bcabab7639f212e35eb635448fba5477a5a", func := "escribano/escribanolaw07.MoneyOrder", spec := "moneyOrder", unfollowed := true, recurses := true, plainKeys := false, apart := false, narrowed := true }
def MoneyOrderUptoSaid : Prop := moneyOrderUptoRow.holds Try.pinned (OpenSpec.upto moneyOrderSpec)

end Rows
end Go.Proofs.Ytnlolliankhfmaa
