/- What is proved here: a walk that may only end normally. Over any program. -/
import Derived.Test.YtklconegomgjaaaGreatEndGG
set_option linter.unusedVariables false
set_option linter.unusedSimpArgs false
namespace Go.Proofs.YtklconegomgjaaaGreat
open Go Go.RowKit Go.Shelf
theorem drewE_heap (Y : World) : Y.drew.heap = Y.heap := rfl
/-- Left normally, as Q says; not otherwise. -/
def onlyN (Q : Exit → Act → World → Prop) : Exit → Act → World → Prop
  | .normal, a, w => Q .normal a w
  | _, _, _ => False
theorem wp_only {P : Program} {C : Code} {Q : Exit → Act → World → Prop} {a : Act} {w : World} (h : C.wp P (onlyN Q) a w) : C.wp P Q a w :=
  Code.wp_mono (fun e a' w' h' => by
    cases e with
    | normal => exact h'
    | ret => exact h'.elim
    | exit id => exact h'.elim
    | goto t => exact h'.elim
    | panic c => exact h'.elim
    | outgrown => exact h'.elim) h
end Go.Proofs.YtklconegomgjaaaGreat
