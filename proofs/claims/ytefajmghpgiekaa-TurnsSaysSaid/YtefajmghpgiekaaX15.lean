/- Lines for the functions of this seat; merged from texts of their own. -/
import Derived.Test.YtefajmghpgiekaaLF
set_option linter.unusedVariables false
set_option linter.unusedSimpArgs false
namespace Go.Spec
open Go Go.Lift
def X_law_TurnsSays_0_0 (t6 : Bool) (K : AExit → St → Prop) : Prop := K .ret ⟨un 6 ++ (.s (.val .bool t6) :: (un 93)), [], 0⟩
def X_law_TurnsSays_0_1  (K : AExit → St → Prop) : Prop := K (.exit 0) ⟨un 100, [], 0⟩
end Go.Spec
