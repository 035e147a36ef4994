/- Lines for the functions of this seat; merged from texts of their own. -/
import Derived.Test.YtppemehkbnbjlaaLF
set_option linter.unusedVariables false
set_option linter.unusedSimpArgs false
namespace Go.Spec
open Go Go.Lift
def X_law_HarqSends_0_0 (t4 : Bool) (K : AExit → St → Prop) : Prop := K .ret ⟨un 4 ++ (.s (.val .bool t4) :: (un 160)), [], 0, []⟩
def X_law_HarqSends_0_1  (K : AExit → St → Prop) : Prop := K (.exit 0) ⟨un 165, [], 0, []⟩
end Go.Spec
