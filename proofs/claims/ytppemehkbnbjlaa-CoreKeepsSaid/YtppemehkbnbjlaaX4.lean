/- Lines for the functions of this seat; merged from texts of their own. -/
import Derived.Test.YtppemehkbnbjlaaLF
set_option linter.unusedVariables false
set_option linter.unusedSimpArgs false
namespace Go.Spec
open Go Go.Lift
end Go.Spec
