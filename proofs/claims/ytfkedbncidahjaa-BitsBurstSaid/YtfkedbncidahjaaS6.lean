/- What the functions answer: sums are linear. -/
import Derived.Test.YtfkedbncidahjaaE5
import Derived.Test.YtfkedbncidahjaaE2
set_option linter.unusedVariables false
set_option linter.unusedSimpArgs false
namespace Go.Spec
open Go Go.Lift
def S_keep_BitsLinear : Summ := { par := [.v (.ro (.int .u8)), .v (.ro (.int .u8)), .v (.int .i64), .v (.int .i64)], res := [.v .bool], esc := false, pre := fun x => ((x.1.length : Int) ≤ big ∧ ∀ y ∈ x.1, 0 ≤ y) ∧ ((x.2.1.length : Int) ≤ big ∧ ∀ y ∈ x.2.1, 0 ≤ y), fn := fun _ => ((true, ()), ((), (), (), (), ())) }
end Go.Spec
