/- What the functions answer: a deed at both cores. -/
import Derived.Test.YtppemehkbnbjlaaM7
import Derived.Test.YtppemehkbnbjlaaS3
import Derived.Test.YtppemehkbnbjlaaX4
set_option linter.unusedVariables false
set_option linter.unusedSimpArgs false
namespace Go.Spec
open Go Go.Lift
def S_law_deed : Summ := { par := [.box tyCS, .box tyRC, .v tyDD], res := [.v .bool], esc := false, pre := fun x => dPre x.1 x.2.1, fn := fun x => ((decide ((dC x.1 x.2.2.1).1 = (dR x.2.1 x.2.2.1).1), ()), ((dC x.1 x.2.2.1).2, (dR x.2.1 x.2.2.1).2, (), ())) }
end Go.Spec
