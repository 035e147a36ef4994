/- What the functions answer: the receiver of blocks. -/
import Derived.Test.YtppemehkbnbjlaaS2
set_option linter.unusedVariables false
set_option linter.unusedSimpArgs false
namespace Go.Spec
open Go Go.Lift
def noFlags : List Bool := List.replicate 8 false
def S_harq_NewReceiver : Summ := { par := [], res := [.box (.pair (.arr 8 .bool) (.pair (.arr 8 .bool) .unit))], esc := false, pre := fun _ => True, fn := fun _ => (((noFlags, noFlags, ()), ()), ()) }
def S_harq_Receiver_Take : Summ := { par := [.box (.pair (.arr 8 .bool) (.pair (.arr 8 .bool) .unit)), .v (.pair (.int .i64) (.pair (.int .i64) (.pair .bool (.pair .str .unit)))), .v .bool], res := [.v .str, .v .bool, .v .bool, .v (.int .i64)], esc := false, pre := fun _ => True, fn := fun x => (((takeOf true x.1 x.2.1 x.2.2.1).1.1, (takeOf true x.1 x.2.1 x.2.2.1).1.2.1, (takeOf true x.1 x.2.1 x.2.2.1).1.2.2.1, (takeOf true x.1 x.2.1 x.2.2.1).1.2.2.2, ()), ((takeOf true x.1 x.2.1 x.2.2.1).2, (), (), ())) }
end Go.Spec
