/- What the functions answer: the law of a sender of blocks. -/
import Derived.Test.YtppemehkbnbjlaaM3
import Derived.Test.YtppemehkbnbjlaaS1
import Derived.Test.YtppemehkbnbjlaaX2
set_option linter.unusedVariables false
set_option linter.unusedSimpArgs false
namespace Go.Spec
open Go Go.Lift
abbrev ST := Int × Int × Int × Bool × ByteArray × Unit
def S_law_HarqSends : Summ := { par := [.v (.int .i64), .v (.ro (.pair (.int .i64) (.pair (.int .i64) (.pair (.int .i64) (.pair .bool (.pair .str .unit))))))], res := [.v .bool], esc := false, pre := fun x => (List.length x.2.1 : Int) ≤ big, fn := fun _ => ((true, ()), ((), (), ())) }
def p_law_HarqSends_0 (t1 : List ST) (t8 : Int) (r0 : Option HS) (r1 : RS) : Prop := (t1.length : Int) ≤ big ∧ 0 ≤ t8 ∧ t8 ≤ t1.length ∧ ∃ s, r0 = some s ∧ hr s r1
def m_law_HarqSends_0 (t1 : List ST) (t8 : Int) (_r0 : Option HS) (_r1 : RS) : Nat := (t1.length - t8).toNat
def o_law_HarqSends_0 (_t1 : List ST) (_t8 : Int) (_r0 : Option HS) (_r1 : RS) (K : AExit → St → Prop) : Prop := X_law_HarqSends_0_1 K
end Go.Spec
