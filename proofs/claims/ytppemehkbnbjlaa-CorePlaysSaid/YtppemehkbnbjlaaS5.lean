/- What the functions answer: the law of a core. -/
import Derived.Test.YtppemehkbnbjlaaM10
import Derived.Test.YtppemehkbnbjlaaS4
import Derived.Test.YtppemehkbnbjlaaX5
set_option linter.unusedVariables false
set_option linter.unusedSimpArgs false
namespace Go.Spec
open Go Go.Lift
def S_law_CorePlays : Summ := { par := [.v (.int .i64), .v (.ro tyDD)], res := [.v .bool], esc := false, pre := fun x => (List.length x.2.1 : Int) * 57 ≤ 140737488351232, fn := fun _ => ((true, ()), ((), (), ())) }
def p_law_CorePlays_0 (t1 : List DD) (t8 : Int) (r0 : Option CS) (r1 : RC) : Prop := (t1.length : Int) * 57 ≤ 140737488351232 ∧ 0 ≤ t8 ∧ t8 ≤ t1.length ∧ ∃ c, r0 = some c ∧ CR c r1 ∧ (r1.2.2.1.length : Int) ≤ t8
def m_law_CorePlays_0 (t1 : List DD) (t8 : Int) (_r0 : Option CS) (_r1 : RC) : Nat := (t1.length - t8).toNat
def o_law_CorePlays_0 (_t1 : List DD) (_t8 : Int) (_r0 : Option CS) (_r1 : RC) (K : AExit → St → Prop) : Prop := X_law_CorePlays_0_1 K
end Go.Spec
