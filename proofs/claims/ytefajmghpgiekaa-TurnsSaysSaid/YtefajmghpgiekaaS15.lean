/- What the functions answer: the law of turns. -/
import Derived.Test.YtefajmghpgiekaaEC
import Derived.Test.YtefajmghpgiekaaX15
set_option linter.unusedVariables false
set_option linter.unusedSimpArgs false
namespace Go.Spec
open Go Go.Lift
def slotsOK (l : List (List UU × Int × Unit)) : Prop := (l.length : Int) ≤ big ∧ ∀ s ∈ l, (s.1.length : Int) ≤ big
def S_law_TurnsSays : Summ := { par := [.v (.int .i64), .v (.ro (.pair (.ro (.pair (.int .i64) (.pair (.int .i64) (.pair (.int .i64) .unit)))) (.pair (.int .i64) .unit))), .v (.int .i64)], res := [.v .bool], esc := false, pre := fun x => slotsOK x.2.1, fn := fun _ => ((true, ()), ((), (), (), ())) }
def p_law_TurnsSays_0 (t1 : List (List UU × Int × Unit)) (_t2 t10 : Int) (r0 : Option TT) (r1 : TT) : Prop := slotsOK t1 ∧ 0 ≤ t10 ∧ t10 ≤ t1.length ∧ r0 = some r1 ∧ tOK r1
def m_law_TurnsSays_0 (t1 : List (List UU × Int × Unit)) (_t2 t10 : Int) (_r0 : Option TT) (_r1 : TT) : Nat := (t1.length - t10).toNat
def o_law_TurnsSays_0 (_t1 : List (List UU × Int × Unit)) (_t2 _t10 : Int) (_r0 : Option TT) (_r1 : TT) (K : AExit → St → Prop) : Prop := X_law_TurnsSays_0_1 K
end Go.Spec
