/- What the functions answer: the law of a core's books. -/
import Derived.Test.YtppemehkbnbjlaaM11
import Derived.Test.YtppemehkbnbjlaaS4
import Derived.Test.YtppemehkbnbjlaaX6
set_option linter.unusedVariables false
set_option linter.unusedSimpArgs false
namespace Go.Spec
open Go Go.Lift
def lenOK (t2 : List UG) : Prop := (t2.length : Int) * 25 ≤ 140737488351232
def S_keep_CoreKeeps : Summ := { par := [.v (.int .i64), .v (.ro (.int .i64)), .v (.ro tyUG)], res := [.v .bool], esc := false, pre := fun x => lenOK x.2.2.1, fn := fun _ => ((true, ()), ((), (), (), ())) }
def p_keep_CoreKeeps_0 (t1 : List Int) (t2 : List UG) (t11 : Int) (r0 : Option CS) (r1 r2 : List Int) : Prop := lenOK t2 ∧ 0 ≤ t11 ∧ t11 ≤ 16 ∧ t11 ≤ t1.length ∧ ∃ c, r0 = some c ∧ KI0 t11 c r1 r2
def m_keep_CoreKeeps_0 (_t1 : List Int) (_t2 : List UG) (t11 : Int) (_r0 : Option CS) (_r1 _r2 : List Int) : Nat := (16 - t11).toNat
def o_keep_CoreKeeps_0 (_t1 : List Int) (t2 : List UG) (_t11 : Int) (_r0 : Option CS) (_r1 _r2 : List Int) (K : AExit → St → Prop) : Prop :=
  ∀ (c : CS) (q ch : List Int), KI0 16 c q ch → X_keep_CoreKeeps_0_1 t2 (some c) q ch K
def p_keep_CoreKeeps_2 (t2 : List UG) (t13 : Int) (r0 : Option CS) (r1 r2 : List Int) (r3 : Option (List (Int × Int))) : Prop := lenOK t2 ∧ 0 ≤ t13 ∧ t13 ≤ t2.length ∧ ∃ c, r0 = some c ∧ KI (2 * t13) c r1 r2 r3
def m_keep_CoreKeeps_2 (t2 : List UG) (t13 : Int) (_r0 : Option CS) (_r1 _r2 : List Int) (_r3 : Option (List (Int × Int))) : Nat := (t2.length - t13).toNat
def o_keep_CoreKeeps_2 (_t2 : List UG) (_t13 : Int) (_r0 : Option CS) (_r1 _r2 : List Int) (_r3 : Option (List (Int × Int))) (K : AExit → St → Prop) : Prop := X_keep_CoreKeeps_2_1 K
def p_keep_CoreKeeps_4 (t2 : List UG) (t13 t22 : Int) (r0 : CS) (r1 r2 : List Int) (r3 : Option (List (Int × Int))) : Prop := lenOK t2 ∧ 0 ≤ t13 ∧ t13 < t2.length ∧ 1 ≤ t22 ∧ t22 ≤ 17 ∧ KI (2 * t13 + 2) r0 r1 r2 r3
def m_keep_CoreKeeps_4 (_t2 : List UG) (_t13 t22 : Int) (_r0 : CS) (_r1 _r2 : List Int) (_r3 : Option (List (Int × Int))) : Nat := (17 - t22).toNat
def o_keep_CoreKeeps_4 (t2 : List UG) (t13 _t22 : Int) (r0 : CS) (r1 r2 : List Int) (r3 : Option (List (Int × Int))) (K : AExit → St → Prop) : Prop := X_keep_CoreKeeps_4_1 t2 t13 r0 r1 r2 r3 K
end Go.Spec
