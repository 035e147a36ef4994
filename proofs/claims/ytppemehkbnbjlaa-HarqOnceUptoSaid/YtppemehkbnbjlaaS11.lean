/- What the law says: each block is told at most once. -/
import Derived.Test.YtppemehkbnbjlaaM17
import Derived.Test.YtppemehkbnbjlaaX11
import Derived.Test.YtppemehkbnbjlaaS10
set_option linter.unusedVariables false
set_option linter.unusedSimpArgs false
namespace Go.Spec
open Go Go.Lift
def S_keep_HarqOnce : Summ := { par := [.v (.int .i64), .v (.ro (.int .i64))], res := [.v .bool], esc := false, pre := fun x => (List.length x.2.1 : Int) ≤ 1048576, fn := fun _ => ((true, ()), ((), (), ())) }
def p_keep_HarqOnce_0 (t1 : List Int) (t10 t11 : Int) (r0 : Option HS) (r1 : Flags) (r2 : List ByteArray) (r3 : Option Told) : Prop :=
  0 ≤ t11 ∧ t11 ≤ t1.length ∧ (t1.length : Int) ≤ 1048576 ∧ 0 ≤ t10 ∧ t10 ≤ t11 ∧ ∃ s es, r0 = some s ∧ r3 = some es ∧ HInv s r1 r2 es t10
def m_keep_HarqOnce_0 (t1 : List Int) (_t10 t11 : Int) (_r0 : Option HS) (_r1 : Flags) (_r2 : List ByteArray) (_r3 : Option Told) : Nat := (t1.length - t11).toNat
def o_keep_HarqOnce_0 (_t1 : List Int) (_t10 _t11 : Int) (_r0 : Option HS) (_r1 : Flags) (_r2 : List ByteArray) (_r3 : Option Told) (K : AExit → St → Prop) : Prop := X_keep_HarqOnce_0_1 K
end Go.Spec
