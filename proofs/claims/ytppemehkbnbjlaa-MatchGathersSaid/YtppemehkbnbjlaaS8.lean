/- What the functions answer: the laws of match. -/
import Derived.Test.YtppemehkbnbjlaaS7
import Derived.Test.YtppemehkbnbjlaaX8
set_option linter.unusedVariables false
set_option linter.unusedSimpArgs false
namespace Go.Spec
open Go Go.Lift
def S_law_MatchPicks : Summ := { par := [.v (.ro (.int .u8)), .v (.int .i64), .v (.int .i64), .v (.int .i64)], res := [.v .bool], esc := false, pre := fun x => (x.1.length : Int) ≤ big ∧ ∀ y ∈ x.1, 0 ≤ y, fn := fun _ => ((true, ()), ((), (), (), (), ())) }
def p_law_MatchPicks_0 (t0 : List Int) (t3 t17 : Int) (r0 r1 : List Int) : Prop := r0 = r1.map (fun p => t0.getD p.toNat 0) ∧ r1.length = t3 ∧ 0 ≤ t17 ∧ t17 ≤ t3 ∧ t3 ≤ 4096 ∧ ∀ x ∈ r1, 0 ≤ x ∧ x < t0.length
def m_law_MatchPicks_0 (_t0 : List Int) (t3 t17 : Int) (_r0 _r1 : List Int) : Nat := (t3 - t17).toNat
def o_law_MatchPicks_0 (_t0 : List Int) (_t3 _t17 : Int) (_r0 _r1 : List Int) (K : AExit → St → Prop) : Prop := X_law_MatchPicks_0_1 K
abbrev HD := List Int × Int × Unit
def heardOK (l : List HD) : Prop := (l.length : Int) ≤ big ∧ ∀ y ∈ l, (y.1.length : Int) ≤ big
def S_law_MatchGathers : Summ := { par := [.v (.int .i64), .v (.ro (.pair (.ro (.int .i64)) (.pair (.int .i64) .unit)))], res := [.v .bool], esc := false, pre := fun x => heardOK x.2.1, fn := fun _ => ((true, ()), ((), (), ())) }
def softAt (t1 : List HD) (t8 : Int) : List Int := (t1.getD t8.toNat ([], 0, ())).1
def p_law_MatchGathers_0 (t0 : Int) (t1 : List HD) (t8 : Int) (r0 : Option (List Int × Unit)) (r1 : List Int) : Prop := 1 ≤ t0 ∧ t0 ≤ 4096 ∧ heardOK t1 ∧ 0 ≤ t8 ∧ t8 ≤ t1.length ∧ r0 = some (r1, ()) ∧ r1.length = t0
def m_law_MatchGathers_0 (_t0 : Int) (t1 : List HD) (t8 : Int) (_r0 : Option (List Int × Unit)) (_r1 : List Int) : Nat := (t1.length - t8).toNat
def o_law_MatchGathers_0 (_t0 : Int) (_t1 : List HD) (_t8 : Int) (_r0 : Option (List Int × Unit)) (_r1 : List Int) (K : AExit → St → Prop) : Prop := X_law_MatchGathers_0_1 K
def p_law_MatchGathers_2 (_t0 : Int) (t1 : List HD) (t8 _t9 t12 : Int) (_r0 : Option (List Int × Unit)) (_r1 r2 r3 : List Int) : Prop := 0 ≤ t8 ∧ t8 < t1.length ∧ 0 ≤ t12 ∧ t12 ≤ r3.length ∧ r3.length ≤ 4096 ∧ r3.length = (softAt t1 t8).length ∧ ∀ x ∈ r3, 0 ≤ x ∧ x < r2.length
def m_law_MatchGathers_2 (_t0 : Int) (_t1 : List HD) (_t8 _t9 t12 : Int) (_r0 : Option (List Int × Unit)) (_r1 _r2 r3 : List Int) : Nat := (r3.length - t12).toNat
def o_law_MatchGathers_2 (t0 : Int) (t1 : List HD) (t8 t9 t12 : Int) (r0 : Option (List Int × Unit)) (r1 r2 r3 : List Int) (K : AExit → St → Prop) : Prop := X_law_MatchGathers_2_0 t0 t1 t8 t9 r0 r1 (addP r2 (r3.drop t12.toNat) ((softAt t1 t8).drop t12.toNat)) K
end Go.Spec
