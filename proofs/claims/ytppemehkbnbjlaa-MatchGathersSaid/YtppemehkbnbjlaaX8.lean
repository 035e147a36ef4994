/- Lines for the functions of this seat; merged from texts of their own. -/
import Derived.Test.YtppemehkbnbjlaaLF
set_option linter.unusedVariables false
set_option linter.unusedSimpArgs false
namespace Go.Spec
open Go Go.Lift
def X_law_MatchPicks_0_0 (t8 : Bool) (K : AExit → St → Prop) : Prop := K .ret ⟨un 8 ++ (.s (.val .bool t8) :: (un 138)), [], 0, []⟩
def X_law_MatchPicks_0_1  (K : AExit → St → Prop) : Prop := K (.exit 0) ⟨un 147, [], 0, []⟩
def X_law_MatchGathers_0_0 (t4 : Bool) (K : AExit → St → Prop) : Prop := K .ret ⟨un 4 ++ (.s (.val .bool t4) :: (un 123)), [], 0, []⟩
def X_law_MatchGathers_0_1  (K : AExit → St → Prop) : Prop := K (.exit 0) ⟨un 128, [], 0, []⟩
def X_law_MatchGathers_2_0 (t0 : Int) (t1 : (List ((List Int) × (Int × Unit)))) (t8 : Int) (t9 : Int) (r0 : (Option ((List Int) × Unit))) (r1 : (List Int)) (r2 : (List Int)) (K : AExit → St → Prop) : Prop := K (.exit 2) ⟨.s (.val (.int .i64) t0) :: (.s (.val (.ro (.pair (.ro (.int .i64)) (.pair (.int .i64) .unit))) t1) :: (un 3 ++ (.s (.addr 0 []) :: (un 1 ++ (.s (.sl 1) :: (.s (.val (.int .i64) t8) :: (.s (.val (.int .i64) t9) :: (.s (.sl 2) :: (un 117))))))))), [(0, .obox (.pair (.ro (.int .i64)) .unit) r0 []), (1, .row (.int .i64) r1 []), (2, .row (.int .i64) r2 [])], 3, []⟩
end Go.Spec
