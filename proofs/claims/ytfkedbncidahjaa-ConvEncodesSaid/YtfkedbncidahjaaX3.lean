/- Lines for the functions of this seat, printed by a program. -/
import Derived.Test.YtfkedbncidahjaaL27
set_option linter.unusedVariables false
set_option linter.unusedSimpArgs false
namespace Go.Spec
open Go Go.Lift
def X_keep_good_0_0 (r0 : (List Int)) (K : AExit → St → Prop) : Prop := K (.exit 0) ⟨un 5 ++ (.s (.sl 0) :: (un 21)), [(0, .row (.int .u8) r0)], 1⟩
def X_polar_turn_0_0 (r0 : (List Int)) (K : AExit → St → Prop) : Prop := K (.exit 0) ⟨un 39, [(0, .row (.int .u8) r0)], 2⟩
def X_polar_turn_2_0 (t2 : Int) (r0 : (List Int)) (K : AExit → St → Prop) : Prop := K (.exit 2) ⟨.s (.sl 0) :: (un 1 ++ (.s (.val (.int .i64) t2) :: (un 36))), [(0, .row (.int .u8) r0)], 2⟩
def X_polar_turn_4_0 (t2 : Int) (t3 : Int) (r0 : (List Int)) (K : AExit → St → Prop) : Prop := K (.exit 4) ⟨.s (.sl 0) :: (un 1 ++ (.s (.val (.int .i64) t2) :: (.s (.val (.int .i64) t3) :: (un 35)))), [(0, .row (.int .u8) r0)], 2⟩
def X_keep_PolarTwice_0_0 (t5 : Int) (r0 : (List Int)) (r1 : (List Int)) (K : AExit → St → Prop) : Prop := K (.exit 0) ⟨.s (.sl 0) :: (.s (.sl 1) :: (un 3 ++ (.s (.val (.int .i64) t5) :: (un 94)))), [(0, .row (.int .u8) r0), (1, .row (.int .u8) r1)], 2⟩
end Go.Spec
