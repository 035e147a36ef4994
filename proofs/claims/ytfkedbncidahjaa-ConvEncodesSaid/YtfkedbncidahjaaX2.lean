/- Lines for the functions of this seat, printed by a program. -/
import Derived.Test.YtfkedbncidahjaaL27
set_option linter.unusedVariables false
set_option linter.unusedSimpArgs false
namespace Go.Spec
open Go Go.Lift
def X_bits_Noise_0_0 (r0 : (List Int)) (K : AExit → St → Prop) : Prop := K (.exit 0) ⟨un 8 ++ (.s (.sl 0) :: (un 60)), [(0, .row (.int .u8) r0)], 1⟩
def X_bits_Cover_0_0 (t8 : Int) (r0 : (List Int)) (K : AExit → St → Prop) : Prop := K (.exit 0) ⟨un 7 ++ (.s (.sl 0) :: (.s (.val (.int .i64) t8) :: (un 31))), [(0, .row (.int .u8) r0)], 1⟩
def X_R_Noise_0_0 (t1 : Int) (r0 : (List Int)) (r1 : (List Int)) (K : AExit → St → Prop) : Prop := K (.exit 0) ⟨un 1 ++ (.s (.val (.int .i64) t1) :: (un 3 ++ (.s (.sl 0) :: (.s (.sl 1) :: (un 95))))), [(0, .row (.int .u8) r0), (1, .row (.int .u8) r1)], 2⟩
def X_R_Noise_2_0 (t1 : Int) (r0 : (List Int)) (r1 : (List Int)) (K : AExit → St → Prop) : Prop := K (.exit 2) ⟨un 1 ++ (.s (.val (.int .i64) t1) :: (un 3 ++ (.s (.sl 0) :: (.s (.sl 1) :: (un 95))))), [(0, .row (.int .u8) r0), (1, .row (.int .u8) r1)], 2⟩
def X_R_Noise_4_0 (r0 : (List Int)) (K : AExit → St → Prop) : Prop := K (.exit 4) ⟨un 9 ++ (.s (.sl 0) :: (un 92)), [(0, .row (.int .u8) r0)], 1⟩
def X_R_Added_0_0 (r0 : (List Int)) (K : AExit → St → Prop) : Prop := K (.exit 0) ⟨un 5 ++ (.s (.sl 0) :: (un 21)), [(0, .row (.int .u8) r0)], 1⟩
end Go.Spec
