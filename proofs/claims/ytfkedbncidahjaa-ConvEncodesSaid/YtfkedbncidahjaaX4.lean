/- Lines for the functions of this seat, printed by a program. -/
import Derived.Test.YtfkedbncidahjaaL27
set_option linter.unusedVariables false
set_option linter.unusedSimpArgs false
namespace Go.Spec
open Go Go.Lift
def X_conv_three_1_0_0 (t4 : Int) (r0 : Int) (K : AExit → St → Prop) : Prop := K (.exit 0) ⟨un 4 ++ (.s (.val (.int .u8) t4) :: (un 13)), [(0, .box (.int .i64) r0)], 2⟩
def X_conv_encode_0_0 (r0 : (List Int)) (K : AExit → St → Prop) : Prop := K (.exit 0) ⟨un 3 ++ (.s (.sl 0) :: (un 30)), [(0, .row (.int .u8) r0)], 1⟩
def X_conv_Soft_0_0 (t2 : Bool) (K : AExit → St → Prop) : Prop := K .ret ⟨un 2 ++ (.s (.val .bool t2) :: (un 15)), [], 0⟩
def X_conv_Soft_0_1  (K : AExit → St → Prop) : Prop := K (.exit 0) ⟨un 18, [], 0⟩
def X_conv_Score_0_0 (t8 : Int) (K : AExit → St → Prop) : Prop := K (.exit 0) ⟨un 8 ++ (.s (.val (.int .i64) t8) :: (un 40)), [], 0⟩
def X_R_Coded_0_0 (r0 : (List Int)) (K : AExit → St → Prop) : Prop := K (.exit 0) ⟨un 4 ++ (.s (.sl 0) :: (un 72)), [(0, .row (.int .u8) r0)], 1⟩
def X_R_Coded_2_0 (t5 : Int) (r0 : (List Int)) (r1 : (List Int)) (r2 : (List Int)) (K : AExit → St → Prop) : Prop := K (.exit 2) ⟨un 1 ++ (.s (.addr 0 []) :: (un 1 ++ (.fn 66 [.addr 0 []] :: (.s (.sl 1) :: (.s (.val (.int .i64) t5) :: (.s (.addr 2 []) :: (un 70))))))), [(0, .box (.ro (.int .u8)) r0), (1, .row (.int .u8) r1), (2, .box (.arr 7 (.int .u8)) r2)], 3⟩
def X_R_Score_0_0 (t5 : Int) (K : AExit → St → Prop) : Prop := K (.exit 0) ⟨un 5 ++ (.s (.val (.int .i64) t5) :: (un 25)), [], 0⟩
def X_R_Soft_0_0 (t2 : Bool) (K : AExit → St → Prop) : Prop := K .ret ⟨un 2 ++ (.s (.val .bool t2) :: (un 19)), [], 0⟩
def X_R_Soft_0_1  (K : AExit → St → Prop) : Prop := K (.exit 0) ⟨un 22, [], 0⟩
def X_conv_gain_0_0 (t5 : Int) (K : AExit → St → Prop) : Prop := K (.exit 0) ⟨un 5 ++ (.s (.val (.int .i64) t5) :: (un 20)), [], 0⟩
end Go.Spec
