/- Lines for the functions of this seat; merged from texts of their own. -/
import Derived.Test.YtppemehkbnbjlaaLF
set_option linter.unusedVariables false
set_option linter.unusedSimpArgs false
namespace Go.Spec
open Go Go.Lift
def X_R_Order_0_0 (r0 : (List (List Int))) (K : AExit → St → Prop) : Prop := K (.exit 0) ⟨un 3 ++ (.s (.sl 0) :: (un 63)), [(0, .row (.own (.int .i64)) r0 [])], 1, []⟩
def X_R_Order_2_0 (r0 : (List Int)) (K : AExit → St → Prop) : Prop := K (.exit 2) ⟨un 6 ++ (.s (.sl 0) :: (un 60)), [(0, .row (.int .i64) r0 [])], 1, []⟩
def X_R_Order_4_0 (t7 : Int) (r0 : (List (List Int))) (r1 : (List Int)) (r2 : (List Int)) (K : AExit → St → Prop) : Prop := K (.exit 4) ⟨un 3 ++ (.s (.sl 0) :: (un 1 ++ (.s (.sl 1) :: (.s (.sl 2) :: (.s (.val (.int .i64) t7) :: (un 59)))))), [(0, .row (.own (.int .i64)) r0 []), (1, .row (.int .i64) r1 []), (2, .row (.int .i64) r2 [])], 3, []⟩
def X_match_Pick_0_0 (r0 : (List Int)) (K : AExit → St → Prop) : Prop := K (.exit 0) ⟨un 12 ++ (.s (.sl 0) :: (un 50)), [(0, .row (.int .u8) r0 [])], 1, []⟩
def X_R_Bits_0_0 (t0 : (List Int)) (t2 : Int) (K : AExit → St → Prop) : Prop := K .ret ⟨.s (.val (.ro (.int .u8)) t0) :: (un 1 ++ (.s (.val (.int .i64) t2) :: (un 22))), [], 0, []⟩
def X_R_Bits_0_1 (t0 : (List Int)) (K : AExit → St → Prop) : Prop := K (.exit 0) ⟨.s (.val (.ro (.int .u8)) t0) :: (un 24), [], 0, []⟩
def X_R_Picked_0_0 (r0 : (List Int)) (K : AExit → St → Prop) : Prop := K (.exit 0) ⟨un 8 ++ (.s (.sl 0) :: (un 26)), [(0, .row (.int .i64) r0 [])], 1, []⟩
def X_bits_Check_0_0 (t0 : (List Int)) (t2 : Int) (K : AExit → St → Prop) : Prop := K .ret ⟨.s (.val (.ro (.int .u8)) t0) :: (un 1 ++ (.s (.val (.int .i64) t2) :: (un 14))), [], 0, []⟩
def X_bits_Check_0_1 (t0 : (List Int)) (K : AExit → St → Prop) : Prop := K (.exit 0) ⟨.s (.val (.ro (.int .u8)) t0) :: (un 16), [], 0, []⟩
def X_R_Soft_0_0 (t2 : Bool) (K : AExit → St → Prop) : Prop := K .ret ⟨un 2 ++ (.s (.val .bool t2) :: (un 19)), [], 0, []⟩
def X_R_Soft_0_1  (K : AExit → St → Prop) : Prop := K (.exit 0) ⟨un 22, [], 0, []⟩
def X_conv_Soft_0_0 (t2 : Bool) (K : AExit → St → Prop) : Prop := K .ret ⟨un 2 ++ (.s (.val .bool t2) :: (un 15)), [], 0, []⟩
def X_conv_Soft_0_1  (K : AExit → St → Prop) : Prop := K (.exit 0) ⟨un 18, [], 0, []⟩
def X_match_Buffer_Add_0_0 (r0 : ((List Int) × Unit)) (r1 : (List Int)) (K : AExit → St → Prop) : Prop := K (.exit 0) ⟨.s (.addr 0 []) :: (un 9 ++ (.s (.sl 1) :: (un 65))), [(0, .box (.pair (.own (.int .i64)) .unit) r0 []), (1, .row (.int .i64) r1 [])], 3, []⟩
end Go.Spec
