/- Lines for the functions of this seat, printed by a program. -/
import Derived.Test.YtfkedbncidahjaaL27
set_option linter.unusedVariables false
set_option linter.unusedSimpArgs false
namespace Go.Spec
open Go Go.Lift
def X_R_SameInts_0_0 (t4 : Bool) (K : AExit → St → Prop) : Prop := K .ret ⟨un 4 ++ (.s (.val .bool t4) :: (un 21)), [], 0⟩
def X_R_SameInts_0_1  (K : AExit → St → Prop) : Prop := K (.exit 0) ⟨un 26, [], 0⟩
def X_R_SameBits_0_0 (t4 : Bool) (K : AExit → St → Prop) : Prop := K .ret ⟨un 4 ++ (.s (.val .bool t4) :: (un 21)), [], 0⟩
def X_R_SameBits_0_1  (K : AExit → St → Prop) : Prop := K (.exit 0) ⟨un 26, [], 0⟩
def X_bits_Check_0_0 (t0 : (List Int)) (t2 : Int) (K : AExit → St → Prop) : Prop := K .ret ⟨.s (.val (.ro (.int .u8)) t0) :: (un 1 ++ (.s (.val (.int .i64) t2) :: (un 14))), [], 0⟩
def X_bits_Check_0_1 (t0 : (List Int)) (K : AExit → St → Prop) : Prop := K (.exit 0) ⟨.s (.val (.ro (.int .u8)) t0) :: (un 16), [], 0⟩
def X_R_Bits_0_0 (t0 : (List Int)) (t2 : Int) (K : AExit → St → Prop) : Prop := K .ret ⟨.s (.val (.ro (.int .u8)) t0) :: (un 1 ++ (.s (.val (.int .i64) t2) :: (un 22))), [], 0⟩
def X_R_Bits_0_1 (t0 : (List Int)) (K : AExit → St → Prop) : Prop := K (.exit 0) ⟨.s (.val (.ro (.int .u8)) t0) :: (un 24), [], 0⟩
def X_R_BitAt_0_0 (t5 : Int) (K : AExit → St → Prop) : Prop := K (.exit 0) ⟨un 5 ++ (.s (.val (.int .i64) t5) :: (un 17)), [], 0⟩
def X_R_Unpack_0_0 (r0 : (List Int)) (K : AExit → St → Prop) : Prop := K (.exit 0) ⟨un 6 ++ (.s (.sl 0) :: (un 24)), [(0, .row (.int .u8) r0)], 1⟩
def X_R_Pack_0_0 (r0 : (List Int)) (K : AExit → St → Prop) : Prop := K (.exit 0) ⟨un 3 ++ (.s (.sl 0) :: (un 36)), [(0, .row (.int .u8) r0)], 1⟩
def X_R_Pack_2_0 (t0 : (List Int)) (t4 : Int) (t5 : Int) (r0 : (List Int)) (K : AExit → St → Prop) : Prop := K (.exit 2) ⟨.s (.val (.ro (.int .u8)) t0) :: (un 2 ++ (.s (.sl 0) :: (.s (.val (.int .i64) t4) :: (.s (.val (.int .i64) t5) :: (un 34))))), [(0, .row (.int .u8) r0)], 1⟩
def X_bits_Pack_0_0 (r0 : (List Int)) (K : AExit → St → Prop) : Prop := K (.exit 0) ⟨un 5 ++ (.s (.sl 0) :: (un 34)), [(0, .row (.int .u8) r0)], 1⟩
def X_bits_Unpack_0_0 (r0 : (List Int)) (K : AExit → St → Prop) : Prop := K (.exit 0) ⟨un 6 ++ (.s (.sl 0) :: (un 33)), [(0, .row (.int .u8) r0)], 1⟩
def X_R_NewTakes_0_0 (r0 : ((List Bool) × ((List Bool) × Unit))) (K : AExit → St → Prop) : Prop := K (.exit 0) ⟨un 1 ++ (.s (.addr 0 []) :: (un 13)), [(0, .box (.pair (.arr 8 .bool) (.pair (.arr 8 .bool) .unit)) r0)], 1⟩
def X_law_HarqTakes_0_0 (t2 : Bool) (K : AExit → St → Prop) : Prop := K .ret ⟨un 2 ++ (.s (.val .bool t2) :: (un 87)), [], 0⟩
def X_law_HarqTakes_0_1  (K : AExit → St → Prop) : Prop := K (.exit 0) ⟨un 90, [], 0⟩
end Go.Spec
