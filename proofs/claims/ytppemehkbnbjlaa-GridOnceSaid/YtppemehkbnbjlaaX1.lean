/- Lines for the functions of this seat; merged from texts of their own. -/
import Derived.Test.YtppemehkbnbjlaaLF
set_option linter.unusedVariables false
set_option linter.unusedSimpArgs false
namespace Go.Spec
open Go Go.Lift
def X_R_SameInts_0_0 (t4 : Bool) (K : AExit → St → Prop) : Prop := K .ret ⟨un 4 ++ (.s (.val .bool t4) :: (un 21)), [], 0, []⟩
def X_R_SameInts_0_1  (K : AExit → St → Prop) : Prop := K (.exit 0) ⟨un 26, [], 0, []⟩
def X_harq_Sender_Submit_0_0 (t4 : Int) (t5 : Int) (r0 : (Int × ((List Bool) × ((Option (List (Int × (Option (ByteArray × (Int × (Bool × Unit))))))) × Unit)))) (K : AExit → St → Prop) : Prop := K .ret ⟨un 4 ++ (.s (.val (.int .i64) t4) :: (.s (.val (.int .i64) t5) :: (un 36))), [(0, .box (.pair (.int .i64) (.pair (.arr 8 .bool) (.pair (.map (.int .i64) (.ptr (.pair .str (.pair (.int .i64) (.pair .bool .unit))))) .unit))) r0 [])], 2, []⟩
def X_harq_Sender_Submit_0_1 (r0 : (Int × ((List Bool) × ((Option (List (Int × (Option (ByteArray × (Int × (Bool × Unit))))))) × Unit)))) (K : AExit → St → Prop) : Prop := K (.exit 0) ⟨un 42, [(0, .box (.pair (.int .i64) (.pair (.arr 8 .bool) (.pair (.map (.int .i64) (.ptr (.pair .str (.pair (.int .i64) (.pair .bool .unit))))) .unit))) r0 [])], 2, []⟩
def X_R_Tries_Submit_0_0 (t4 : Int) (t5 : Int) (r0 : (Int × ((List (Bool × (Bool × (Bool × (ByteArray × (Int × Unit)))))) × Unit))) (K : AExit → St → Prop) : Prop := K .ret ⟨un 4 ++ (.s (.val (.int .i64) t4) :: (.s (.val (.int .i64) t5) :: (un 32))), [(0, .box (.pair (.int .i64) (.pair (.arr 8 (.pair .bool (.pair .bool (.pair .bool (.pair .str (.pair (.int .i64) .unit)))))) .unit)) r0 [])], 2, []⟩
def X_R_Tries_Submit_0_1 (r0 : (Int × ((List (Bool × (Bool × (Bool × (ByteArray × (Int × Unit)))))) × Unit))) (K : AExit → St → Prop) : Prop := K (.exit 0) ⟨un 38, [(0, .box (.pair (.int .i64) (.pair (.arr 8 (.pair .bool (.pair .bool (.pair .bool (.pair .str (.pair (.int .i64) .unit)))))) .unit)) r0 [])], 2, []⟩
def X_harq_Sender_Waiting_0_0 (r0 : (Int × ((List Bool) × ((Option (List (Int × (Option (ByteArray × (Int × (Bool × Unit))))))) × Unit)))) (r1 : (List Int)) (K : AExit → St → Prop) : Prop := K (.exit 0) ⟨un 3 ++ (.s (.sl 1) :: (un 17)), [(0, .box (.pair (.int .i64) (.pair (.arr 8 .bool) (.pair (.map (.int .i64) (.ptr (.pair .str (.pair (.int .i64) (.pair .bool .unit))))) .unit))) r0 []), (1, .row (.int .i64) r1 [])], 3, []⟩
def X_R_Tries_Waiting_0_0 (r0 : (Int × ((List (Bool × (Bool × (Bool × (ByteArray × (Int × Unit)))))) × Unit))) (r1 : (List Int)) (K : AExit → St → Prop) : Prop := K (.exit 0) ⟨un 3 ++ (.s (.sl 1) :: (un 17)), [(0, .box (.pair (.int .i64) (.pair (.arr 8 (.pair .bool (.pair .bool (.pair .bool (.pair .str (.pair (.int .i64) .unit)))))) .unit)) r0 []), (1, .row (.int .i64) r1 [])], 3, []⟩
end Go.Spec
