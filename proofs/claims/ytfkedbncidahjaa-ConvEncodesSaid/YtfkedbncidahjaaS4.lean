/- What the functions answer: the code with a memory. -/
import Derived.Test.YtfkedbncidahjaaM4
import Derived.Test.YtfkedbncidahjaaX4
set_option linter.unusedVariables false
set_option linter.unusedSimpArgs false
namespace Go.Spec
open Go Go.Lift
def S_conv_three_1 : Summ := { par := [.v (.int .i64), .box (.int .i64)], res := [.v (.int .u8)], esc := false, pre := fun x => 0 ≤ x.1 ∧ x.1 < 128 ∧ 0 ≤ x.2.1 ∧ x.2.1 < 128, fn := fun x => ((parI (bits .and .i64 x.2.1 x.1), ()), ((), x.2.1, ())) }
def p_conv_three_1_0 (t4 t5 _r0 : Int) : Prop := (t4 = 0 ∨ t4 = 1) ∧ 0 ≤ t5 ∧ t5 < 128
def m_conv_three_1_0 (_t4 t5 _r0 : Int) : Nat := t5.toNat
def o_conv_three_1_0 (t4 t5 r0 : Int) (K : AExit → St → Prop) : Prop := X_conv_three_1_0_0 ((t4 + parI t5) % 2) r0 K
def S_conv_three : Summ := { par := [.v (.int .i64)], res := [.v (.arr 3 (.int .u8))], esc := false, pre := fun x => 0 ≤ x.1 ∧ x.1 < 128, fn := fun x => ((thr x.1, ()), ((), ())) }
def S_conv_encode : Summ := { par := [.v (.ro (.int .u8))], res := [.row (.int .u8)], esc := false, pre := fun x => Bits x.1 ∧ x.1.length ≤ 400, fn := fun x => ((encL x.1, ()), ((), ())) }
def p_conv_encode_0 (t0 : List Int) (t4 t9 t10 : Int) (r0 : List Int) : Prop := Bits t0 ∧ t0.length ≤ 400 ∧ 0 ≤ t4 ∧ t4 < 128 ∧ t9 = t0.length + 6 ∧ 0 ≤ t10 ∧ t10 ≤ t9 ∧ r0.length = 3 * t10
def m_conv_encode_0 (_t0 : List Int) (_t4 t9 t10 : Int) (_r0 : List Int) : Nat := (t9 - t10).toNat
def o_conv_encode_0 (t0 : List Int) (t4 _t9 t10 : Int) (r0 : List Int) (K : AExit → St → Prop) : Prop := X_conv_encode_0_0 (r0 ++ encF t4 ((t0 ++ List.replicate 6 0).drop t10.toNat)) K
def S_conv_Encode : Summ := { par := [.v (.ro (.int .u8))], res := [.row (.int .u8), .v (.int .i64)], esc := false, pre := fun x => (x.1.length : Int) ≤ big ∧ ∀ y ∈ x.1, 0 ≤ y, fn := fun x => ((encOf x.1, encErr x.1, ()), ((), ())) }
def S_conv_Soft : Summ := { par := [.v (.ro (.int .i64))], res := [.v .bool], esc := false, pre := fun x => (x.1.length : Int) ≤ big, fn := fun x => ((softB x.1, ()), ((), ())) }
def p_conv_Soft_0 (t5 : List Int) (t6 t7 : Int) : Prop := t6 = t5.length ∧ 0 ≤ t7 ∧ t7 ≤ t6 ∧ (t5.length : Int) ≤ big
def m_conv_Soft_0 (_t5 : List Int) (t6 t7 : Int) : Nat := (t6 - t7).toNat
def o_conv_Soft_0 (t5 : List Int) (_t6 t7 : Int) (K : AExit → St → Prop) : Prop := condP (softB (t5.drop t7.toNat)) (X_conv_Soft_0_1 K) (X_conv_Soft_0_0 false K)
def S_conv_Score : Summ := { par := [.v (.ro (.int .u8)), .v (.ro (.int .i64))], res := [.v (.int .i64), .v (.int .i64)], esc := false, pre := fun x => ((x.1.length : Int) ≤ big ∧ ∀ y ∈ x.1, 0 ≤ y) ∧ (x.2.1.length : Int) ≤ big, fn := fun x => ((scoreOf x.1 x.2.1, scoreErr x.1 x.2.1, ()), ((), (), ())) }
def p_conv_Score_0 (t1 : List Int) (_t8 t30 t31 : Int) (r0 : List Int) : Prop := Bits r0 ∧ softB t1 = true ∧ t30 = r0.length ∧ 0 ≤ t31 ∧ t31 ≤ t30 ∧ t1.length = r0.length ∧ (r0.length : Int) ≤ big
def m_conv_Score_0 (_t1 : List Int) (_t8 t30 t31 : Int) (_r0 : List Int) : Nat := (t30 - t31).toNat
def o_conv_Score_0 (t1 : List Int) (t8 _t30 t31 : Int) (r0 : List Int) (K : AExit → St → Prop) : Prop := X_conv_Score_0_0 (scoreF t8 (r0.drop t31.toNat) (t1.drop t31.toNat)) K
/-! the document's -/
def S_R_Coded_1 : Summ := { par := [.v (.int .i64), .box (.ro (.int .u8))], res := [.v (.int .u8)], esc := true, pre := fun _ => True, fn := fun x => ((atB x.2.1 x.1, ()), ((), x.2.1, ())) }
def S_R_Coded : Summ := { par := [.v (.ro (.int .u8))], res := [.row (.int .u8)], esc := false, pre := fun x => Bits x.1 ∧ x.1.length ≤ 100000, fn := fun x => ((encL x.1, ()), ((), ())) }
def p_R_Coded_0 (t5 : Int) (r0 r1 : List Int) : Prop := Bits r0 ∧ r0.length ≤ 100000 ∧ 0 ≤ t5 ∧ t5 ≤ r0.length + 6 ∧ r1.length = 3 * t5
def m_R_Coded_0 (t5 : Int) (r0 _r1 : List Int) : Nat := (r0.length + 6 - t5).toNat
def o_R_Coded_0 (t5 : Int) (r0 r1 : List Int) (K : AExit → St → Prop) : Prop := X_R_Coded_0_0 (r1 ++ encF (regAt r0 t5) ((r0 ++ List.replicate 6 0).drop t5.toNat)) K
def p_R_Coded_2 (t5 t7 : Int) (r0 _r1 r2 : List Int) : Prop := r0.length ≤ 100000 ∧ 0 ≤ t5 ∧ t5 ≤ r0.length + 6 ∧ 0 ≤ t7 ∧ t7 ≤ 7 ∧ r2.length = 7
def m_R_Coded_2 (_t5 t7 : Int) (_r0 _r1 _r2 : List Int) : Nat := (7 - t7).toNat
def o_R_Coded_2 (t5 t7 : Int) (r0 r1 r2 : List Int) (K : AExit → St → Prop) : Prop := X_R_Coded_2_0 t5 r0 r1 (fillFrom r2 t7.toNat fun k => atB r0 (t5 - k)) K
def S_R_Soft : Summ := { par := [.v (.ro (.int .i64))], res := [.v .bool], esc := false, pre := fun x => (x.1.length : Int) ≤ big, fn := fun x => ((softB x.1, ()), ((), ())) }
def p_R_Soft_0 (t0 : List Int) (t3 : Int) : Prop := 0 ≤ t3 ∧ t3 ≤ t0.length ∧ (t0.length : Int) ≤ big
def m_R_Soft_0 (t0 : List Int) (t3 : Int) : Nat := (t0.length - t3).toNat
def o_R_Soft_0 (t0 : List Int) (t3 : Int) (K : AExit → St → Prop) : Prop := condP (softB (t0.drop t3.toNat)) (X_R_Soft_0_1 K) (X_R_Soft_0_0 false K)
def S_R_Score : Summ := { par := [.v (.ro (.int .u8)), .v (.ro (.int .i64))], res := [.v (.int .i64)], esc := false, pre := fun x => x.1.length ≤ x.2.1.length ∧ (x.1.length : Int) ≤ big, fn := fun x => ((scoreF 0 x.1 x.2.1, ()), ((), (), ())) }
def p_R_Score_0 (t0 t1 : List Int) (_t5 t6 : Int) : Prop := t0.length ≤ t1.length ∧ (t0.length : Int) ≤ big ∧ 0 ≤ t6 ∧ t6 ≤ t0.length
def m_R_Score_0 (t0 _t1 : List Int) (_t5 t6 : Int) : Nat := (t0.length - t6).toNat
def o_R_Score_0 (t0 t1 : List Int) (t5 t6 : Int) (K : AExit → St → Prop) : Prop := X_R_Score_0_0 (scoreF t5 (t0.drop t6.toNat) (t1.drop t6.toNat)) K
def S_law_ConvEncodes : Summ := { par := [.v (.ro (.int .u8)), .v (.ro (.int .i64))], res := [.v .bool], esc := false, pre := fun x => ((x.1.length : Int) ≤ big ∧ ∀ y ∈ x.1, 0 ≤ y) ∧ (x.2.1.length : Int) ≤ big, fn := fun _ => ((true, ()), ((), (), ())) }
end Go.Spec
