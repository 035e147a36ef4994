/- What the functions answer: the order of places, what is picked. -/
import Derived.Test.YtppemehkbnbjlaaM14
import Derived.Test.YtppemehkbnbjlaaX7
set_option linter.unusedVariables false
set_option linter.unusedSimpArgs false
namespace Go.Spec
open Go Go.Lift
def softB (l : List Int) : Bool := l.all fun x => decide (-100000 ≤ x) && decide (x ≤ 100000)
def versionB (v : Int) : Bool := decide (0 ≤ v ∧ v ≤ 3)
def orderErr (n : Int) : Int := if 0 ≤ n ∧ n ≤ 4096 then 0 else 1
def orderOf (n : Int) : List Int := if 0 ≤ n ∧ n ≤ 4096 then turnL n else []
def S_match_Order : Summ := { par := [.v (.int .i64)], res := [.row (.int .i64), .v (.int .i64)], esc := false, pre := fun _ => True, fn := fun x => ((orderOf x.1, orderErr x.1, ()), ((), ())) }
def S_R_Order : Summ := { par := [.v (.int .i64)], res := [.row (.int .i64)], esc := false, pre := fun x => Prod.fst x ≤ 1000000, fn := fun x => ((turnL x.1, ()), ((), ())) }
def p_R_Order_0 (t0 t4 : Int) (r0 : List (List Int)) : Prop := t0 ≤ 1000000 ∧ 0 ≤ t4 ∧ (t4 ≤ t0 ∨ t4 = 0) ∧ r0 = tabL t4.toNat
def m_R_Order_0 (t0 t4 : Int) (_r0 : List (List Int)) : Nat := (t0 - t4).toNat
def o_R_Order_0 (t0 _t4 : Int) (_r0 : List (List Int)) (K : AExit → St → Prop) : Prop := X_R_Order_0_0 (tabL t0.toNat) K
def p_R_Order_2 (t7 : Int) (r0 : List (List Int)) (r1 r2 : List Int) : Prop := 0 ≤ t7 ∧ t7 ≤ 8 ∧ r1 = cols ∧ r0.length ≤ 1000000 ∧ (r2.length : Int) ≤ 1000000 * t7
def m_R_Order_2 (t7 : Int) (_r0 : List (List Int)) (_r1 _r2 : List Int) : Nat := (8 - t7).toNat
def o_R_Order_2 (t7 : Int) (r0 : List (List Int)) (r1 r2 : List Int) (K : AExit → St → Prop) : Prop := X_R_Order_2_0 (r2 ++ (r1.drop t7.toNat).flatMap (pickCol r0)) K
def p_R_Order_4 (t7 t8 : Int) (r0 : List (List Int)) (r1 r2 : List Int) : Prop := 0 ≤ t7 ∧ t7 < 8 ∧ r1 = cols ∧ r0.length ≤ 1000000 ∧ 0 ≤ t8 ∧ t8 ≤ r0.length ∧ (r2.length : Int) ≤ 1000000 * t7 + t8
def m_R_Order_4 (_t7 t8 : Int) (r0 : List (List Int)) (_r1 _r2 : List Int) : Nat := (r0.length - t8).toNat
def o_R_Order_4 (t7 t8 : Int) (r0 : List (List Int)) (r1 r2 : List Int) (K : AExit → St → Prop) : Prop := X_R_Order_4_0 t7 r0 r1 (r2 ++ pickCol (r0.drop t8.toNat) (r1.getD t7.toNat 0)) K
def S_match_Begin : Summ := { par := [.v (.int .i64), .v (.int .i64)], res := [.v (.int .i64), .v (.int .i64)], esc := false, pre := fun _ => True, fn := fun x => (((beginOf x.1 x.2.1).1, (beginOf x.1 x.2.1).2, ()), ((), (), ())) }
def S_R_Version : Summ := { par := [.v (.int .i64)], res := [.v .bool], esc := false, pre := fun _ => True, fn := fun x => ((versionB x.1, ()), ((), ())) }
def pickErr (c : List Int) (v k : Int) : Int := if bitsErr c ≠ 0 then bitsErr c else if (beginOf c.length v).2 ≠ 0 ∨ k < 0 ∨ 4096 < k then 1 else 0
def pickOf (c : List Int) (v k : Int) : List Int := if pickErr c v k = 0 then pickL c (beginOf c.length v).1 k.toNat else []
def S_match_Pick : Summ := { par := [.v (.ro (.int .u8)), .v (.int .i64), .v (.int .i64)], res := [.row (.int .u8), .v (.int .i64)], esc := false, pre := fun x => (x.1.length : Int) ≤ big ∧ ∀ y ∈ x.1, 0 ≤ y, fn := fun x => ((pickOf x.1 x.2.1 x.2.2.1, pickErr x.1 x.2.1 x.2.2.1, ()), ((), (), (), ())) }
def p_match_Pick_0 (t0 : List Int) (t9 t42 t43 : Int) (r0 r1 : List Int) : Prop := r0 = turnL t0.length ∧ 1 ≤ t0.length ∧ t0.length ≤ 4096 ∧ 0 ≤ t9 ∧ t9 ≤ 4096 ∧ t42 = r1.length ∧ 0 ≤ t43 ∧ t43 ≤ t42 ∧ t42 ≤ 4096
def m_match_Pick_0 (_t0 : List Int) (_t9 t42 t43 : Int) (_r0 _r1 : List Int) : Nat := (t42 - t43).toNat
def o_match_Pick_0 (t0 : List Int) (t9 t42 t43 : Int) (_r0 r1 : List Int) (K : AExit → St → Prop) : Prop := X_match_Pick_0_0 (r1.take t43.toNat ++ (pickL t0 t9 t42.toNat).drop t43.toNat) K
def S_R_Bits : Summ := { par := [.v (.ro (.int .u8))], res := [.v (.int .i64)], esc := false, pre := fun x => (x.1.length : Int) ≤ big, fn := fun x => ((bitsErr x.1, ()), ((), ())) }
def p_R_Bits_0 (t0 : List Int) (t3 : Int) : Prop := 0 ≤ t3 ∧ t3 ≤ t0.length ∧ (t0.length : Int) ≤ big
def m_R_Bits_0 (t0 : List Int) (t3 : Int) : Nat := (t0.length - t3).toNat
def o_R_Bits_0 (t0 : List Int) (t3 : Int) (K : AExit → St → Prop) : Prop := condP ((t0.drop t3.toNat).any badBit) (X_R_Bits_0_0 t0 1 K) (X_R_Bits_0_1 t0 K)
def S_bits_Check : Summ := { par := [.v (.ro (.int .u8))], res := [.v (.int .i64)], esc := false, pre := fun x => (x.1.length : Int) ≤ big ∧ ∀ y ∈ x.1, 0 ≤ y, fn := fun x => ((bitsErr x.1, ()), ((), ())) }
def p_bits_Check_0 (t0 t5 : List Int) (t6 t7 : Int) : Prop := t0 = t5 ∧ t6 = t5.length ∧ 0 ≤ t7 ∧ t7 ≤ t6 ∧ t6 ≤ big
def m_bits_Check_0 (_t0 _t5 : List Int) (t6 t7 : Int) : Nat := (t6 - t7).toNat
def o_bits_Check_0 (t0 t5 : List Int) (_t6 t7 : Int) (K : AExit → St → Prop) : Prop := condP ((t5.drop t7.toNat).any fun x => decide (x > 1)) (X_bits_Check_0_0 t0 1 K) (X_bits_Check_0_1 t0 K)
def S_R_Picked : Summ := { par := [.v (.int .i64), .v (.int .i64), .v (.int .i64)], res := [.row (.int .i64)], esc := false, pre := fun x => 1 ≤ Prod.fst x ∧ Prod.fst x ≤ 4096 ∧ 0 ≤ Prod.fst x.2 ∧ Prod.fst x.2 ≤ 3 ∧ 0 ≤ Prod.fst x.2.2 ∧ Prod.fst x.2.2 ≤ 4096, fn := fun x => ((pickedL x.1 (beginOf x.1 x.2.1).1 (Prod.fst x.2.2).toNat, ()), ((), (), (), ())) }
def p_R_Picked_0 (t0 t2 t9 t10 : Int) (r0 r1 : List Int) : Prop := r0 = turnL t0 ∧ 1 ≤ t0 ∧ t0 ≤ 4096 ∧ 0 ≤ t9 ∧ t9 < t0 ∧ 0 ≤ t10 ∧ t10 ≤ t2 ∧ t2 ≤ 4096 ∧ r1.length = t10
def m_R_Picked_0 (_t0 t2 _t9 t10 : Int) (_r0 _r1 : List Int) : Nat := (t2 - t10).toNat
def o_R_Picked_0 (t0 t2 t9 t10 : Int) (_r0 r1 : List Int) (K : AExit → St → Prop) : Prop := X_R_Picked_0_0 (r1 ++ pickedL t0 t9 (t2 - t10).toNat) K
def S_match_New : Summ := { par := [.v (.int .i64)], res := [.obox (.pair (.own (.int .i64)) .unit), .v (.int .i64)], esc := false, pre := fun _ => True, fn := fun x => (((if 1 ≤ Prod.fst x ∧ Prod.fst x ≤ 4096 then some (List.replicate (Prod.fst x).toNat 0, ()) else none), (if 1 ≤ Prod.fst x ∧ Prod.fst x ≤ 4096 then 0 else 1), ()), ((), ())) }
def S_R_Soft : Summ := { par := [.v (.ro (.int .i64))], res := [.v .bool], esc := false, pre := fun x => (x.1.length : Int) ≤ big, fn := fun x => ((softB x.1, ()), ((), ())) }
def p_R_Soft_0 (t0 : List Int) (t3 : Int) : Prop := 0 ≤ t3 ∧ t3 ≤ t0.length ∧ (t0.length : Int) ≤ big
def m_R_Soft_0 (t0 : List Int) (t3 : Int) : Nat := (t0.length - t3).toNat
def o_R_Soft_0 (t0 : List Int) (t3 : Int) (K : AExit → St → Prop) : Prop := condP (softB (t0.drop t3.toNat)) (X_R_Soft_0_1 K) (X_R_Soft_0_0 false K)
def S_conv_Soft : Summ := { par := [.v (.ro (.int .i64))], res := [.v .bool], esc := false, pre := fun x => (x.1.length : Int) ≤ big, fn := fun x => ((softB x.1, ()), ((), ())) }
def p_conv_Soft_0 (t5 : List Int) (t6 t7 : Int) : Prop := t6 = t5.length ∧ 0 ≤ t7 ∧ t7 ≤ t6 ∧ (t5.length : Int) ≤ big
def m_conv_Soft_0 (_t5 : List Int) (t6 t7 : Int) : Nat := (t6 - t7).toNat
def o_conv_Soft_0 (t5 : List Int) (_t6 t7 : Int) (K : AExit → St → Prop) : Prop := condP (softB (t5.drop t7.toNat)) (X_conv_Soft_0_1 K) (X_conv_Soft_0_0 false K)
def S_slices_Clone_int_int : Summ := { par := [.v (.ro (.int .i64))], res := [.row (.int .i64)], esc := false, pre := fun x => x.1.length ≤ 1000000000, fn := fun x => ((x.1, ()), ((), ())) }
/-- What is added, place by place. -/
def addP : List Int → List Int → List Int → List Int
  | nx, p :: ps, s :: ss => addP (nx.set p.toNat (IntKind.wrap .i64 (nx.getD p.toNat 0 + s))) ps ss
  | nx, _, _ => nx
def addL (b soft : List Int) (v : Int) : List Int := addP b (pickedL b.length (beginOf b.length v).1 soft.length) soft
def addErr (b soft : List Int) (v : Int) : Int := if (beginOf b.length v).2 ≠ 0 ∨ softB soft = false ∨ 4096 < soft.length then 1 else if softB (addL b soft v) = true then 0 else 2
def addOf (b soft : List Int) (v : Int) : List Int := if addErr b soft v = 0 then addL b soft v else b
def S_match_Buffer_Add : Summ := { par := [.box (.pair (.own (.int .i64)) .unit), .v (.ro (.int .i64)), .v (.int .i64)], res := [.v (.int .i64)], esc := false, pre := fun x => (Prod.fst x.1).length ≤ 4096 ∧ (x.2.1.length : Int) ≤ big, fn := fun x => ((addErr x.1.1 x.2.1 x.2.2.1, ()), ((addOf x.1.1 x.2.1 x.2.2.1, ()), (), (), ())) }
def p_match_Buffer_Add_0 (t7 : Int) (t46 : List Int) (t47 t48 : Int) (r0 : List Int × Unit) (r1 r2 : List Int) : Prop := r1 = turnL r2.length ∧ 1 ≤ r2.length ∧ r2.length ≤ 4096 ∧ 0 ≤ t7 ∧ t7 ≤ 4096 ∧ t47 = t46.length ∧ 0 ≤ t48 ∧ t48 ≤ t47 ∧ t47 ≤ 4096 ∧ r0.1.length ≤ 4096
def m_match_Buffer_Add_0 (_t7 : Int) (_t46 : List Int) (t47 t48 : Int) (_r0 : List Int × Unit) (_r1 _r2 : List Int) : Nat := (t47 - t48).toNat
def o_match_Buffer_Add_0 (t7 : Int) (t46 : List Int) (t47 t48 : Int) (r0 : List Int × Unit) (_r1 r2 : List Int) (K : AExit → St → Prop) : Prop := X_match_Buffer_Add_0_0 r0 (addP r2 ((pickedL r2.length t7 t47.toNat).drop t48.toNat) (t46.drop t48.toNat)) K
def S_match_Buffer_Soft : Summ := { par := [.box (.pair (.own (.int .i64)) .unit)], res := [.row (.int .i64)], esc := false, pre := fun x => (Prod.fst x.1).length ≤ 4096, fn := fun x => ((x.1.1, ()), (x.1, ())) }
end Go.Spec
