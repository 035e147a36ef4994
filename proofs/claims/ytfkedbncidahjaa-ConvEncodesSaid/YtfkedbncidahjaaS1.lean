/- What the functions answer: bits and texts, the receiver of blocks. -/
import Derived.Test.YtfkedbncidahjaaM1
import Derived.Test.YtfkedbncidahjaaX1
set_option linter.unusedVariables false
set_option linter.unusedSimpArgs false
namespace Go.Spec
open Go Go.Lift

def big : Int := 2 ^ 50
/-! SameInts, SameBits -/
def S_R_SameInts : Summ := { par := [.v (.ro (.int .i64)), .v (.ro (.int .i64))], res := [.v .bool], esc := false, pre := fun x => (x.1.length : Int) ≤ big, fn := fun x => ((decide (x.1 = x.2.1), ()), ((), (), ())) }
def p_R_SameInts_0 (t0 t1 : List Int) (t5 : Int) : Prop := t0.length = t1.length ∧ 0 ≤ t5 ∧ t5 ≤ t0.length ∧ (t0.length : Int) ≤ big
def m_R_SameInts_0 (t0 _t1 : List Int) (t5 : Int) : Nat := t0.length - t5.toNat
def o_R_SameInts_0 (t0 t1 : List Int) (t5 : Int) (K : AExit → St → Prop) : Prop := condP (decide (t0.drop t5.toNat = t1.drop t5.toNat)) (X_R_SameInts_0_1 K) (X_R_SameInts_0_0 false K)
def S_R_SameBits : Summ := { par := [.v (.ro (.int .u8)), .v (.ro (.int .u8))], res := [.v .bool], esc := false, pre := fun x => (x.1.length : Int) ≤ big, fn := fun x => ((decide (x.1 = x.2.1), ()), ((), (), ())) }
def p_R_SameBits_0 (t0 t1 : List Int) (t5 : Int) : Prop := t0.length = t1.length ∧ 0 ≤ t5 ∧ t5 ≤ t0.length ∧ (t0.length : Int) ≤ big
def m_R_SameBits_0 (t0 _t1 : List Int) (t5 : Int) : Nat := t0.length - t5.toNat
def o_R_SameBits_0 (t0 t1 : List Int) (t5 : Int) (K : AExit → St → Prop) : Prop := condP (decide (t0.drop t5.toNat = t1.drop t5.toNat)) (X_R_SameBits_0_1 K) (X_R_SameBits_0_0 false K)
/-! Version -/
def versionB (v : Int) : Bool := decide (0 ≤ v) && decide (v ≤ 3)
def S_R_Version : Summ := { par := [.v (.int .i64)], res := [.v .bool], esc := false, pre := fun _ => True, fn := fun x => ((versionB x.1, ()), ((), ())) }
/-! Check, Bits -/
def S_bits_Check : Summ := { par := [.v (.ro (.int .u8))], res := [.v (.int .i64)], esc := false, pre := fun x => (x.1.length : Int) ≤ big ∧ ∀ y ∈ x.1, 0 ≤ y, fn := fun x => ((bitsErr x.1, ()), ((), ())) }
def p_bits_Check_0 (t0 t5 : List Int) (t6 t7 : Int) : Prop := t0 = t5 ∧ t6 = t5.length ∧ 0 ≤ t7 ∧ t7 ≤ t6 ∧ t6 ≤ big
def m_bits_Check_0 (_t0 _t5 : List Int) (t6 t7 : Int) : Nat := (t6 - t7).toNat
def o_bits_Check_0 (t0 t5 : List Int) (_t6 t7 : Int) (K : AExit → St → Prop) : Prop := condP ((t5.drop t7.toNat).any fun x => decide (x > 1)) (X_bits_Check_0_0 t0 1 K) (X_bits_Check_0_1 t0 K)
def S_R_Bits : Summ := { par := [.v (.ro (.int .u8))], res := [.v (.int .i64)], esc := false, pre := fun x => (x.1.length : Int) ≤ big, fn := fun x => ((bitsErr x.1, ()), ((), ())) }
def p_R_Bits_0 (t0 : List Int) (t3 : Int) : Prop := 0 ≤ t3 ∧ t3 ≤ t0.length ∧ (t0.length : Int) ≤ big
def m_R_Bits_0 (t0 : List Int) (t3 : Int) : Nat := (t0.length - t3).toNat
def o_R_Bits_0 (t0 : List Int) (t3 : Int) (K : AExit → St → Prop) : Prop := condP ((t0.drop t3.toNat).any badBit) (X_R_Bits_0_0 t0 1 K) (X_R_Bits_0_1 t0 K)
/-! BitAt, Unpack -/
def S_R_BitAt : Summ := { par := [.v .str, .v (.int .i64)], res := [.v (.int .u8)], esc := false, pre := fun x => 0 ≤ x.2.1 ∧ x.2.1 < 8 * x.1.size ∧ (x.1.size : Int) ≤ big, fn := fun x => ((bitAt x.1 x.2.1.toNat, ()), ((), (), ())) }
def p_R_BitAt_0 (t5 t6 : Int) : Prop := 0 ≤ t5 ∧ t5 ≤ 255 ∧ 0 ≤ t6 ∧ t6 ≤ 7
def m_R_BitAt_0 (_t5 t6 : Int) : Nat := (7 - t6).toNat
def o_R_BitAt_0 (t5 t6 : Int) (K : AExit → St → Prop) : Prop := X_R_BitAt_0_0 (t5 / 2 ^ (7 - t6).toNat) K
def unpackErr (s : ByteArray) (n : Int) : Int := if n < 0 ∨ n > 8 * s.size then 1 else if n > 4096 then 2 else 0
def unpackL (s : ByteArray) (n : Int) : List Int := if unpackErr s n = 0 then seg (bitAt s) 0 n.toNat else []
def S_R_Unpack : Summ := { par := [.v .str, .v (.int .i64)], res := [.row (.int .u8), .v (.int .i64)], esc := false, pre := fun x => (x.1.size : Int) ≤ big, fn := fun x => ((unpackL x.1 x.2.1, unpackErr x.1 x.2.1, ()), ((), (), ())) }
def p_R_Unpack_0 (t0 : ByteArray) (t1 t7 : Int) (r0 : List Int) : Prop := 0 ≤ t7 ∧ t7 ≤ t1 ∧ t1 ≤ 8 * t0.size ∧ t1 ≤ 4096 ∧ (t0.size : Int) ≤ big ∧ r0.length = t7.toNat
def m_R_Unpack_0 (_t0 : ByteArray) (t1 t7 : Int) (_r0 : List Int) : Nat := (t1 - t7).toNat
def o_R_Unpack_0 (t0 : ByteArray) (t1 t7 : Int) (r0 : List Int) (K : AExit → St → Prop) : Prop := X_R_Unpack_0_0 (r0 ++ seg (bitAt t0) t7.toNat t1.toNat) K
def S_bits_Unpack : Summ := S_R_Unpack
def p_bits_Unpack_0 (t0 : ByteArray) (t22 t23 : Int) (r0 : List Int) : Prop := 0 ≤ t23 ∧ t23 ≤ t22 ∧ t22 ≤ 8 * t0.size ∧ (t0.size : Int) ≤ big ∧ (r0.length : Int) = t22
def m_bits_Unpack_0 (_t0 : ByteArray) (t22 t23 : Int) (_r0 : List Int) : Nat := (t22 - t23).toNat
def o_bits_Unpack_0 (t0 : ByteArray) (_t22 t23 : Int) (r0 : List Int) (K : AExit → St → Prop) : Prop := X_bits_Unpack_0_0 (fillFrom r0 t23.toNat (bitAt t0)) K
/-! Pack -/
def packS (b : List Int) : ByteArray := strOfNums (packL b)
def S_R_Pack : Summ := { par := [.v (.ro (.int .u8))], res := [.v .str], esc := false, pre := fun x => bitsErr x.1 = 0, fn := fun x => ((packS x.1, ()), ((), ())) }
def p_R_Pack_0 (t0 : List Int) (t4 : Int) (r0 : List Int) : Prop := bitsErr t0 = 0 ∧ ∃ q : Nat, t4 = 8 * q ∧ r0.length = q ∧ q ≤ (t0.length + 7) / 8
def m_R_Pack_0 (t0 : List Int) (t4 : Int) (_r0 : List Int) : Nat := (t0.length + 7 - t4).toNat
def o_R_Pack_0 (t0 : List Int) (t4 : Int) (r0 : List Int) (K : AExit → St → Prop) : Prop := X_R_Pack_0_0 (r0 ++ seg (fun q => pk t0 q 8) (t4 / 8).toNat ((t0.length + 7) / 8)) K
def p_R_Pack_2 (t0 : List Int) (t4 t5 t6 : Int) (_r0 : List Int) : Prop := bitsErr t0 = 0 ∧ ∃ q k : Nat, t4 = 8 * q ∧ t6 = 8 * q + k ∧ k ≤ 8 ∧ t5 = pk t0 q k ∧ 8 * q ≤ 4096
def m_R_Pack_2 (_t0 : List Int) (t4 _t5 t6 : Int) (_r0 : List Int) : Nat := (t4 + 8 - t6).toNat
def o_R_Pack_2 (t0 : List Int) (t4 _t5 _t6 : Int) (r0 : List Int) (K : AExit → St → Prop) : Prop := X_R_Pack_2_0 t0 t4 (pk t0 (t4 / 8).toNat 8) r0 K
def S_bits_Pack : Summ := { par := [.v (.ro (.int .u8))], res := [.v .str, .v (.int .i64)], esc := false, pre := fun x => (x.1.length : Int) ≤ big ∧ ∀ y ∈ x.1, 0 ≤ y, fn := fun x => ((if bitsErr x.1 = 0 then packS x.1 else ⟨#[]⟩, bitsErr x.1, ()), ((), ())) }
def packTo (b : List Int) (i : Nat) : List Int := seg (fun q => pk (b.take i) q 8) 0 ((b.length + 7) / 8)
def p_bits_Pack_0 (t18 : List Int) (t19 t20 : Int) (r0 : List Int) : Prop := bitsErr t18 = 0 ∧ t19 = t18.length ∧ 0 ≤ t20 ∧ t20 ≤ t19 ∧ r0 = packTo t18 t20.toNat
def m_bits_Pack_0 (_t18 : List Int) (t19 t20 : Int) (_r0 : List Int) : Nat := (t19 - t20).toNat
def o_bits_Pack_0 (t18 : List Int) (_t19 _t20 : Int) (_r0 : List Int) (K : AExit → St → Prop) : Prop := X_bits_Pack_0_0 (packL t18) K
def S_law_BitsPack : Summ := { par := [.v (.ro (.int .u8)), .v .str, .v (.int .i64)], res := [.v .bool], esc := false, pre := fun x => (x.1.length : Int) ≤ big ∧ (∀ y ∈ x.1, 0 ≤ y) ∧ (x.2.1.size : Int) ≤ big, fn := fun _ => ((true, ()), ((), (), (), ())) }
/-! the receiver of blocks -/
def flagsT : Ty := .pair (.arr 8 .bool) (.pair (.arr 8 .bool) .unit)
def noFlags : List Bool := List.replicate 8 false
def S_harq_NewReceiver : Summ := { par := [], res := [.box (.pair (.arr 8 .bool) (.pair (.arr 8 .bool) .unit))], esc := false, pre := fun _ => True, fn := fun _ => (((noFlags, noFlags, ()), ()), ()) }
def S_R_NewTakes : Summ := { par := [], res := [.box (.pair (.arr 8 .bool) (.pair (.arr 8 .bool) .unit))], esc := false, pre := fun _ => True, fn := fun _ => (((noFlags, List.replicate 8 true, ()), ()), ()) }
def p_R_NewTakes_0 (t2 : Int) (r0 : Flags) : Prop := 0 ≤ t2 ∧ t2 ≤ 8 ∧ r0.2.1.length = 8
def m_R_NewTakes_0 (t2 : Int) (_r0 : Flags) : Nat := (8 - t2).toNat
def o_R_NewTakes_0 (t2 : Int) (r0 : Flags) (K : AExit → St → Prop) : Prop := X_R_NewTakes_0_0 (r0.1, fillFrom r0.2.1 t2.toNat (fun _ => true), ()) K
def S_harq_Receiver_Take : Summ := { par := [.box (.pair (.arr 8 .bool) (.pair (.arr 8 .bool) .unit)), .v (.pair (.int .i64) (.pair (.int .i64) (.pair .bool (.pair .str .unit)))), .v .bool], res := [.v .str, .v .bool, .v .bool, .v (.int .i64)], esc := false, pre := fun _ => True, fn := fun x => (((takeOf true x.1 x.2.1 x.2.2.1).1.1, (takeOf true x.1 x.2.1 x.2.2.1).1.2.1, (takeOf true x.1 x.2.1 x.2.2.1).1.2.2.1, (takeOf true x.1 x.2.1 x.2.2.1).1.2.2.2, ()), ((takeOf true x.1 x.2.1 x.2.2.1).2, (), (), ())) }
def S_R_Takes_Take : Summ := { par := [.box (.pair (.arr 8 .bool) (.pair (.arr 8 .bool) .unit)), .v (.pair (.int .i64) (.pair (.int .i64) (.pair .bool (.pair .str .unit)))), .v .bool], res := [.v .str, .v .bool, .v .bool, .v (.int .i64)], esc := false, pre := fun _ => True, fn := fun x => (((takeOf false x.1 x.2.1 x.2.2.1).1.1, (takeOf false x.1 x.2.1 x.2.2.1).1.2.1, (takeOf false x.1 x.2.1 x.2.2.1).1.2.2.1, (takeOf false x.1 x.2.1 x.2.2.1).1.2.2.2, ()), ((takeOf false x.1 x.2.1 x.2.2.1).2, (), (), ())) }
abbrev StepT := Int × Int × Int × Bool × ByteArray × Unit
def S_law_HarqTakes : Summ := { par := [.v (.ro (.pair (.int .i64) (.pair (.int .i64) (.pair (.int .i64) (.pair .bool (.pair .str .unit))))))], res := [.v .bool], esc := false, pre := fun x => (x.1.length : Int) ≤ big, fn := fun _ => ((true, ()), ((), ())) }
def p_law_HarqTakes_0 (t0 : List StepT) (t5 : Int) (r0 r1 : Flags) : Prop := 0 ≤ t5 ∧ t5 ≤ t0.length ∧ (t0.length : Int) ≤ big ∧ r0.2.1.length = 8 ∧ r1 = flip2 r0
def m_law_HarqTakes_0 (t0 : List StepT) (t5 : Int) (_r0 _r1 : Flags) : Nat := (t0.length - t5).toNat
def o_law_HarqTakes_0 (_t0 : List StepT) (_t5 : Int) (_r0 _r1 : Flags) (K : AExit → St → Prop) : Prop := X_law_HarqTakes_0_1 K
end Go.Spec
