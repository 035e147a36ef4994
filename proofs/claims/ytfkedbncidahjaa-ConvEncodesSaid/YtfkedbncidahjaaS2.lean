/- What the functions answer: the noise. -/
import Derived.Test.YtfkedbncidahjaaM2
import Derived.Test.YtfkedbncidahjaaX2
set_option linter.unusedVariables false
set_option linter.unusedSimpArgs false
namespace Go.Spec
open Go Go.Lift
def badSeed (seed n : Int) : Bool := decide (seed < 0) || decide (seed > 2147483647) || decide (n < 0) || decide (n > 4096)
def S_bits_Noise : Summ := { par := [.v (.int .i64), .v (.int .i64)], res := [.row (.int .u8), .v (.int .i64)], esc := false, pre := fun _ => True, fn := fun x => ((if badSeed x.1 x.2.1 then [] else noiseL x.1 x.2.1, if badSeed x.1 x.2.1 then 1 else 0, ()), ((), (), ())) }
def runOut (x y i n : Nat) : List Int := seg (fun k => ((iter stepX (k - i) x + iter stepY (k - i) y) % 2 : Nat)) (max i 1600) n
def p_bits_Noise_0 (t6 t7 t29 t30 : Int) (r0 : List Int) : Prop := 0 ≤ t6 ∧ t6 < 2147483648 ∧ 0 ≤ t7 ∧ t7 < 2147483648 ∧ 0 ≤ t30 ∧ t30 ≤ t29 ∧ t29 ≤ 5696 ∧ (r0.length : Int) ≤ t30
def m_bits_Noise_0 (_t6 _t7 t29 t30 : Int) (_r0 : List Int) : Nat := (t29 - t30).toNat
def o_bits_Noise_0 (t6 t7 t29 t30 : Int) (r0 : List Int) (K : AExit → St → Prop) : Prop := X_bits_Noise_0_0 (r0 ++ runOut t6.toNat t7.toNat t30.toNat t29.toNat) K
def coverErr (b : List Int) (seed : Int) : Int := if bitsErr b = 0 then (if badSeed seed b.length then 1 else 0) else bitsErr b
def coverL (b : List Int) (seed : Int) : List Int := if coverErr b seed = 0 then addL (noiseL seed b.length) b else []
def S_bits_Cover : Summ := { par := [.v (.ro (.int .u8)), .v (.int .i64)], res := [.row (.int .u8), .v (.int .i64)], esc := false, pre := fun x => (x.1.length : Int) ≤ big ∧ ∀ y ∈ x.1, 0 ≤ y, fn := fun x => ((coverL x.1 x.2.1, coverErr x.1 x.2.1, ()), ((), (), ())) }
def p_bits_Cover_0 (t0 : List Int) (_t8 t23 t24 : Int) (r0 : List Int) : Prop := Bits t0 ∧ Bits r0 ∧ t23 = r0.length ∧ r0.length ≤ t0.length ∧ 0 ≤ t24 ∧ t24 ≤ t23 ∧ (r0.length : Int) ≤ big
def m_bits_Cover_0 (_t0 : List Int) (_t8 t23 t24 : Int) (_r0 : List Int) : Nat := (t23 - t24).toNat
def o_bits_Cover_0 (t0 : List Int) (t8 _t23 t24 : Int) (r0 : List Int) (K : AExit → St → Prop) : Prop := X_bits_Cover_0_0 t8 (mapFrom r0 t24.toNat fun k x => (x + t0.getD k 0) % 2) K
/-! the document's -/
def S_R_Noise : Summ := { par := [.v (.int .i64), .v (.int .i64)], res := [.row (.int .u8)], esc := false, pre := fun x => 0 ≤ x.1 ∧ x.1 ≤ 2147483647 ∧ 0 ≤ x.2.1 ∧ x.2.1 ≤ 4096, fn := fun x => ((noiseL x.1 x.2.1, ()), ((), (), ())) }
def seedTo (r : List Int) (k : Nat) (s : Int) : List Int := r.take k ++ seg (fun j => s / 2 ^ (j - k) % 2) k 31 ++ r.drop 31
def p_R_Noise_0 (t0 t1 t7 : Int) (r0 r1 : List Int) : Prop := 0 ≤ t0 ∧ t0 ≤ 2147483647 ∧ 0 ≤ t7 ∧ t7 ≤ 31 ∧ 31 ≤ r1.length
def m_R_Noise_0 (_t0 _t1 t7 : Int) (_r0 _r1 : List Int) : Nat := (31 - t7).toNat
def o_R_Noise_0 (t0 t1 t7 : Int) (r0 r1 : List Int) (K : AExit → St → Prop) : Prop := X_R_Noise_0_0 t1 r0 (seedTo r1 t7.toNat t0) K
def p_R_Noise_2 (_t1 t8 : Int) (r0 r1 : List Int) : Prop := 31 ≤ t8 ∧ t8 ≤ r0.length ∧ r1.length = r0.length ∧ (r0.length : Int) ≤ 10000 ∧ Bits r0 ∧ Bits r1
def m_R_Noise_2 (_t1 t8 : Int) (r0 _r1 : List Int) : Nat := (r0.length - t8).toNat
def o_R_Noise_2 (t1 t8 : Int) (r0 r1 : List Int) (K : AExit → St → Prop) : Prop := X_R_Noise_2_0 t1 (ext fX (r0.take t8.toNat) (r0.length - t8.toNat)) (ext fY (r1.take t8.toNat) (r0.length - t8.toNat)) K
def p_R_Noise_4 (t1 t10 : Int) (r0 r1 r2 : List Int) : Prop := 0 ≤ t10 ∧ t10 ≤ t1 ∧ t1 ≤ 4096 ∧ 1600 + t1 ≤ r0.length ∧ 1600 + t1 ≤ r1.length ∧ Bits r0 ∧ Bits r1 ∧ (r2.length : Int) ≤ t10
def m_R_Noise_4 (t1 t10 : Int) (_r0 _r1 _r2 : List Int) : Nat := (t1 - t10).toNat
def o_R_Noise_4 (t1 t10 : Int) (r0 r1 r2 : List Int) (K : AExit → St → Prop) : Prop := X_R_Noise_4_0 (r2 ++ seg (fun i => (r0.getD (1600 + i) 0 + r1.getD (1600 + i) 0) % 2) t10.toNat t1.toNat) K
def S_R_Added : Summ := { par := [.v (.ro (.int .u8)), .v (.ro (.int .u8))], res := [.row (.int .u8)], esc := false, pre := fun x => Bits x.1 ∧ Bits x.2.1 ∧ x.1.length ≤ x.2.1.length ∧ (x.1.length : Int) ≤ 1000000, fn := fun x => ((addL x.1 x.2.1, ()), ((), (), ())) }
def p_R_Added_0 (t0 t1 : List Int) (t6 : Int) (r0 : List Int) : Prop := Bits t0 ∧ Bits t1 ∧ t0.length ≤ t1.length ∧ (t0.length : Int) ≤ 1000000 ∧ 0 ≤ t6 ∧ t6 ≤ t0.length ∧ (r0.length : Int) ≤ t6
def m_R_Added_0 (t0 _t1 : List Int) (t6 : Int) (_r0 : List Int) : Nat := (t0.length - t6).toNat
def o_R_Added_0 (t0 t1 : List Int) (t6 : Int) (r0 : List Int) (K : AExit → St → Prop) : Prop := X_R_Added_0_0 (r0 ++ seg (fun k => (t0.getD k 0 + t1.getD k 0) % 2) t6.toNat t0.length) K
def S_law_BitsNoise : Summ := { par := [.v (.ro (.int .u8)), .v (.int .i64), .v (.int .i64)], res := [.v .bool], esc := false, pre := fun x => (x.1.length : Int) ≤ big ∧ (∀ y ∈ x.1, 0 ≤ y), fn := fun _ => ((true, ()), ((), (), (), ())) }
end Go.Spec
