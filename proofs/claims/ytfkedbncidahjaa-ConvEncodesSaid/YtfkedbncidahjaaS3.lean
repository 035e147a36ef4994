/- What the functions answer: the transform by halves. -/
import Derived.Test.YtfkedbncidahjaaM3
import Derived.Test.YtfkedbncidahjaaX3
set_option linter.unusedVariables false
set_option linter.unusedSimpArgs false
namespace Go.Spec
open Go Go.Lift
def goodL (b : List Int) (most : Nat) : List Int := (b.take most).map (· % 2)
def S_keep_good : Summ := { par := [.v (.ro (.int .u8)), .v (.int .i64)], res := [.row (.int .u8)], esc := false, pre := fun x => (x.1.length : Int) ≤ big ∧ (∀ y ∈ x.1, 0 ≤ y) ∧ 0 ≤ x.2.1 ∧ x.2.1 ≤ 100000, fn := fun x => ((goodL x.1 x.2.1.toNat, ()), ((), (), ())) }
def p_keep_good_0 (t0 : List Int) (t1 t6 : Int) (r0 : List Int) : Prop := (t0.length : Int) ≤ big ∧ (∀ y ∈ t0, 0 ≤ y) ∧ 0 ≤ t6 ∧ t6 ≤ t1 ∧ t6 ≤ t0.length ∧ t1 ≤ 100000 ∧ (r0.length : Int) = t6
def m_keep_good_0 (t0 : List Int) (_t1 t6 : Int) (_r0 : List Int) : Nat := (t0.length - t6).toNat
def o_keep_good_0 (t0 : List Int) (t1 t6 : Int) (r0 : List Int) (K : AExit → St → Prop) : Prop := X_keep_good_0_0 (r0 ++ goodL (t0.drop t6.toNat) (t1 - t6).toNat) K
def S_polar_power : Summ := { par := [.v (.int .i64)], res := [.v .bool], esc := false, pre := fun _ => True, fn := fun x => ((powB x.1, ()), ((), ())) }
def S_slices_Clone_byte_byte : Summ := { par := [.v (.ro (.int .u8))], res := [.row (.int .u8)], esc := false, pre := fun x => (x.1.length : Int) ≤ 140737488355328, fn := fun x => ((x.1, ()), ((), ())) }
def S_polar_turn : Summ := { par := [.row (.int .u8)], res := [], esc := false, pre := fun x => Bits x.1 ∧ ∃ m, m ≤ 9 ∧ x.1.length = 2 ^ m, fn := fun x => ((), (turnL (Nat.log2 x.1.length) x.1, ())) }
def p_polar_turn_0 (t2 : Int) (r0 : List Int) : Prop := Bits r0 ∧ ∃ j m, m ≤ 9 ∧ j ≤ m ∧ t2 = ((2 ^ j : Nat) : Int) ∧ r0.length = 2 ^ m
def m_polar_turn_0 (t2 : Int) (r0 : List Int) : Nat := (r0.length - t2).toNat
def o_polar_turn_0 (t2 : Int) (r0 : List Int) (K : AExit → St → Prop) : Prop := ∀ j m, t2 = ((2 ^ j : Nat) : Int) → j ≤ m → r0.length = 2 ^ m → X_polar_turn_0_0 (stagesJ (m - j) j r0) K
def p_polar_turn_2 (t2 t3 : Int) (r0 : List Int) : Prop := Bits r0 ∧ ∃ h c L : Nat, t2 = h ∧ 1 ≤ h ∧ t3 = ((2 * h * c : Nat) : Int) ∧ r0.length = 2 * h * L ∧ c ≤ L ∧ r0.length ≤ 512
def m_polar_turn_2 (_t2 t3 : Int) (r0 : List Int) : Nat := (r0.length - t3).toNat
def o_polar_turn_2 (t2 t3 : Int) (r0 : List Int) (K : AExit → St → Prop) : Prop := X_polar_turn_2_0 t2 (stF t2.toNat t3.toNat r0) K
def p_polar_turn_4 (t2 t3 t4 : Int) (r0 : List Int) : Prop := Bits r0 ∧ ∃ h i k : Nat, t2 = h ∧ 1 ≤ h ∧ t3 = i ∧ t4 = k ∧ i ≤ k ∧ k ≤ i + h ∧ i + 2 * h ≤ r0.length ∧ r0.length ≤ 512
def m_polar_turn_4 (t2 t3 t4 : Int) (_r0 : List Int) : Nat := (t3 + t2 - t4).toNat
def o_polar_turn_4 (t2 t3 t4 : Int) (r0 : List Int) (K : AExit → St → Prop) : Prop := X_polar_turn_4_0 t2 t3 (st4 t2.toNat t3.toNat t4.toNat r0) K
def turnErr (b : List Int) : Int := if bitsErr b = 0 then (if powB b.length then 0 else 1) else bitsErr b
def turnOf (b : List Int) : List Int := if turnErr b = 0 then turnL (Nat.log2 b.length) b else []
def S_polar_Turn : Summ := { par := [.v (.ro (.int .u8))], res := [.row (.int .u8), .v (.int .i64)], esc := false, pre := fun x => (x.1.length : Int) ≤ big ∧ ∀ y ∈ x.1, 0 ≤ y, fn := fun x => ((turnOf x.1, turnErr x.1, ()), ((), ())) }
def S_keep_PolarTwice : Summ := { par := [.v (.ro (.int .u8)), .v (.ro (.int .u8))], res := [.v .bool], esc := false, pre := fun x => ((x.1.length : Int) ≤ big ∧ ∀ y ∈ x.1, 0 ≤ y) ∧ ((x.2.1.length : Int) ≤ big ∧ ∀ y ∈ x.2.1, 0 ≤ y), fn := fun _ => ((true, ()), ((), (), ())) }
def p_keep_PolarTwice_0 (t5 : Int) (r0 r1 : List Int) : Prop := r0.length ≤ 512 ∧ r1.length ≤ 512 ∧ Bits r0 ∧ Bits r1 ∧ ∃ j, j ≤ 9 ∧ t5 = ((2 ^ j : Nat) : Int)
def m_keep_PolarTwice_0 (t5 : Int) (_r0 _r1 : List Int) : Nat := (1024 - t5).toNat
def o_keep_PolarTwice_0 (_t5 : Int) (r0 r1 : List Int) (K : AExit → St → Prop) : Prop := ∀ j : Nat, j ≤ 9 → X_keep_PolarTwice_0_0 ((2 ^ j : Nat) : Int) r0 r1 K
end Go.Spec
