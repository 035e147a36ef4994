/- The runs of the functions, told. -/
import Derived.Test.YtfjoackkcflbkaaLF
import Derived.Test.YtfjoackkcflbkaaProg
import Derived.Test.YtfjoackkcflbkaaEA
import Derived.Test.YtfjoackkcflbkaaV1
import Derived.Test.YtfjoackkcflbkaaV4
set_option linter.unusedVariables false
set_option linter.unusedSimpArgs false
namespace Go.Spec
open Go Go.Lift Go.Proofs
attribute [local irreducible] Go.Lift.awp
/-! ### conv_gain -/
def L_conv_gain_0 : Lift.Loop := Lift.Loop.mk (u 1 ++ (.v (.ro (.int .i64)) :: (u 3 ++ (.v (.int .i64) :: (u 2 ++ (.v (.arr 3 (.int .u8)) :: (.v (.int .i64) :: (u 16)))))))) [] 0 (fun x y => p_conv_gain_0 x.1 x.2.1 x.2.2.1 x.2.2.2.1) (fun x y => m_conv_gain_0 x.1 x.2.1 x.2.2.1 x.2.2.2.1) (fun x y K => o_conv_gain_0 x.1 x.2.1 x.2.2.1 x.2.2.2.1 K)
noncomputable def E_conv_gain : Env := { P := Try.prog, sum := sumsOf [], nio := 0, head := fun b => if b = 0 then ([1, 5, 8, 9], []) else ([], []), after := fun _ => none, leave := fun b => if b = 0 then [4, 5] else [], loops := fun b => if b = 0 then some L_conv_gain_0 else none }
def W_conv_gain (a0 : (List Int)) (a1 : (List Int)) : Prop := (
  (p_conv_gain_0 a1 (0 : Int) a0 (0 : Int)) ∧
  ((0 : Int) + scp (List.drop (0 : Nat) a0) (List.drop (0 : Nat) a1) = scp a0 a1) ∧
  True)
theorem V_conv_gain (a0 : (List Int)) (a1 : (List Int)) : awp E_conv_gain (bodyOf Try.f93) 0 (fin Try.prog S_conv_gain (a0, a1, ()) [(4, none)] 0) (initSt S_conv_gain.par (a0, a1, ()) 26) = W_conv_gain a0 a1 := by kernel_rfl
def B_conv_gain_0 (t1 : (List Int)) (t5 : Int) (t8 : (List Int)) (t9 : Int) (m : Nat) (K : AExit → St → Prop) : Prop := (
  condP (decide (t9 < (3 : Int)))
    (((0 : Int) ≤ t9) ∧
    (t9 < (↑(3 : Nat) : Int)) ∧
    ((0 : Int) ≤ t9) ∧
    (t9 < (↑(List.length t1) : Int)) ∧
    (p_conv_gain_0 t1 (IntKind.wrap IntKind.i64 (t5 + IntKind.wrap IntKind.i64 (IntKind.wrap IntKind.i64 ((1 : Int) - IntKind.wrap IntKind.i64 ((2 : Int) * IntKind.wrap IntKind.i64 (List.getD t8 (Int.toNat t9) (0 : Int)))) * List.getD t1 (Int.toNat t9) (0 : Int)))) t8 (IntKind.wrap IntKind.i64 (t9 + (1 : Int)))) ∧
    (m_conv_gain_0 t1 (IntKind.wrap IntKind.i64 (t5 + IntKind.wrap IntKind.i64 (IntKind.wrap IntKind.i64 ((1 : Int) - IntKind.wrap IntKind.i64 ((2 : Int) * IntKind.wrap IntKind.i64 (List.getD t8 (Int.toNat t9) (0 : Int)))) * List.getD t1 (Int.toNat t9) (0 : Int)))) t8 (IntKind.wrap IntKind.i64 (t9 + (1 : Int))) < m) ∧
    o_conv_gain_0 t1 (IntKind.wrap IntKind.i64 (t5 + IntKind.wrap IntKind.i64 (IntKind.wrap IntKind.i64 ((1 : Int) - IntKind.wrap IntKind.i64 ((2 : Int) * IntKind.wrap IntKind.i64 (List.getD t8 (Int.toNat t9) (0 : Int)))) * List.getD t1 (Int.toNat t9) (0 : Int)))) t8 (IntKind.wrap IntKind.i64 (t9 + (1 : Int))) K)
    (X_conv_gain_0_0 (t5) K))
theorem R_conv_gain_0 (t1 : (List Int)) (t5 : Int) (t8 : (List Int)) (t9 : Int) (m : Nat) (K : AExit → St → Prop) : awp E_conv_gain (loopAt (bodyOf Try.f93) 0) 0 (roundP E_conv_gain 0 L_conv_gain_0 m K) (L_conv_gain_0.abs (t1, t5, t8, t9, ()) (())) = B_conv_gain_0 t1 t5 t8 t9 m K := by kernel_rfl
theorem I_conv_gain_0 (h : ∀ (t1 : (List Int)) (t5 : Int) (t8 : (List Int)) (t9 : Int) (K : AExit → St → Prop), p_conv_gain_0 t1 t5 t8 t9 → o_conv_gain_0 t1 t5 t8 t9 K → B_conv_gain_0 t1 t5 t8 t9 (m_conv_gain_0 t1 t5 t8 t9) K) : LoopOK E_conv_gain 0 (loopAt (bodyOf Try.f93) 0) L_conv_gain_0 :=
  fun x y K hp ho => match x, y, hp, ho with | (t1, t5, t8, t9, ()), (), hp, ho => (R_conv_gain_0 t1 t5 t8 t9 (m_conv_gain_0 t1 t5 t8 t9) K).mpr (h t1 t5 t8 t9 K hp ho)
theorem G_conv_gain : loopsAll E_conv_gain (loopList (bodyOf Try.f93) 0) = (LoopOK E_conv_gain 0 (loopAt (bodyOf Try.f93) 0) L_conv_gain_0 ∧ True) := by kernel_rfl
theorem envok_conv_gain  : EnvOK E_conv_gain := ⟨sumsOf_ok (fun _ h => nomatch h), follows⟩
theorem whole_conv_gain  (l0 : LoopOK E_conv_gain 0 (loopAt (bodyOf Try.f93) 0) L_conv_gain_0) (main : ∀ (a0 : (List Int)) (a1 : (List Int)), (Bits a0 ∧ List.length a0 = (3 : Nat) ∧ (3 : Nat) ≤ List.length a1 ∧ Softs a1) → W_conv_gain a0 a1) : SumOK Try.prog 93 S_conv_gain :=
  fun_sound (E := E_conv_gain) (envok_conv_gain ) (fn := Try.f93) (c := bodyOf Try.f93) (ts := [(4, none)]) S_conv_gain Try.func93 (body_some (by kernel_rfl)) (by kernel_rfl) (by kernel_rfl) (by kernel_rfl) (G_conv_gain.mpr ⟨l0, trivial⟩) (fun x hp => match x, hp with | (a0, a1, ()), hp => (V_conv_gain a0 a1).mpr (main a0 a1 hp))
/-! ### R_Ahead -/
def L_R_Ahead_0 : Lift.Loop := Lift.Loop.mk (.v (.ro (.int .u8)) :: (.v (.ro (.int .u8)) :: (u 3 ++ (.v (.int .i64) :: (u 24))))) [] 0 (fun x y => p_R_Ahead_0 x.1 x.2.1 x.2.2.1) (fun x y => m_R_Ahead_0 x.1 x.2.1 x.2.2.1) (fun x y K => o_R_Ahead_0 x.1 x.2.1 x.2.2.1 K)
noncomputable def E_R_Ahead : Env := { P := Try.prog, sum := sumsOf [], nio := 0, head := fun b => if b = 0 then ([0, 1, 5], []) else ([], []), after := fun _ => none, leave := fun b => if b = 0 then [4] else [], loops := fun b => if b = 0 then some L_R_Ahead_0 else none }
def W_R_Ahead (a0 : (List Int)) (a1 : (List Int)) : Prop := (
  (p_R_Ahead_0 a0 a1 (0 : Int)) ∧
  condP (decide (List.drop (0 : Nat) a0 = List.drop (0 : Nat) a1))
    ((false = ahead a0 a1) ∧
    True)
    ((ahead (List.drop (0 : Nat) a0) (List.drop (0 : Nat) a1) = ahead a0 a1) ∧
    True))
theorem V_R_Ahead (a0 : (List Int)) (a1 : (List Int)) : awp E_R_Ahead (bodyOf Try.f50) 0 (fin Try.prog S_R_Ahead (a0, a1, ()) [(4, none)] 0) (initSt S_R_Ahead.par (a0, a1, ()) 30) = W_R_Ahead a0 a1 := by kernel_rfl
def B_R_Ahead_0 (t0 : (List Int)) (t1 : (List Int)) (t5 : Int) (m : Nat) (K : AExit → St → Prop) : Prop := (
  condP (decide (t5 < (↑(List.length t0) : Int)))
    (((0 : Int) ≤ t5) ∧
    (t5 < (↑(List.length t0) : Int)) ∧
    ((0 : Int) ≤ t5) ∧
    (t5 < (↑(List.length t1) : Int)) ∧
    condP (List.getD t0 (Int.toNat t5) (0 : Int) != List.getD t1 (Int.toNat t5) (0 : Int))
      (((0 : Int) ≤ t5) ∧
      (t5 < (↑(List.length t0) : Int)) ∧
      ((0 : Int) ≤ t5) ∧
      (t5 < (↑(List.length t1) : Int)) ∧
      X_R_Ahead_0_0 (decide (List.getD t0 (Int.toNat t5) (0 : Int) < List.getD t1 (Int.toNat t5) (0 : Int))) K)
      ((p_R_Ahead_0 t0 t1 (IntKind.wrap IntKind.i64 (t5 + (1 : Int)))) ∧
      (m_R_Ahead_0 t0 t1 (IntKind.wrap IntKind.i64 (t5 + (1 : Int))) < m) ∧
      o_R_Ahead_0 t0 t1 (IntKind.wrap IntKind.i64 (t5 + (1 : Int))) K))
    (X_R_Ahead_0_1  K))
theorem R_R_Ahead_0 (t0 : (List Int)) (t1 : (List Int)) (t5 : Int) (m : Nat) (K : AExit → St → Prop) : awp E_R_Ahead (loopAt (bodyOf Try.f50) 0) 0 (roundP E_R_Ahead 0 L_R_Ahead_0 m K) (L_R_Ahead_0.abs (t0, t1, t5, ()) (())) = B_R_Ahead_0 t0 t1 t5 m K := by kernel_rfl
theorem I_R_Ahead_0 (h : ∀ (t0 : (List Int)) (t1 : (List Int)) (t5 : Int) (K : AExit → St → Prop), p_R_Ahead_0 t0 t1 t5 → o_R_Ahead_0 t0 t1 t5 K → B_R_Ahead_0 t0 t1 t5 (m_R_Ahead_0 t0 t1 t5) K) : LoopOK E_R_Ahead 0 (loopAt (bodyOf Try.f50) 0) L_R_Ahead_0 :=
  fun x y K hp ho => match x, y, hp, ho with | (t0, t1, t5, ()), (), hp, ho => (R_R_Ahead_0 t0 t1 t5 (m_R_Ahead_0 t0 t1 t5) K).mpr (h t0 t1 t5 K hp ho)
theorem G_R_Ahead : loopsAll E_R_Ahead (loopList (bodyOf Try.f50) 0) = (LoopOK E_R_Ahead 0 (loopAt (bodyOf Try.f50) 0) L_R_Ahead_0 ∧ True) := by kernel_rfl
theorem envok_R_Ahead  : EnvOK E_R_Ahead := ⟨sumsOf_ok (fun _ h => nomatch h), follows⟩
theorem whole_R_Ahead  (l0 : LoopOK E_R_Ahead 0 (loopAt (bodyOf Try.f50) 0) L_R_Ahead_0) (main : ∀ (a0 : (List Int)) (a1 : (List Int)), (List.length a0 = List.length a1 ∧ (↑(List.length a0) : Int) ≤ big) → W_R_Ahead a0 a1) : SumOK Try.prog 50 S_R_Ahead :=
  fun_sound (E := E_R_Ahead) (envok_R_Ahead ) (fn := Try.f50) (c := bodyOf Try.f50) (ts := [(4, none)]) S_R_Ahead Try.func50 (body_some (by kernel_rfl)) (by kernel_rfl) (by kernel_rfl) (by kernel_rfl) (G_R_Ahead.mpr ⟨l0, trivial⟩) (fun x hp => match x, hp with | (a0, a1, ()), hp => (V_R_Ahead a0 a1).mpr (main a0 a1 hp))
/-! ### conv_Decode -/
def L_conv_Decode_0 : Lift.Loop := Lift.Loop.mk (.v (.ro (.int .i64)) :: (u 4 ++ (.v (.int .i64) :: (.v (.int .i64) :: (.sl 0 :: (.v (.int .i64) :: (u 157))))))) [(0, .row (.arr 64 (.int .i64)))] 1 (fun x y => p_conv_Decode_0 x.1 x.2.1 x.2.2.1 x.2.2.2.1 y.1) (fun x y => m_conv_Decode_0 x.1 x.2.1 x.2.2.1 x.2.2.2.1 y.1) (fun x y K => o_conv_Decode_0 x.1 x.2.1 x.2.2.1 x.2.2.2.1 y.1 K)
def L_conv_Decode_2 : Lift.Loop := Lift.Loop.mk (.v (.ro (.int .i64)) :: (u 4 ++ (.v (.int .i64) :: (u 1 ++ (.sl 0 :: (u 1 ++ (.v (.int .i64) :: (u 156)))))))) [(0, .row (.arr 64 (.int .i64)))] 1 (fun x y => p_conv_Decode_2 x.1 x.2.1 x.2.2.1 y.1) (fun x y => m_conv_Decode_2 x.1 x.2.1 x.2.2.1 y.1) (fun x y K => o_conv_Decode_2 x.1 x.2.1 x.2.2.1 y.1 K)
def L_conv_Decode_4 : Lift.Loop := Lift.Loop.mk (.v (.ro (.int .i64)) :: (u 4 ++ (.v (.int .i64) :: (u 1 ++ (.sl 0 :: (u 1 ++ (.v (.int .i64) :: (u 50 ++ (.v (.int .i64) :: (u 105)))))))))) [(0, .row (.arr 64 (.int .i64)))] 1 (fun x y => p_conv_Decode_4 x.1 x.2.1 x.2.2.1 x.2.2.2.1 y.1) (fun x y => m_conv_Decode_4 x.1 x.2.1 x.2.2.1 x.2.2.2.1 y.1) (fun x y K => o_conv_Decode_4 x.1 x.2.1 x.2.2.1 x.2.2.2.1 y.1 K)
def L_conv_Decode_6 : Lift.Loop := Lift.Loop.mk (.v (.ro (.int .i64)) :: (u 4 ++ (.v (.int .i64) :: (u 1 ++ (.sl 0 :: (u 1 ++ (.v (.int .i64) :: (.v (.int .i64) :: (u 49 ++ (.v (.int .i64) :: (u 7 ++ (.v (.int .i64) :: (u 97))))))))))))) [(0, .row (.arr 64 (.int .i64)))] 1 (fun x y => p_conv_Decode_6 x.1 x.2.1 x.2.2.1 x.2.2.2.1 x.2.2.2.2.1 x.2.2.2.2.2.1 y.1) (fun x y => m_conv_Decode_6 x.1 x.2.1 x.2.2.1 x.2.2.2.1 x.2.2.2.2.1 x.2.2.2.2.2.1 y.1) (fun x y K => o_conv_Decode_6 x.1 x.2.1 x.2.2.1 x.2.2.2.1 x.2.2.2.2.1 x.2.2.2.2.2.1 y.1 K)
def L_conv_Decode_8 : Lift.Loop := Lift.Loop.mk (.v (.ro (.int .i64)) :: (u 6 ++ (.sl 0 :: (u 6 ++ (.sl 1 :: (.v (.int .i64) :: (u 101 ++ (.v (.int .i64) :: (.v (.int .i64) :: (u 47)))))))))) [(0, .row (.arr 64 (.int .i64))), (1, .row (.int .u8))] 2 (fun x y => p_conv_Decode_8 x.1 x.2.1 x.2.2.1 x.2.2.2.1 y.1 y.2.1) (fun x y => m_conv_Decode_8 x.1 x.2.1 x.2.2.1 x.2.2.2.1 y.1 y.2.1) (fun x y K => o_conv_Decode_8 x.1 x.2.1 x.2.2.1 x.2.2.2.1 y.1 y.2.1 K)
noncomputable def E_conv_Decode : Env := { P := Try.prog, sum := sumsOf [(91, S_conv_Soft), (94, S_conv_three), (93, S_conv_gain)], nio := 0, head := fun b => if b = 8 then ([0, 7, 14, 15, 117, 118, 133, 134, 135, 136, 137, 138, 139, 140, 141, 142, 143, 144, 145, 146, 147, 148], []) else if b = 6 then ([0, 5, 7, 9, 10, 60, 68, 74, 75, 76, 133, 134, 135, 136, 137, 138, 139, 140, 141, 142, 143, 144, 145, 146, 147, 148], []) else if b = 4 then ([0, 5, 7, 9, 60, 74, 75, 76, 133, 134, 135, 136, 137, 138, 139, 140, 141, 142, 143, 144, 145, 146, 147, 148], []) else if b = 2 then ([0, 5, 7, 9, 74, 75, 76, 133, 134, 135, 136, 137, 138, 139, 140, 141, 142, 143, 144, 145, 146, 147, 148], []) else if b = 0 then ([0, 5, 6, 7, 8, 74, 75, 76, 133, 134, 135, 136, 137, 138, 139, 140, 141, 142, 143, 144, 145, 146, 147, 148], []) else ([], []), after := fun _ => none, leave := fun b => if b = 8 then [2, 3, 4, 7, 14] else if b = 6 then [0, 2, 3, 4, 5, 7, 9, 60, 74, 75, 76, 133, 134, 135, 136, 137, 138, 139, 140, 141, 142, 143, 144, 145, 146, 147, 148] else if b = 4 then [0, 2, 3, 4, 5, 7, 9, 74, 75, 76, 133, 134, 135, 136, 137, 138, 139, 140, 141, 142, 143, 144, 145, 146, 147, 148] else if b = 2 then [0, 2, 3, 4, 5, 7, 133, 134, 135, 136, 137, 138, 139, 140, 141, 142, 143, 144, 145, 146, 147, 148] else if b = 0 then [0, 2, 3, 4, 5, 6, 7, 74, 75, 76, 133, 134, 135, 136, 137, 138, 139, 140, 141, 142, 143, 144, 145, 146, 147, 148] else [], loops := fun b => if b = 8 then some L_conv_Decode_8 else if b = 6 then some L_conv_Decode_6 else if b = 4 then some L_conv_Decode_4 else if b = 2 then some L_conv_Decode_2 else if b = 0 then some L_conv_Decode_0 else none }
def W_conv_Decode (a0 : (List Int)) : Prop := (
  ((3 : Int) ≠ (0 : Int)) ∧
  ((↑(List.length a0) : Int) ≤ big) ∧
  ((!softB a0) = false → (3 : Int) ≠ (0 : Int)) ∧
  condP (if (if (if (!softB a0) = true then true else Int.tmod (↑(List.length a0) : Int) (3 : Int) != (0 : Int)) = true then true else decide (IntKind.wrap IntKind.i64 (IntKind.wrap IntKind.i64 (Int.tdiv (↑(List.length a0) : Int) (3 : Int)) - (6 : Int)) < (0 : Int))) = true then true else decide (IntKind.wrap IntKind.i64 (IntKind.wrap IntKind.i64 (Int.tdiv (↑(List.length a0) : Int) (3 : Int)) - (6 : Int)) > (400 : Int)))
    ((@List.nil Int = decL a0) ∧
    ((0 : Int) = decV a0) ∧
    ((1 : Int) = decErr a0) ∧
    True)
    (((0 : Int) ≤ IntKind.wrap IntKind.i64 (IntKind.wrap IntKind.i64 (IntKind.wrap IntKind.i64 (IntKind.wrap IntKind.i64 (Int.tdiv (↑(List.length a0) : Int) (3 : Int)) - (6 : Int)) + (6 : Int)) + (1 : Int))) ∧
    (IntKind.wrap IntKind.i64 (IntKind.wrap IntKind.i64 (IntKind.wrap IntKind.i64 (IntKind.wrap IntKind.i64 (Int.tdiv (↑(List.length a0) : Int) (3 : Int)) - (6 : Int)) + (6 : Int)) + (1 : Int)) ≤ IntKind.wrap IntKind.i64 (IntKind.wrap IntKind.i64 (IntKind.wrap IntKind.i64 (IntKind.wrap IntKind.i64 (Int.tdiv (↑(List.length a0) : Int) (3 : Int)) - (6 : Int)) + (6 : Int)) + (1 : Int))) ∧
    ((↑(512 : Nat) : Int) * IntKind.wrap IntKind.i64 (IntKind.wrap IntKind.i64 (IntKind.wrap IntKind.i64 (IntKind.wrap IntKind.i64 (Int.tdiv (↑(List.length a0) : Int) (3 : Int)) - (6 : Int)) + (6 : Int)) + (1 : Int)) ≤ (281474976710656 : Int)) ∧
    (p_conv_Decode_0 a0 (IntKind.wrap IntKind.i64 (IntKind.wrap IntKind.i64 (Int.tdiv (↑(List.length a0) : Int) (3 : Int)) - (6 : Int))) (IntKind.wrap IntKind.i64 (IntKind.wrap IntKind.i64 (IntKind.wrap IntKind.i64 (Int.tdiv (↑(List.length a0) : Int) (3 : Int)) - (6 : Int)) + (6 : Int))) (1 : Int) (List.replicate (Int.toNat (IntKind.wrap IntKind.i64 (IntKind.wrap IntKind.i64 (IntKind.wrap IntKind.i64 (IntKind.wrap IntKind.i64 (Int.tdiv (↑(List.length a0) : Int) (3 : Int)) - (6 : Int)) + (6 : Int)) + (1 : Int)))) (List.replicate (64 : Nat) (0 : Int)))) ∧
    (p_conv_Decode_2 a0 (IntKind.wrap IntKind.i64 (IntKind.wrap IntKind.i64 (Int.tdiv (↑(List.length a0) : Int) (3 : Int)) - (6 : Int))) (IntKind.wrap IntKind.i64 (IntKind.wrap IntKind.i64 (IntKind.wrap IntKind.i64 (IntKind.wrap IntKind.i64 (Int.tdiv (↑(List.length a0) : Int) (3 : Int)) - (6 : Int)) + (6 : Int)) - (1 : Int))) (List.set (List.replicate (Int.toNat (IntKind.wrap IntKind.i64 (IntKind.wrap IntKind.i64 (IntKind.wrap IntKind.i64 (IntKind.wrap IntKind.i64 (Int.tdiv (↑(List.length a0) : Int) (3 : Int)) - (6 : Int)) + (6 : Int)) + (1 : Int)))) (List.replicate (64 : Nat) (0 : Int))) (Int.toNat (IntKind.wrap IntKind.i64 (IntKind.wrap IntKind.i64 (IntKind.wrap IntKind.i64 (Int.tdiv (↑(List.length a0) : Int) (3 : Int)) - (6 : Int)) + (6 : Int)))) (rowV a0 (Int.toNat (IntKind.wrap IntKind.i64 (IntKind.wrap IntKind.i64 (Int.tdiv (↑(List.length a0) : Int) (3 : Int)) - (6 : Int)))) (0 : Nat)))) ∧
    ((0 : Int) ≤ (0 : Int)) ∧
    ((0 : Int) ≤ IntKind.wrap IntKind.i64 (IntKind.wrap IntKind.i64 (Int.tdiv (↑(List.length a0) : Int) (3 : Int)) - (6 : Int))) ∧
    ((↑(1 : Nat) : Int) * IntKind.wrap IntKind.i64 (IntKind.wrap IntKind.i64 (Int.tdiv (↑(List.length a0) : Int) (3 : Int)) - (6 : Int)) ≤ (281474976710656 : Int)) ∧
    (p_conv_Decode_8 a0 (0 : Int) (IntKind.wrap IntKind.i64 (IntKind.wrap IntKind.i64 (Int.tdiv (↑(List.length a0) : Int) (3 : Int)) - (6 : Int))) (0 : Int) (tabV a0 (Int.toNat (IntKind.wrap IntKind.i64 (IntKind.wrap IntKind.i64 (Int.tdiv (↑(List.length a0) : Int) (3 : Int)) - (6 : Int))))) (List.replicate (0 : Nat) (0 : Int))) ∧
    ((0 : Int) ≤ (0 : Int)) ∧
    ((0 : Int) < (↑(List.length (tabV a0 (Int.toNat (IntKind.wrap IntKind.i64 (IntKind.wrap IntKind.i64 (Int.tdiv (↑(List.length a0) : Int) (3 : Int)) - (6 : Int)))))) : Int)) ∧
    ((0 : Int) ≤ (0 : Int)) ∧
    ((0 : Int) < (↑(64 : Nat) : Int)) ∧
    (List.replicate (0 : Nat) (0 : Int) ++ Prod.snd (Bst a0 (Int.toNat (IntKind.wrap IntKind.i64 (IntKind.wrap IntKind.i64 (Int.tdiv (↑(List.length a0) : Int) (3 : Int)) - (6 : Int)))) (Int.toNat (IntKind.wrap IntKind.i64 (IntKind.wrap IntKind.i64 (Int.tdiv (↑(List.length a0) : Int) (3 : Int)) - (6 : Int))) - (0 : Nat)) (0 : Nat)) = decL a0) ∧
    (List.getD (List.getD (tabV a0 (Int.toNat (IntKind.wrap IntKind.i64 (IntKind.wrap IntKind.i64 (Int.tdiv (↑(List.length a0) : Int) (3 : Int)) - (6 : Int))))) (0 : Nat) (List.replicate (64 : Nat) (0 : Int))) (0 : Nat) (0 : Int) = decV a0) ∧
    ((0 : Int) = decErr a0) ∧
    True))
theorem V_conv_Decode (a0 : (List Int)) : awp E_conv_Decode (bodyOf Try.f48) 0 (fin Try.prog S_conv_Decode (a0, ()) [(2, none), (3, none), (4, none)] 0) (initSt S_conv_Decode.par (a0, ()) 166) = W_conv_Decode a0 := by kernel_rfl
def B_conv_Decode_0 (t0 : (List Int)) (t5 : Int) (t6 : Int) (t8 : Int) (r0 : (List (List Int))) (m : Nat) (K : AExit → St → Prop) : Prop := (
  condP (decide (t8 < (64 : Int)))
    (((0 : Int) ≤ t6) ∧
    (t6 < (↑(List.length r0) : Int)) ∧
    ((0 : Int) ≤ t8) ∧
    (t8 < (↑(64 : Nat) : Int)) ∧
    (p_conv_Decode_0 t0 t5 t6 (IntKind.wrap IntKind.i64 (t8 + (1 : Int))) (List.set r0 (Int.toNat t6) (List.set (List.getD r0 (Int.toNat t6) (List.replicate (64 : Nat) (0 : Int))) (Int.toNat t8) (-1152921504606846976 : Int)))) ∧
    (m_conv_Decode_0 t0 t5 t6 (IntKind.wrap IntKind.i64 (t8 + (1 : Int))) (List.set r0 (Int.toNat t6) (List.set (List.getD r0 (Int.toNat t6) (List.replicate (64 : Nat) (0 : Int))) (Int.toNat t8) (-1152921504606846976 : Int))) < m) ∧
    o_conv_Decode_0 t0 t5 t6 (IntKind.wrap IntKind.i64 (t8 + (1 : Int))) (List.set r0 (Int.toNat t6) (List.set (List.getD r0 (Int.toNat t6) (List.replicate (64 : Nat) (0 : Int))) (Int.toNat t8) (-1152921504606846976 : Int))) K)
    (X_conv_Decode_0_0 (t0) (t5) (t6) (r0) K))
theorem R_conv_Decode_0 (t0 : (List Int)) (t5 : Int) (t6 : Int) (t8 : Int) (r0 : (List (List Int))) (m : Nat) (K : AExit → St → Prop) : awp E_conv_Decode (loopAt (bodyOf Try.f48) 0) 0 (roundP E_conv_Decode 0 L_conv_Decode_0 m K) (L_conv_Decode_0.abs (t0, t5, t6, t8, ()) (r0, ())) = B_conv_Decode_0 t0 t5 t6 t8 r0 m K := by kernel_rfl
theorem I_conv_Decode_0 (h : ∀ (t0 : (List Int)) (t5 : Int) (t6 : Int) (t8 : Int) (r0 : (List (List Int))) (K : AExit → St → Prop), p_conv_Decode_0 t0 t5 t6 t8 r0 → o_conv_Decode_0 t0 t5 t6 t8 r0 K → B_conv_Decode_0 t0 t5 t6 t8 r0 (m_conv_Decode_0 t0 t5 t6 t8 r0) K) : LoopOK E_conv_Decode 0 (loopAt (bodyOf Try.f48) 0) L_conv_Decode_0 :=
  fun x y K hp ho => match x, y, hp, ho with | (t0, t5, t6, t8, ()), (r0, ()), hp, ho => (R_conv_Decode_0 t0 t5 t6 t8 r0 (m_conv_Decode_0 t0 t5 t6 t8 r0) K).mpr (h t0 t5 t6 t8 r0 K hp ho)
def B_conv_Decode_2 (t0 : (List Int)) (t5 : Int) (t9 : Int) (r0 : (List (List Int))) (m : Nat) (K : AExit → St → Prop) : Prop := (
  condP (decide (t9 ≥ (0 : Int)))
    ((p_conv_Decode_4 t0 t5 t9 (0 : Int) r0) ∧
    (p_conv_Decode_2 t0 t5 (IntKind.wrap IntKind.i64 (t9 - (1 : Int))) (List.set r0 (Int.toNat t9) (rowI t0 t5 t9))) ∧
    (m_conv_Decode_2 t0 t5 (IntKind.wrap IntKind.i64 (t9 - (1 : Int))) (List.set r0 (Int.toNat t9) (rowI t0 t5 t9)) < m) ∧
    o_conv_Decode_2 t0 t5 (IntKind.wrap IntKind.i64 (t9 - (1 : Int))) (List.set r0 (Int.toNat t9) (rowI t0 t5 t9)) K)
    (X_conv_Decode_2_0 (t0) (t5) (r0) K))
theorem R_conv_Decode_2 (t0 : (List Int)) (t5 : Int) (t9 : Int) (r0 : (List (List Int))) (m : Nat) (K : AExit → St → Prop) : awp E_conv_Decode (loopAt (bodyOf Try.f48) 2) 2 (roundP E_conv_Decode 2 L_conv_Decode_2 m K) (L_conv_Decode_2.abs (t0, t5, t9, ()) (r0, ())) = B_conv_Decode_2 t0 t5 t9 r0 m K := by kernel_rfl
theorem I_conv_Decode_2 (h : ∀ (t0 : (List Int)) (t5 : Int) (t9 : Int) (r0 : (List (List Int))) (K : AExit → St → Prop), p_conv_Decode_2 t0 t5 t9 r0 → o_conv_Decode_2 t0 t5 t9 r0 K → B_conv_Decode_2 t0 t5 t9 r0 (m_conv_Decode_2 t0 t5 t9 r0) K) : LoopOK E_conv_Decode 2 (loopAt (bodyOf Try.f48) 2) L_conv_Decode_2 :=
  fun x y K hp ho => match x, y, hp, ho with | (t0, t5, t9, ()), (r0, ()), hp, ho => (R_conv_Decode_2 t0 t5 t9 r0 (m_conv_Decode_2 t0 t5 t9 r0) K).mpr (h t0 t5 t9 r0 K hp ho)
def B_conv_Decode_4 (t0 : (List Int)) (t5 : Int) (t9 : Int) (t60 : Int) (r0 : (List (List Int))) (m : Nat) (K : AExit → St → Prop) : Prop := (
  condP (decide (t60 < (64 : Int)))
    (((0 : Int) ≤ t9) ∧
    (t9 < (↑(List.length r0) : Int)) ∧
    ((0 : Int) ≤ t60) ∧
    (t60 < (↑(64 : Nat) : Int)) ∧
    (p_conv_Decode_6 t0 t5 t9 t60 t60 (0 : Int) (List.set r0 (Int.toNat t9) (List.set (List.getD r0 (Int.toNat t9) (List.replicate (64 : Nat) (0 : Int))) (Int.toNat t60) (-1152921504606846976 : Int)))) ∧
    (p_conv_Decode_4 t0 t5 t9 (IntKind.wrap IntKind.i64 (t60 + (1 : Int))) (List.set (List.set r0 (Int.toNat t9) (List.set (List.getD r0 (Int.toNat t9) (List.replicate (64 : Nat) (0 : Int))) (Int.toNat t60) (-1152921504606846976 : Int))) (Int.toNat t9) (List.set (List.getD (List.set r0 (Int.toNat t9) (List.set (List.getD r0 (Int.toNat t9) (List.replicate (64 : Nat) (0 : Int))) (Int.toNat t60) (-1152921504606846976 : Int))) (Int.toNat t9) (List.replicate (64 : Nat) (0 : Int))) (Int.toNat t60) (Vt t0 (Int.toNat t5) (Int.toNat (t5 + (6 : Int) - t9)) (Int.toNat t60))))) ∧
    (m_conv_Decode_4 t0 t5 t9 (IntKind.wrap IntKind.i64 (t60 + (1 : Int))) (List.set (List.set r0 (Int.toNat t9) (List.set (List.getD r0 (Int.toNat t9) (List.replicate (64 : Nat) (0 : Int))) (Int.toNat t60) (-1152921504606846976 : Int))) (Int.toNat t9) (List.set (List.getD (List.set r0 (Int.toNat t9) (List.set (List.getD r0 (Int.toNat t9) (List.replicate (64 : Nat) (0 : Int))) (Int.toNat t60) (-1152921504606846976 : Int))) (Int.toNat t9) (List.replicate (64 : Nat) (0 : Int))) (Int.toNat t60) (Vt t0 (Int.toNat t5) (Int.toNat (t5 + (6 : Int) - t9)) (Int.toNat t60)))) < m) ∧
    o_conv_Decode_4 t0 t5 t9 (IntKind.wrap IntKind.i64 (t60 + (1 : Int))) (List.set (List.set r0 (Int.toNat t9) (List.set (List.getD r0 (Int.toNat t9) (List.replicate (64 : Nat) (0 : Int))) (Int.toNat t60) (-1152921504606846976 : Int))) (Int.toNat t9) (List.set (List.getD (List.set r0 (Int.toNat t9) (List.set (List.getD r0 (Int.toNat t9) (List.replicate (64 : Nat) (0 : Int))) (Int.toNat t60) (-1152921504606846976 : Int))) (Int.toNat t9) (List.replicate (64 : Nat) (0 : Int))) (Int.toNat t60) (Vt t0 (Int.toNat t5) (Int.toNat (t5 + (6 : Int) - t9)) (Int.toNat t60)))) K)
    (X_conv_Decode_4_0 (t0) (t5) (t9) (r0) K))
theorem R_conv_Decode_4 (t0 : (List Int)) (t5 : Int) (t9 : Int) (t60 : Int) (r0 : (List (List Int))) (m : Nat) (K : AExit → St → Prop) : awp E_conv_Decode (loopAt (bodyOf Try.f48) 4) 4 (roundP E_conv_Decode 4 L_conv_Decode_4 m K) (L_conv_Decode_4.abs (t0, t5, t9, t60, ()) (r0, ())) = B_conv_Decode_4 t0 t5 t9 t60 r0 m K := by kernel_rfl
theorem I_conv_Decode_4 (h : ∀ (t0 : (List Int)) (t5 : Int) (t9 : Int) (t60 : Int) (r0 : (List (List Int))) (K : AExit → St → Prop), p_conv_Decode_4 t0 t5 t9 t60 r0 → o_conv_Decode_4 t0 t5 t9 t60 r0 K → B_conv_Decode_4 t0 t5 t9 t60 r0 (m_conv_Decode_4 t0 t5 t9 t60 r0) K) : LoopOK E_conv_Decode 4 (loopAt (bodyOf Try.f48) 4) L_conv_Decode_4 :=
  fun x y K hp ho => match x, y, hp, ho with | (t0, t5, t9, t60, ()), (r0, ()), hp, ho => (R_conv_Decode_4 t0 t5 t9 t60 r0 (m_conv_Decode_4 t0 t5 t9 t60 r0) K).mpr (h t0 t5 t9 t60 r0 K hp ho)
def B_conv_Decode_6 (t0 : (List Int)) (t5 : Int) (t9 : Int) (t10 : Int) (t60 : Int) (t68 : Int) (r0 : (List (List Int))) (m : Nat) (K : AExit → St → Prop) : Prop := (
  condP (decide (t68 < (2 : Int)))
    (condP (if (t68 == (1 : Int)) = true then decide (t9 ≥ t5) else false)
      ((p_conv_Decode_6 t0 t5 t9 t10 t60 (IntKind.wrap IntKind.i64 (t68 + (1 : Int))) r0) ∧
      (m_conv_Decode_6 t0 t5 t9 t10 t60 (IntKind.wrap IntKind.i64 (t68 + (1 : Int))) r0 < m) ∧
      o_conv_Decode_6 t0 t5 t9 t10 t60 (IntKind.wrap IntKind.i64 (t68 + (1 : Int))) r0 K)
      (((0 : Int) ≤ (6 : Int)) ∧
      ((0 : Int) ≤ (1 : Int)) ∧
      ((0 : Int) ≤ IntKind.wrap IntKind.i64 (t9 + (1 : Int))) ∧
      (IntKind.wrap IntKind.i64 (t9 + (1 : Int)) < (↑(List.length r0) : Int)) ∧
      ((0 : Int) ≤ Int.fdiv (bits BinOp.or IntKind.i64 (IntKind.wrap IntKind.i64 (t68 * (2 : Int) ^ min (6 : Nat) (IntKind.bits IntKind.i64))) t10) ((2 : Int) ^ min (1 : Nat) (IntKind.bits IntKind.i64))) ∧
      (Int.fdiv (bits BinOp.or IntKind.i64 (IntKind.wrap IntKind.i64 (t68 * (2 : Int) ^ min (6 : Nat) (IntKind.bits IntKind.i64))) t10) ((2 : Int) ^ min (1 : Nat) (IntKind.bits IntKind.i64)) < (↑(64 : Nat) : Int)) ∧
      condP (decide (List.getD (List.getD r0 (Int.toNat (IntKind.wrap IntKind.i64 (t9 + (1 : Int)))) (List.replicate (64 : Nat) (0 : Int))) (Int.toNat (Int.fdiv (bits BinOp.or IntKind.i64 (IntKind.wrap IntKind.i64 (t68 * (2 : Int) ^ min (6 : Nat) (IntKind.bits IntKind.i64))) t10) ((2 : Int) ^ min (1 : Nat) (IntKind.bits IntKind.i64)))) (0 : Int) > (-1152921504606846976 : Int)))
        (((0 : Int) ≤ t9) ∧
        (t9 < (↑(List.length r0) : Int)) ∧
        ((0 : Int) ≤ t10) ∧
        (t10 < (↑(64 : Nat) : Int)) ∧
        ((0 : Int) ≤ bits BinOp.or IntKind.i64 (IntKind.wrap IntKind.i64 (t68 * (2 : Int) ^ min (6 : Nat) (IntKind.bits IntKind.i64))) t10 ∧ bits BinOp.or IntKind.i64 (IntKind.wrap IntKind.i64 (t68 * (2 : Int) ^ min (6 : Nat) (IntKind.bits IntKind.i64))) t10 < (128 : Int)) ∧
        ((0 : Int) ≤ IntKind.wrap IntKind.i64 ((3 : Int) * t9)) ∧
        (IntKind.wrap IntKind.i64 ((3 : Int) * t9) ≤ (↑(List.length t0) : Int)) ∧
        ((↑(List.length t0) : Int) ≤ (↑(List.length t0) : Int)) ∧
        (Bits (thr (bits BinOp.or IntKind.i64 (IntKind.wrap IntKind.i64 (t68 * (2 : Int) ^ min (6 : Nat) (IntKind.bits IntKind.i64))) t10)) ∧ List.length (thr (bits BinOp.or IntKind.i64 (IntKind.wrap IntKind.i64 (t68 * (2 : Int) ^ min (6 : Nat) (IntKind.bits IntKind.i64))) t10)) = (3 : Nat) ∧ (3 : Nat) ≤ List.length (cutL t0 (some (IntKind.wrap IntKind.i64 ((3 : Int) * t9))) none) ∧ Softs (cutL t0 (some (IntKind.wrap IntKind.i64 ((3 : Int) * t9))) none)) ∧
        ((0 : Int) ≤ t9) ∧
        (t9 < (↑(List.length r0) : Int)) ∧
        ((0 : Int) ≤ t10) ∧
        (t10 < (↑(64 : Nat) : Int)) ∧
        (p_conv_Decode_6 t0 t5 t9 t10 t60 (IntKind.wrap IntKind.i64 (t68 + (1 : Int))) (List.set r0 (Int.toNat t9) (List.set (List.getD r0 (Int.toNat t9) (List.replicate (64 : Nat) (0 : Int))) (Int.toNat t10) (lesser true (List.getD (List.getD r0 (Int.toNat t9) (List.replicate (64 : Nat) (0 : Int))) (Int.toNat t10) (0 : Int)) (IntKind.wrap IntKind.i64 (List.getD (List.getD r0 (Int.toNat (IntKind.wrap IntKind.i64 (t9 + (1 : Int)))) (List.replicate (64 : Nat) (0 : Int))) (Int.toNat (Int.fdiv (bits BinOp.or IntKind.i64 (IntKind.wrap IntKind.i64 (t68 * (2 : Int) ^ min (6 : Nat) (IntKind.bits IntKind.i64))) t10) ((2 : Int) ^ min (1 : Nat) (IntKind.bits IntKind.i64)))) (0 : Int) + scp (thr (bits BinOp.or IntKind.i64 (IntKind.wrap IntKind.i64 (t68 * (2 : Int) ^ min (6 : Nat) (IntKind.bits IntKind.i64))) t10)) (cutL t0 (some (IntKind.wrap IntKind.i64 ((3 : Int) * t9))) none))))))) ∧
        (m_conv_Decode_6 t0 t5 t9 t10 t60 (IntKind.wrap IntKind.i64 (t68 + (1 : Int))) (List.set r0 (Int.toNat t9) (List.set (List.getD r0 (Int.toNat t9) (List.replicate (64 : Nat) (0 : Int))) (Int.toNat t10) (lesser true (List.getD (List.getD r0 (Int.toNat t9) (List.replicate (64 : Nat) (0 : Int))) (Int.toNat t10) (0 : Int)) (IntKind.wrap IntKind.i64 (List.getD (List.getD r0 (Int.toNat (IntKind.wrap IntKind.i64 (t9 + (1 : Int)))) (List.replicate (64 : Nat) (0 : Int))) (Int.toNat (Int.fdiv (bits BinOp.or IntKind.i64 (IntKind.wrap IntKind.i64 (t68 * (2 : Int) ^ min (6 : Nat) (IntKind.bits IntKind.i64))) t10) ((2 : Int) ^ min (1 : Nat) (IntKind.bits IntKind.i64)))) (0 : Int) + scp (thr (bits BinOp.or IntKind.i64 (IntKind.wrap IntKind.i64 (t68 * (2 : Int) ^ min (6 : Nat) (IntKind.bits IntKind.i64))) t10)) (cutL t0 (some (IntKind.wrap IntKind.i64 ((3 : Int) * t9))) none)))))) < m) ∧
        o_conv_Decode_6 t0 t5 t9 t10 t60 (IntKind.wrap IntKind.i64 (t68 + (1 : Int))) (List.set r0 (Int.toNat t9) (List.set (List.getD r0 (Int.toNat t9) (List.replicate (64 : Nat) (0 : Int))) (Int.toNat t10) (lesser true (List.getD (List.getD r0 (Int.toNat t9) (List.replicate (64 : Nat) (0 : Int))) (Int.toNat t10) (0 : Int)) (IntKind.wrap IntKind.i64 (List.getD (List.getD r0 (Int.toNat (IntKind.wrap IntKind.i64 (t9 + (1 : Int)))) (List.replicate (64 : Nat) (0 : Int))) (Int.toNat (Int.fdiv (bits BinOp.or IntKind.i64 (IntKind.wrap IntKind.i64 (t68 * (2 : Int) ^ min (6 : Nat) (IntKind.bits IntKind.i64))) t10) ((2 : Int) ^ min (1 : Nat) (IntKind.bits IntKind.i64)))) (0 : Int) + scp (thr (bits BinOp.or IntKind.i64 (IntKind.wrap IntKind.i64 (t68 * (2 : Int) ^ min (6 : Nat) (IntKind.bits IntKind.i64))) t10)) (cutL t0 (some (IntKind.wrap IntKind.i64 ((3 : Int) * t9))) none)))))) K)
        ((p_conv_Decode_6 t0 t5 t9 t10 t60 (IntKind.wrap IntKind.i64 (t68 + (1 : Int))) r0) ∧
        (m_conv_Decode_6 t0 t5 t9 t10 t60 (IntKind.wrap IntKind.i64 (t68 + (1 : Int))) r0 < m) ∧
        o_conv_Decode_6 t0 t5 t9 t10 t60 (IntKind.wrap IntKind.i64 (t68 + (1 : Int))) r0 K)))
    (X_conv_Decode_6_0 (t0) (t5) (t9) (t60) (r0) K))
theorem R_conv_Decode_6 (t0 : (List Int)) (t5 : Int) (t9 : Int) (t10 : Int) (t60 : Int) (t68 : Int) (r0 : (List (List Int))) (m : Nat) (K : AExit → St → Prop) : awp E_conv_Decode (loopAt (bodyOf Try.f48) 6) 6 (roundP E_conv_Decode 6 L_conv_Decode_6 m K) (L_conv_Decode_6.abs (t0, t5, t9, t10, t60, t68, ()) (r0, ())) = B_conv_Decode_6 t0 t5 t9 t10 t60 t68 r0 m K := by kernel_rfl
theorem I_conv_Decode_6 (h : ∀ (t0 : (List Int)) (t5 : Int) (t9 : Int) (t10 : Int) (t60 : Int) (t68 : Int) (r0 : (List (List Int))) (K : AExit → St → Prop), p_conv_Decode_6 t0 t5 t9 t10 t60 t68 r0 → o_conv_Decode_6 t0 t5 t9 t10 t60 t68 r0 K → B_conv_Decode_6 t0 t5 t9 t10 t60 t68 r0 (m_conv_Decode_6 t0 t5 t9 t10 t60 t68 r0) K) : LoopOK E_conv_Decode 6 (loopAt (bodyOf Try.f48) 6) L_conv_Decode_6 :=
  fun x y K hp ho => match x, y, hp, ho with | (t0, t5, t9, t10, t60, t68, ()), (r0, ()), hp, ho => (R_conv_Decode_6 t0 t5 t9 t10 t60 t68 r0 (m_conv_Decode_6 t0 t5 t9 t10 t60 t68 r0) K).mpr (h t0 t5 t9 t10 t60 t68 r0 K hp ho)
def B_conv_Decode_8 (t0 : (List Int)) (t15 : Int) (t117 : Int) (t118 : Int) (r0 : (List (List Int))) (r1 : (List Int)) (m : Nat) (K : AExit → St → Prop) : Prop := (
  condP (decide (t118 < t117))
    (((0 : Int) ≤ (1 : Int)) ∧
    ((0 : Int) ≤ IntKind.wrap IntKind.i64 (t118 + (1 : Int))) ∧
    (IntKind.wrap IntKind.i64 (t118 + (1 : Int)) < (↑(List.length r0) : Int)) ∧
    ((0 : Int) ≤ Int.fdiv t15 ((2 : Int) ^ min (1 : Nat) (IntKind.bits IntKind.i64))) ∧
    (Int.fdiv t15 ((2 : Int) ^ min (1 : Nat) (IntKind.bits IntKind.i64)) < (↑(64 : Nat) : Int)) ∧
    ((List.getD (List.getD r0 (Int.toNat (IntKind.wrap IntKind.i64 (t118 + (1 : Int)))) (List.replicate (64 : Nat) (0 : Int))) (Int.toNat (Int.fdiv t15 ((2 : Int) ^ min (1 : Nat) (IntKind.bits IntKind.i64)))) (0 : Int) == (-1152921504606846976 : Int)) = false → (0 : Int) ≤ t15 ∧ t15 < (128 : Int)) ∧
    ((List.getD (List.getD r0 (Int.toNat (IntKind.wrap IntKind.i64 (t118 + (1 : Int)))) (List.replicate (64 : Nat) (0 : Int))) (Int.toNat (Int.fdiv t15 ((2 : Int) ^ min (1 : Nat) (IntKind.bits IntKind.i64)))) (0 : Int) == (-1152921504606846976 : Int)) = false → (0 : Int) ≤ IntKind.wrap IntKind.i64 ((3 : Int) * t118)) ∧
    ((List.getD (List.getD r0 (Int.toNat (IntKind.wrap IntKind.i64 (t118 + (1 : Int)))) (List.replicate (64 : Nat) (0 : Int))) (Int.toNat (Int.fdiv t15 ((2 : Int) ^ min (1 : Nat) (IntKind.bits IntKind.i64)))) (0 : Int) == (-1152921504606846976 : Int)) = false → IntKind.wrap IntKind.i64 ((3 : Int) * t118) ≤ (↑(List.length t0) : Int)) ∧
    ((List.getD (List.getD r0 (Int.toNat (IntKind.wrap IntKind.i64 (t118 + (1 : Int)))) (List.replicate (64 : Nat) (0 : Int))) (Int.toNat (Int.fdiv t15 ((2 : Int) ^ min (1 : Nat) (IntKind.bits IntKind.i64)))) (0 : Int) == (-1152921504606846976 : Int)) = false → (↑(List.length t0) : Int) ≤ (↑(List.length t0) : Int)) ∧
    ((List.getD (List.getD r0 (Int.toNat (IntKind.wrap IntKind.i64 (t118 + (1 : Int)))) (List.replicate (64 : Nat) (0 : Int))) (Int.toNat (Int.fdiv t15 ((2 : Int) ^ min (1 : Nat) (IntKind.bits IntKind.i64)))) (0 : Int) == (-1152921504606846976 : Int)) = false → Bits (thr t15) ∧ List.length (thr t15) = (3 : Nat) ∧ (3 : Nat) ≤ List.length (cutL t0 (some (IntKind.wrap IntKind.i64 ((3 : Int) * t118))) none) ∧ Softs (cutL t0 (some (IntKind.wrap IntKind.i64 ((3 : Int) * t118))) none)) ∧
    ((List.getD (List.getD r0 (Int.toNat (IntKind.wrap IntKind.i64 (t118 + (1 : Int)))) (List.replicate (64 : Nat) (0 : Int))) (Int.toNat (Int.fdiv t15 ((2 : Int) ^ min (1 : Nat) (IntKind.bits IntKind.i64)))) (0 : Int) == (-1152921504606846976 : Int)) = false → (0 : Int) ≤ t118) ∧
    ((List.getD (List.getD r0 (Int.toNat (IntKind.wrap IntKind.i64 (t118 + (1 : Int)))) (List.replicate (64 : Nat) (0 : Int))) (Int.toNat (Int.fdiv t15 ((2 : Int) ^ min (1 : Nat) (IntKind.bits IntKind.i64)))) (0 : Int) == (-1152921504606846976 : Int)) = false → t118 < (↑(List.length r0) : Int)) ∧
    ((List.getD (List.getD r0 (Int.toNat (IntKind.wrap IntKind.i64 (t118 + (1 : Int)))) (List.replicate (64 : Nat) (0 : Int))) (Int.toNat (Int.fdiv t15 ((2 : Int) ^ min (1 : Nat) (IntKind.bits IntKind.i64)))) (0 : Int) == (-1152921504606846976 : Int)) = false → (0 : Int) ≤ t15) ∧
    ((List.getD (List.getD r0 (Int.toNat (IntKind.wrap IntKind.i64 (t118 + (1 : Int)))) (List.replicate (64 : Nat) (0 : Int))) (Int.toNat (Int.fdiv t15 ((2 : Int) ^ min (1 : Nat) (IntKind.bits IntKind.i64)))) (0 : Int) == (-1152921504606846976 : Int)) = false → t15 < (↑(64 : Nat) : Int)) ∧
    condP (if (List.getD (List.getD r0 (Int.toNat (IntKind.wrap IntKind.i64 (t118 + (1 : Int)))) (List.replicate (64 : Nat) (0 : Int))) (Int.toNat (Int.fdiv t15 ((2 : Int) ^ min (1 : Nat) (IntKind.bits IntKind.i64)))) (0 : Int) == (-1152921504606846976 : Int)) = true then true else decide (IntKind.wrap IntKind.i64 (List.getD (List.getD r0 (Int.toNat (IntKind.wrap IntKind.i64 (t118 + (1 : Int)))) (List.replicate (64 : Nat) (0 : Int))) (Int.toNat (Int.fdiv t15 ((2 : Int) ^ min (1 : Nat) (IntKind.bits IntKind.i64)))) (0 : Int) + scp (thr t15) (cutL t0 (some (IntKind.wrap IntKind.i64 ((3 : Int) * t118))) none)) < List.getD (List.getD r0 (Int.toNat t118) (List.replicate (64 : Nat) (0 : Int))) (Int.toNat t15) (0 : Int)))
      (((0 : Int) ≤ (6 : Int)) ∧
      ((List.length r1 + List.length [IntKind.wrap IntKind.u8 (Int.fdiv (bits BinOp.or IntKind.i64 t15 (64 : Int)) ((2 : Int) ^ min (6 : Nat) (IntKind.bits IntKind.i64)))]) * (1 : Nat) ≤ (140737488355328 : Nat)) ∧
      ((0 : Int) ≤ (1 : Int)) ∧
      (p_conv_Decode_8 t0 (Int.fdiv (bits BinOp.or IntKind.i64 t15 (64 : Int)) ((2 : Int) ^ min (1 : Nat) (IntKind.bits IntKind.i64))) t117 (IntKind.wrap IntKind.i64 (t118 + (1 : Int))) r0 (List.append r1 [IntKind.wrap IntKind.u8 (Int.fdiv (bits BinOp.or IntKind.i64 t15 (64 : Int)) ((2 : Int) ^ min (6 : Nat) (IntKind.bits IntKind.i64)))])) ∧
      (m_conv_Decode_8 t0 (Int.fdiv (bits BinOp.or IntKind.i64 t15 (64 : Int)) ((2 : Int) ^ min (1 : Nat) (IntKind.bits IntKind.i64))) t117 (IntKind.wrap IntKind.i64 (t118 + (1 : Int))) r0 (List.append r1 [IntKind.wrap IntKind.u8 (Int.fdiv (bits BinOp.or IntKind.i64 t15 (64 : Int)) ((2 : Int) ^ min (6 : Nat) (IntKind.bits IntKind.i64)))]) < m) ∧
      o_conv_Decode_8 t0 (Int.fdiv (bits BinOp.or IntKind.i64 t15 (64 : Int)) ((2 : Int) ^ min (1 : Nat) (IntKind.bits IntKind.i64))) t117 (IntKind.wrap IntKind.i64 (t118 + (1 : Int))) r0 (List.append r1 [IntKind.wrap IntKind.u8 (Int.fdiv (bits BinOp.or IntKind.i64 t15 (64 : Int)) ((2 : Int) ^ min (6 : Nat) (IntKind.bits IntKind.i64)))]) K)
      (((0 : Int) ≤ (6 : Int)) ∧
      ((List.length r1 + List.length [IntKind.wrap IntKind.u8 (Int.fdiv t15 ((2 : Int) ^ min (6 : Nat) (IntKind.bits IntKind.i64)))]) * (1 : Nat) ≤ (140737488355328 : Nat)) ∧
      ((0 : Int) ≤ (1 : Int)) ∧
      (p_conv_Decode_8 t0 (Int.fdiv t15 ((2 : Int) ^ min (1 : Nat) (IntKind.bits IntKind.i64))) t117 (IntKind.wrap IntKind.i64 (t118 + (1 : Int))) r0 (List.append r1 [IntKind.wrap IntKind.u8 (Int.fdiv t15 ((2 : Int) ^ min (6 : Nat) (IntKind.bits IntKind.i64)))])) ∧
      (m_conv_Decode_8 t0 (Int.fdiv t15 ((2 : Int) ^ min (1 : Nat) (IntKind.bits IntKind.i64))) t117 (IntKind.wrap IntKind.i64 (t118 + (1 : Int))) r0 (List.append r1 [IntKind.wrap IntKind.u8 (Int.fdiv t15 ((2 : Int) ^ min (6 : Nat) (IntKind.bits IntKind.i64)))]) < m) ∧
      o_conv_Decode_8 t0 (Int.fdiv t15 ((2 : Int) ^ min (1 : Nat) (IntKind.bits IntKind.i64))) t117 (IntKind.wrap IntKind.i64 (t118 + (1 : Int))) r0 (List.append r1 [IntKind.wrap IntKind.u8 (Int.fdiv t15 ((2 : Int) ^ min (6 : Nat) (IntKind.bits IntKind.i64)))]) K))
    (X_conv_Decode_8_0 (r0) (r1) K))
theorem R_conv_Decode_8 (t0 : (List Int)) (t15 : Int) (t117 : Int) (t118 : Int) (r0 : (List (List Int))) (r1 : (List Int)) (m : Nat) (K : AExit → St → Prop) : awp E_conv_Decode (loopAt (bodyOf Try.f48) 8) 8 (roundP E_conv_Decode 8 L_conv_Decode_8 m K) (L_conv_Decode_8.abs (t0, t15, t117, t118, ()) (r0, r1, ())) = B_conv_Decode_8 t0 t15 t117 t118 r0 r1 m K := by kernel_rfl
theorem I_conv_Decode_8 (h : ∀ (t0 : (List Int)) (t15 : Int) (t117 : Int) (t118 : Int) (r0 : (List (List Int))) (r1 : (List Int)) (K : AExit → St → Prop), p_conv_Decode_8 t0 t15 t117 t118 r0 r1 → o_conv_Decode_8 t0 t15 t117 t118 r0 r1 K → B_conv_Decode_8 t0 t15 t117 t118 r0 r1 (m_conv_Decode_8 t0 t15 t117 t118 r0 r1) K) : LoopOK E_conv_Decode 8 (loopAt (bodyOf Try.f48) 8) L_conv_Decode_8 :=
  fun x y K hp ho => match x, y, hp, ho with | (t0, t15, t117, t118, ()), (r0, r1, ()), hp, ho => (R_conv_Decode_8 t0 t15 t117 t118 r0 r1 (m_conv_Decode_8 t0 t15 t117 t118 r0 r1) K).mpr (h t0 t15 t117 t118 r0 r1 K hp ho)
theorem G_conv_Decode : loopsAll E_conv_Decode (loopList (bodyOf Try.f48) 0) = (LoopOK E_conv_Decode 0 (loopAt (bodyOf Try.f48) 0) L_conv_Decode_0 ∧ LoopOK E_conv_Decode 2 (loopAt (bodyOf Try.f48) 2) L_conv_Decode_2 ∧ LoopOK E_conv_Decode 4 (loopAt (bodyOf Try.f48) 4) L_conv_Decode_4 ∧ LoopOK E_conv_Decode 6 (loopAt (bodyOf Try.f48) 6) L_conv_Decode_6 ∧ LoopOK E_conv_Decode 8 (loopAt (bodyOf Try.f48) 8) L_conv_Decode_8 ∧ True) := by kernel_rfl
theorem envok_conv_Decode (h_conv_Soft : SumOK Try.prog 91 S_conv_Soft) (h_conv_three : SumOK Try.prog 94 S_conv_three) (h_conv_gain : SumOK Try.prog 93 S_conv_gain) : EnvOK E_conv_Decode := ⟨sumsOf_ok (List.forall_mem_cons.2 ⟨h_conv_Soft, (List.forall_mem_cons.2 ⟨h_conv_three, (List.forall_mem_cons.2 ⟨h_conv_gain, (fun _ h => nomatch h)⟩)⟩)⟩), follows⟩
theorem whole_conv_Decode (h_conv_Soft : SumOK Try.prog 91 S_conv_Soft) (h_conv_three : SumOK Try.prog 94 S_conv_three) (h_conv_gain : SumOK Try.prog 93 S_conv_gain) (l0 : LoopOK E_conv_Decode 0 (loopAt (bodyOf Try.f48) 0) L_conv_Decode_0) (l2 : LoopOK E_conv_Decode 2 (loopAt (bodyOf Try.f48) 2) L_conv_Decode_2) (l4 : LoopOK E_conv_Decode 4 (loopAt (bodyOf Try.f48) 4) L_conv_Decode_4) (l6 : LoopOK E_conv_Decode 6 (loopAt (bodyOf Try.f48) 6) L_conv_Decode_6) (l8 : LoopOK E_conv_Decode 8 (loopAt (bodyOf Try.f48) 8) L_conv_Decode_8) (main : ∀ (a0 : (List Int)), ((↑(List.length a0) : Int) ≤ big) → W_conv_Decode a0) : SumOK Try.prog 48 S_conv_Decode :=
  fun_sound (E := E_conv_Decode) (envok_conv_Decode h_conv_Soft h_conv_three h_conv_gain) (fn := Try.f48) (c := bodyOf Try.f48) (ts := [(2, none), (3, none), (4, none)]) S_conv_Decode Try.func48 (body_some (by kernel_rfl)) (by kernel_rfl) (by kernel_rfl) (by kernel_rfl) (G_conv_Decode.mpr ⟨l0, l2, l4, l6, l8, trivial⟩) (fun x hp => match x, hp with | (a0, ()), hp => (V_conv_Decode a0).mpr (main a0 hp))
end Go.Spec
