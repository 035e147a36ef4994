/- The runs of the functions, told. -/
import Derived.Test.YtfjoackkcflbkaaLF
import Derived.Test.YtfjoackkcflbkaaProg
import Derived.Test.YtfjoackkcflbkaaE5
import Derived.Test.YtfjoackkcflbkaaV1
import Derived.Test.YtfjoackkcflbkaaV2
import Derived.Test.YtfjoackkcflbkaaV3
set_option linter.unusedVariables false
set_option linter.unusedSimpArgs false
namespace Go.Spec
open Go Go.Lift Go.Proofs
attribute [local irreducible] Go.Lift.awp
/-! ### bits_divisor -/
noncomputable def E_bits_divisor : Env := { P := Try.prog, sum := sumsOf [], nio := 0, head := fun b => ([], []), after := fun _ => none, leave := fun b => [], loops := fun b => none }
def W_bits_divisor (a0 : Int) : Prop := (
  condP (a0 == (0 : Int))
    (((6 : Int) = (↑(sW a0) : Int)) ∧
    ((33 : Int) = (↑(sG a0) : Int)) ∧
    True)
    (condP (a0 == (1 : Int))
      (((11 : Int) = (↑(sW a0) : Int)) ∧
      ((1569 : Int) = (↑(sG a0) : Int)) ∧
      True)
      (condP (a0 == (2 : Int))
        (((16 : Int) = (↑(sW a0) : Int)) ∧
        ((4129 : Int) = (↑(sG a0) : Int)) ∧
        True)
        (condP (a0 == (3 : Int))
          (((24 : Int) = (↑(sW a0) : Int)) ∧
          ((8801531 : Int) = (↑(sG a0) : Int)) ∧
          True)
          (((0 : Int) = (↑(sW a0) : Int)) ∧
          ((0 : Int) = (↑(sG a0) : Int)) ∧
          True)))))
theorem V_bits_divisor (a0 : Int) : awp E_bits_divisor (bodyOf Try.f126) 0 (fin Try.prog S_bits_divisor (a0, ()) [(2, none), (3, none)] 0) (initSt S_bits_divisor.par (a0, ()) 13) = W_bits_divisor a0 := by kernel_rfl
theorem G_bits_divisor : loopsAll E_bits_divisor (loopList (bodyOf Try.f126) 0) = (True) := by kernel_rfl
theorem envok_bits_divisor  : EnvOK E_bits_divisor := ⟨sumsOf_ok (fun _ h => nomatch h), follows⟩
theorem whole_bits_divisor   (main : ∀ (a0 : Int), (True) → W_bits_divisor a0) : SumOK Try.prog 126 S_bits_divisor :=
  fun_sound (E := E_bits_divisor) (envok_bits_divisor ) (fn := Try.f126) (c := bodyOf Try.f126) (ts := [(2, none), (3, none)]) S_bits_divisor Try.func126 (body_some (by kernel_rfl)) (by kernel_rfl) (by kernel_rfl) (by kernel_rfl) (G_bits_divisor.mpr trivial) (fun x hp => match x, hp with | (a0, ()), hp => (V_bits_divisor a0).mpr (main a0 hp))
/-! ### bits_Width -/
noncomputable def E_bits_Width : Env := { P := Try.prog, sum := sumsOf [(126, S_bits_divisor)], nio := 0, head := fun b => ([], []), after := fun _ => none, leave := fun b => [], loops := fun b => none }
def W_bits_Width (a0 : Int) : Prop := (
  (True) ∧
  ((↑(sW a0) : Int) = (↑(sW a0) : Int)) ∧
  True)
theorem V_bits_Width (a0 : Int) : awp E_bits_Width (bodyOf Try.f111) 0 (fin Try.prog S_bits_Width (a0, ()) [(2, none)] 0) (initSt S_bits_Width.par (a0, ()) 11) = W_bits_Width a0 := by kernel_rfl
theorem G_bits_Width : loopsAll E_bits_Width (loopList (bodyOf Try.f111) 0) = (True) := by kernel_rfl
theorem envok_bits_Width (h_bits_divisor : SumOK Try.prog 126 S_bits_divisor) : EnvOK E_bits_Width := ⟨sumsOf_ok (List.forall_mem_cons.2 ⟨h_bits_divisor, (fun _ h => nomatch h)⟩), follows⟩
theorem whole_bits_Width (h_bits_divisor : SumOK Try.prog 126 S_bits_divisor)  (main : ∀ (a0 : Int), (True) → W_bits_Width a0) : SumOK Try.prog 111 S_bits_Width :=
  fun_sound (E := E_bits_Width) (envok_bits_Width h_bits_divisor) (fn := Try.f111) (c := bodyOf Try.f111) (ts := [(2, none)]) S_bits_Width Try.func111 (body_some (by kernel_rfl)) (by kernel_rfl) (by kernel_rfl) (by kernel_rfl) (G_bits_Width.mpr trivial) (fun x hp => match x, hp with | (a0, ()), hp => (V_bits_Width a0).mpr (main a0 hp))
/-! ### bits_remainder -/
def L_bits_remainder_0 : Lift.Loop := Lift.Loop.mk (u 5 ++ (.v (.int .i64) :: (.v (.int .u32) :: (.v (.int .u32) :: (u 10 ++ (.v (.ro (.int .u8)) :: (.v (.int .i64) :: (.v (.int .i64) :: (u 43))))))))) [] 0 (fun x y => p_bits_remainder_0 x.1 x.2.1 x.2.2.1 x.2.2.2.1 x.2.2.2.2.1 x.2.2.2.2.2.1) (fun x y => m_bits_remainder_0 x.1 x.2.1 x.2.2.1 x.2.2.2.1 x.2.2.2.2.1 x.2.2.2.2.2.1) (fun x y K => o_bits_remainder_0 x.1 x.2.1 x.2.2.1 x.2.2.2.1 x.2.2.2.2.1 x.2.2.2.2.2.1 K)
def L_bits_remainder_2 : Lift.Loop := Lift.Loop.mk (u 5 ++ (.v (.int .i64) :: (u 1 ++ (.v (.int .u32) :: (u 3 ++ (.sl 0 :: (u 35 ++ (.v (.int .i64) :: (.v (.int .i64) :: (u 15)))))))))) [(0, .row (.int .u8))] 1 (fun x y => p_bits_remainder_2 x.1 x.2.1 x.2.2.1 x.2.2.2.1 y.1) (fun x y => m_bits_remainder_2 x.1 x.2.1 x.2.2.1 x.2.2.2.1 y.1) (fun x y K => o_bits_remainder_2 x.1 x.2.1 x.2.2.1 x.2.2.2.1 y.1 K)
noncomputable def E_bits_remainder : Env := { P := Try.prog, sum := sumsOf [(126, S_bits_divisor)], nio := 0, head := fun b => if b = 2 then ([5, 7, 11, 47, 48], []) else if b = 0 then ([5, 6, 7, 18, 19, 20], []) else ([], []), after := fun _ => none, leave := fun b => if b = 2 then [4, 11] else if b = 0 then [4, 5, 7] else [], loops := fun b => if b = 2 then some L_bits_remainder_2 else if b = 0 then some L_bits_remainder_0 else none }
def W_bits_remainder (a0 : (List Int)) (a1 : Int) : Prop := (
  (True) ∧
  (p_bits_remainder_0 (↑(sW a1) : Int) (↑(sG a1) : Int) (0 : Int) a0 (↑(List.length a0) : Int) (0 : Int)) ∧
  ((0 : Int) ≤ (↑(sW a1) : Int)) ∧
  ((↑(sW a1) : Int) ≤ (↑(sW a1) : Int)) ∧
  ((↑(1 : Nat) : Int) * (↑(sW a1) : Int) ≤ (281474976710656 : Int)) ∧
  (p_bits_remainder_2 (↑(sW a1) : Int) (↑(runS (Int.toNat (↑(sW a1) : Int)) (Int.toNat (↑(sG a1) : Int)) (0 : Nat) (List.drop (0 : Nat) a0)) : Int) (↑(List.length (List.replicate (Int.toNat (↑(sW a1) : Int)) (0 : Int))) : Int) (0 : Int) (List.replicate (Int.toNat (↑(sW a1) : Int)) (0 : Int))) ∧
  ((fillFrom (List.replicate (Int.toNat (↑(sW a1) : Int)) (0 : Int)) (0 : Nat) fun (i : Nat) => (↑(Int.toNat (↑(runS (Int.toNat (↑(sW a1) : Int)) (Int.toNat (↑(sG a1) : Int)) (0 : Nat) (List.drop (0 : Nat) a0)) : Int) / (2 : Nat) ^ (Int.toNat (↑(sW a1) : Int) - (1 : Nat) - i) % (2 : Nat)) : Int)) = sumL a0 a1) ∧
  True)
theorem V_bits_remainder (a0 : (List Int)) (a1 : Int) : awp E_bits_remainder (bodyOf Try.f113) 0 (fin Try.prog S_bits_remainder (a0, a1, ()) [(4, none)] 0) (initSt S_bits_remainder.par (a0, a1, ()) 64) = W_bits_remainder a0 a1 := by kernel_rfl
def B_bits_remainder_0 (t5 : Int) (t6 : Int) (t7 : Int) (t18 : (List Int)) (t19 : Int) (t20 : Int) (m : Nat) (K : AExit → St → Prop) : Prop := (
  condP (decide (t20 < t19))
    (((0 : Int) ≤ t20) ∧
    (t20 < (↑(List.length t18) : Int)) ∧
    ((0 : Int) ≤ IntKind.wrap IntKind.i64 (t5 - (1 : Int))) ∧
    ((0 : Int) ≤ (1 : Int)) ∧
    ((0 : Int) ≤ t5) ∧
    condP (bits BinOp.xor IntKind.u32 (bits BinOp.and IntKind.u32 (Int.fdiv t7 ((2 : Int) ^ min (Int.toNat (IntKind.wrap IntKind.i64 (t5 - (1 : Int)))) (IntKind.bits IntKind.u32))) (1 : Int)) (IntKind.wrap IntKind.u32 (List.getD t18 (Int.toNat t20) (0 : Int))) == (1 : Int))
      ((p_bits_remainder_0 t5 t6 (bits BinOp.xor IntKind.u32 (bits BinOp.and IntKind.u32 (IntKind.wrap IntKind.u32 (t7 * (2 : Int) ^ min (1 : Nat) (IntKind.bits IntKind.u32))) (IntKind.wrap IntKind.u32 (IntKind.wrap IntKind.u32 ((1 : Int) * (2 : Int) ^ min (Int.toNat t5) (IntKind.bits IntKind.u32)) - (1 : Int)))) t6) t18 t19 (IntKind.wrap IntKind.i64 (t20 + (1 : Int)))) ∧
      (m_bits_remainder_0 t5 t6 (bits BinOp.xor IntKind.u32 (bits BinOp.and IntKind.u32 (IntKind.wrap IntKind.u32 (t7 * (2 : Int) ^ min (1 : Nat) (IntKind.bits IntKind.u32))) (IntKind.wrap IntKind.u32 (IntKind.wrap IntKind.u32 ((1 : Int) * (2 : Int) ^ min (Int.toNat t5) (IntKind.bits IntKind.u32)) - (1 : Int)))) t6) t18 t19 (IntKind.wrap IntKind.i64 (t20 + (1 : Int))) < m) ∧
      o_bits_remainder_0 t5 t6 (bits BinOp.xor IntKind.u32 (bits BinOp.and IntKind.u32 (IntKind.wrap IntKind.u32 (t7 * (2 : Int) ^ min (1 : Nat) (IntKind.bits IntKind.u32))) (IntKind.wrap IntKind.u32 (IntKind.wrap IntKind.u32 ((1 : Int) * (2 : Int) ^ min (Int.toNat t5) (IntKind.bits IntKind.u32)) - (1 : Int)))) t6) t18 t19 (IntKind.wrap IntKind.i64 (t20 + (1 : Int))) K)
      ((p_bits_remainder_0 t5 t6 (bits BinOp.and IntKind.u32 (IntKind.wrap IntKind.u32 (t7 * (2 : Int) ^ min (1 : Nat) (IntKind.bits IntKind.u32))) (IntKind.wrap IntKind.u32 (IntKind.wrap IntKind.u32 ((1 : Int) * (2 : Int) ^ min (Int.toNat t5) (IntKind.bits IntKind.u32)) - (1 : Int)))) t18 t19 (IntKind.wrap IntKind.i64 (t20 + (1 : Int)))) ∧
      (m_bits_remainder_0 t5 t6 (bits BinOp.and IntKind.u32 (IntKind.wrap IntKind.u32 (t7 * (2 : Int) ^ min (1 : Nat) (IntKind.bits IntKind.u32))) (IntKind.wrap IntKind.u32 (IntKind.wrap IntKind.u32 ((1 : Int) * (2 : Int) ^ min (Int.toNat t5) (IntKind.bits IntKind.u32)) - (1 : Int)))) t18 t19 (IntKind.wrap IntKind.i64 (t20 + (1 : Int))) < m) ∧
      o_bits_remainder_0 t5 t6 (bits BinOp.and IntKind.u32 (IntKind.wrap IntKind.u32 (t7 * (2 : Int) ^ min (1 : Nat) (IntKind.bits IntKind.u32))) (IntKind.wrap IntKind.u32 (IntKind.wrap IntKind.u32 ((1 : Int) * (2 : Int) ^ min (Int.toNat t5) (IntKind.bits IntKind.u32)) - (1 : Int)))) t18 t19 (IntKind.wrap IntKind.i64 (t20 + (1 : Int))) K))
    (X_bits_remainder_0_0 (t5) (t7) K))
theorem R_bits_remainder_0 (t5 : Int) (t6 : Int) (t7 : Int) (t18 : (List Int)) (t19 : Int) (t20 : Int) (m : Nat) (K : AExit → St → Prop) : awp E_bits_remainder (loopAt (bodyOf Try.f113) 0) 0 (roundP E_bits_remainder 0 L_bits_remainder_0 m K) (L_bits_remainder_0.abs (t5, t6, t7, t18, t19, t20, ()) (())) = B_bits_remainder_0 t5 t6 t7 t18 t19 t20 m K := by kernel_rfl
theorem I_bits_remainder_0 (h : ∀ (t5 : Int) (t6 : Int) (t7 : Int) (t18 : (List Int)) (t19 : Int) (t20 : Int) (K : AExit → St → Prop), p_bits_remainder_0 t5 t6 t7 t18 t19 t20 → o_bits_remainder_0 t5 t6 t7 t18 t19 t20 K → B_bits_remainder_0 t5 t6 t7 t18 t19 t20 (m_bits_remainder_0 t5 t6 t7 t18 t19 t20) K) : LoopOK E_bits_remainder 0 (loopAt (bodyOf Try.f113) 0) L_bits_remainder_0 :=
  fun x y K hp ho => match x, y, hp, ho with | (t5, t6, t7, t18, t19, t20, ()), (), hp, ho => (R_bits_remainder_0 t5 t6 t7 t18 t19 t20 (m_bits_remainder_0 t5 t6 t7 t18 t19 t20) K).mpr (h t5 t6 t7 t18 t19 t20 K hp ho)
def B_bits_remainder_2 (t5 : Int) (t7 : Int) (t47 : Int) (t48 : Int) (r0 : (List Int)) (m : Nat) (K : AExit → St → Prop) : Prop := (
  condP (decide (t48 < t47))
    (((0 : Int) ≤ IntKind.wrap IntKind.i64 (IntKind.wrap IntKind.i64 (t5 - (1 : Int)) - t48)) ∧
    ((0 : Int) ≤ t48) ∧
    (t48 < (↑(List.length r0) : Int)) ∧
    (p_bits_remainder_2 t5 t7 t47 (IntKind.wrap IntKind.i64 (t48 + (1 : Int))) (List.set r0 (Int.toNat t48) (IntKind.wrap IntKind.u8 (bits BinOp.and IntKind.u32 (Int.fdiv t7 ((2 : Int) ^ min (Int.toNat (IntKind.wrap IntKind.i64 (IntKind.wrap IntKind.i64 (t5 - (1 : Int)) - t48))) (IntKind.bits IntKind.u32))) (1 : Int))))) ∧
    (m_bits_remainder_2 t5 t7 t47 (IntKind.wrap IntKind.i64 (t48 + (1 : Int))) (List.set r0 (Int.toNat t48) (IntKind.wrap IntKind.u8 (bits BinOp.and IntKind.u32 (Int.fdiv t7 ((2 : Int) ^ min (Int.toNat (IntKind.wrap IntKind.i64 (IntKind.wrap IntKind.i64 (t5 - (1 : Int)) - t48))) (IntKind.bits IntKind.u32))) (1 : Int)))) < m) ∧
    o_bits_remainder_2 t5 t7 t47 (IntKind.wrap IntKind.i64 (t48 + (1 : Int))) (List.set r0 (Int.toNat t48) (IntKind.wrap IntKind.u8 (bits BinOp.and IntKind.u32 (Int.fdiv t7 ((2 : Int) ^ min (Int.toNat (IntKind.wrap IntKind.i64 (IntKind.wrap IntKind.i64 (t5 - (1 : Int)) - t48))) (IntKind.bits IntKind.u32))) (1 : Int)))) K)
    (X_bits_remainder_2_0 (r0) K))
theorem R_bits_remainder_2 (t5 : Int) (t7 : Int) (t47 : Int) (t48 : Int) (r0 : (List Int)) (m : Nat) (K : AExit → St → Prop) : awp E_bits_remainder (loopAt (bodyOf Try.f113) 2) 2 (roundP E_bits_remainder 2 L_bits_remainder_2 m K) (L_bits_remainder_2.abs (t5, t7, t47, t48, ()) (r0, ())) = B_bits_remainder_2 t5 t7 t47 t48 r0 m K := by kernel_rfl
theorem I_bits_remainder_2 (h : ∀ (t5 : Int) (t7 : Int) (t47 : Int) (t48 : Int) (r0 : (List Int)) (K : AExit → St → Prop), p_bits_remainder_2 t5 t7 t47 t48 r0 → o_bits_remainder_2 t5 t7 t47 t48 r0 K → B_bits_remainder_2 t5 t7 t47 t48 r0 (m_bits_remainder_2 t5 t7 t47 t48 r0) K) : LoopOK E_bits_remainder 2 (loopAt (bodyOf Try.f113) 2) L_bits_remainder_2 :=
  fun x y K hp ho => match x, y, hp, ho with | (t5, t7, t47, t48, ()), (r0, ()), hp, ho => (R_bits_remainder_2 t5 t7 t47 t48 r0 (m_bits_remainder_2 t5 t7 t47 t48 r0) K).mpr (h t5 t7 t47 t48 r0 K hp ho)
theorem G_bits_remainder : loopsAll E_bits_remainder (loopList (bodyOf Try.f113) 0) = (LoopOK E_bits_remainder 0 (loopAt (bodyOf Try.f113) 0) L_bits_remainder_0 ∧ LoopOK E_bits_remainder 2 (loopAt (bodyOf Try.f113) 2) L_bits_remainder_2 ∧ True) := by kernel_rfl
theorem envok_bits_remainder (h_bits_divisor : SumOK Try.prog 126 S_bits_divisor) : EnvOK E_bits_remainder := ⟨sumsOf_ok (List.forall_mem_cons.2 ⟨h_bits_divisor, (fun _ h => nomatch h)⟩), follows⟩
theorem whole_bits_remainder (h_bits_divisor : SumOK Try.prog 126 S_bits_divisor) (l0 : LoopOK E_bits_remainder 0 (loopAt (bodyOf Try.f113) 0) L_bits_remainder_0) (l2 : LoopOK E_bits_remainder 2 (loopAt (bodyOf Try.f113) 2) L_bits_remainder_2) (main : ∀ (a0 : (List Int)) (a1 : Int), (Bits a0 ∧ (↑(List.length a0) : Int) ≤ big ∧ sW a1 ≠ (0 : Nat)) → W_bits_remainder a0 a1) : SumOK Try.prog 113 S_bits_remainder :=
  fun_sound (E := E_bits_remainder) (envok_bits_remainder h_bits_divisor) (fn := Try.f113) (c := bodyOf Try.f113) (ts := [(4, none)]) S_bits_remainder Try.func113 (body_some (by kernel_rfl)) (by kernel_rfl) (by kernel_rfl) (by kernel_rfl) (G_bits_remainder.mpr ⟨l0, l2, trivial⟩) (fun x hp => match x, hp with | (a0, a1, ()), hp => (V_bits_remainder a0 a1).mpr (main a0 a1 hp))
/-! ### slices_Grow_byte_byte -/
noncomputable def E_slices_Grow_byte_byte : Env := { P := Try.prog, sum := sumsOf [], nio := 0, head := fun b => ([], []), after := fun _ => none, leave := fun b => [], loops := fun b => none }
def W_slices_Grow_byte_byte (a0 : Unit) (a1 : Int) : Prop := (
  condP (decide (a1 < (0 : Int)))
    ((False) ∧
    condP (decide (IntKind.wrap IntKind.i64 (a1 - IntKind.wrap IntKind.i64 ((0 : Int) - (0 : Int))) > (0 : Int)))
      (((0 : Int) ≤ (0 : Int)) ∧
      ((0 : Int) ≤ (0 : Int)) ∧
      ((0 : Int) ≤ (↑(0 : Nat) : Int)) ∧
      ((0 : Int) ≤ IntKind.wrap IntKind.i64 (a1 - IntKind.wrap IntKind.i64 ((0 : Int) - (0 : Int)))) ∧
      (IntKind.wrap IntKind.i64 (a1 - IntKind.wrap IntKind.i64 ((0 : Int) - (0 : Int))) ≤ (140737488355328 : Int)) ∧
      (List.length (List.replicate (Int.toNat (IntKind.wrap IntKind.i64 (a1 - IntKind.wrap IntKind.i64 ((0 : Int) - (0 : Int))))) (0 : Int)) * (1 : Nat) ≤ (140737488355328 : Nat)) ∧
      ((0 : Int) ≤ (0 : Int)) ∧
      ((0 : Int) ≤ (0 : Int)) ∧
      ((0 : Int) ≤ (↑(List.length (List.replicate (Int.toNat (IntKind.wrap IntKind.i64 (a1 - IntKind.wrap IntKind.i64 ((0 : Int) - (0 : Int))))) (0 : Int))) : Int)) ∧
      (cutL (List.replicate (Int.toNat (IntKind.wrap IntKind.i64 (a1 - IntKind.wrap IntKind.i64 ((0 : Int) - (0 : Int))))) (0 : Int)) none (some (0 : Int)) = nilL) ∧
      True)
      (([] = nilL) ∧
      True))
    (condP (decide (IntKind.wrap IntKind.i64 (a1 - IntKind.wrap IntKind.i64 ((0 : Int) - (0 : Int))) > (0 : Int)))
      (((0 : Int) ≤ (0 : Int)) ∧
      ((0 : Int) ≤ (0 : Int)) ∧
      ((0 : Int) ≤ (↑(0 : Nat) : Int)) ∧
      ((0 : Int) ≤ IntKind.wrap IntKind.i64 (a1 - IntKind.wrap IntKind.i64 ((0 : Int) - (0 : Int)))) ∧
      (IntKind.wrap IntKind.i64 (a1 - IntKind.wrap IntKind.i64 ((0 : Int) - (0 : Int))) ≤ (140737488355328 : Int)) ∧
      (List.length (List.replicate (Int.toNat (IntKind.wrap IntKind.i64 (a1 - IntKind.wrap IntKind.i64 ((0 : Int) - (0 : Int))))) (0 : Int)) * (1 : Nat) ≤ (140737488355328 : Nat)) ∧
      ((0 : Int) ≤ (0 : Int)) ∧
      ((0 : Int) ≤ (0 : Int)) ∧
      ((0 : Int) ≤ (↑(List.length (List.replicate (Int.toNat (IntKind.wrap IntKind.i64 (a1 - IntKind.wrap IntKind.i64 ((0 : Int) - (0 : Int))))) (0 : Int))) : Int)) ∧
      (cutL (List.replicate (Int.toNat (IntKind.wrap IntKind.i64 (a1 - IntKind.wrap IntKind.i64 ((0 : Int) - (0 : Int))))) (0 : Int)) none (some (0 : Int)) = nilL) ∧
      True)
      (([] = nilL) ∧
      True)))
theorem V_slices_Grow_byte_byte (a0 : Unit) (a1 : Int) : awp E_slices_Grow_byte_byte (bodyOf Try.f125) 0 (fin Try.prog S_slices_Grow_byte_byte (a0, a1, ()) [(4, none)] 0) (initSt S_slices_Grow_byte_byte.par (a0, a1, ()) 27) = W_slices_Grow_byte_byte a0 a1 := by kernel_rfl
theorem G_slices_Grow_byte_byte : loopsAll E_slices_Grow_byte_byte (loopList (bodyOf Try.f125) 0) = (True) := by kernel_rfl
theorem envok_slices_Grow_byte_byte  : EnvOK E_slices_Grow_byte_byte := ⟨sumsOf_ok (fun _ h => nomatch h), follows⟩
theorem whole_slices_Grow_byte_byte   (main : ∀ (a0 : Unit) (a1 : Int), ((0 : Int) ≤ a1 ∧ a1 ≤ (140737488355328 : Int)) → W_slices_Grow_byte_byte a0 a1) : SumOK Try.prog 125 S_slices_Grow_byte_byte :=
  fun_sound (E := E_slices_Grow_byte_byte) (envok_slices_Grow_byte_byte ) (fn := Try.f125) (c := bodyOf Try.f125) (ts := [(4, none)]) S_slices_Grow_byte_byte Try.func125 (body_some (by kernel_rfl)) (by kernel_rfl) (by kernel_rfl) (by kernel_rfl) (G_slices_Grow_byte_byte.mpr trivial) (fun x hp => match x, hp with | (a0, a1, ()), hp => (V_slices_Grow_byte_byte a0 a1).mpr (main a0 a1 hp))
/-! ### slices_Concat_byte_byte -/
def L_slices_Concat_byte_byte_0 : Lift.Loop := Lift.Loop.mk (.v (.ro (.ro (.int .u8))) :: (u 2 ++ (.v (.int .i64) :: (u 5 ++ (.v (.ro (.ro (.int .u8))) :: (.v (.int .i64) :: (.v (.int .i64) :: (u 24)))))))) [] 0 (fun x y => p_slices_Concat_byte_byte_0 x.1 x.2.1 x.2.2.1 x.2.2.2.1 x.2.2.2.2.1) (fun x y => m_slices_Concat_byte_byte_0 x.1 x.2.1 x.2.2.1 x.2.2.2.1 x.2.2.2.2.1) (fun x y K => o_slices_Concat_byte_byte_0 x.1 x.2.1 x.2.2.1 x.2.2.2.1 x.2.2.2.2.1 K)
def L_slices_Concat_byte_byte_2 : Lift.Loop := Lift.Loop.mk (u 6 ++ (.sl 0 :: (u 18 ++ (.v (.ro (.ro (.int .u8))) :: (.v (.int .i64) :: (.v (.int .i64) :: (u 8))))))) [(0, .row (.int .u8))] 1 (fun x y => p_slices_Concat_byte_byte_2 x.1 x.2.1 x.2.2.1 y.1) (fun x y => m_slices_Concat_byte_byte_2 x.1 x.2.1 x.2.2.1 y.1) (fun x y K => o_slices_Concat_byte_byte_2 x.1 x.2.1 x.2.2.1 y.1 K)
noncomputable def E_slices_Concat_byte_byte : Env := { P := Try.prog, sum := sumsOf [(125, S_slices_Grow_byte_byte)], nio := 0, head := fun b => if b = 2 then ([6, 25, 26, 27], []) else if b = 0 then ([0, 3, 9, 10, 11], []) else ([], []), after := fun _ => none, leave := fun b => if b = 2 then [2, 6] else if b = 0 then [0, 2, 3] else [], loops := fun b => if b = 2 then some L_slices_Concat_byte_byte_2 else if b = 0 then some L_slices_Concat_byte_byte_0 else none }
def W_slices_Concat_byte_byte (a0 : (List (List Int))) : Prop := (
  (p_slices_Concat_byte_byte_0 a0 (0 : Int) a0 (↑(List.length a0) : Int) (0 : Int)) ∧
  ((0 : Int) ≤ (↑(List.length (List.flatten a0)) : Int) ∧ (↑(List.length (List.flatten a0)) : Int) ≤ (140737488355328 : Int)) ∧
  (p_slices_Concat_byte_byte_2 a0 (↑(List.length a0) : Int) (0 : Int) nilL) ∧
  (List.flatten a0 = List.flatten a0) ∧
  True)
theorem V_slices_Concat_byte_byte (a0 : (List (List Int))) : awp E_slices_Concat_byte_byte (bodyOf Try.f110) 0 (fin Try.prog S_slices_Concat_byte_byte (a0, ()) [(2, none)] 0) (initSt S_slices_Concat_byte_byte.par (a0, ()) 36) = W_slices_Concat_byte_byte a0 := by kernel_rfl
def B_slices_Concat_byte_byte_0 (t0 : (List (List Int))) (t3 : Int) (t9 : (List (List Int))) (t10 : Int) (t11 : Int) (m : Nat) (K : AExit → St → Prop) : Prop := (
  condP (decide (t11 < t10))
    (((0 : Int) ≤ t11) ∧
    (t11 < (↑(List.length t9) : Int)) ∧
    condP (decide (IntKind.wrap IntKind.i64 (t3 + (↑(List.length (List.getD t9 (Int.toNat t11) [])) : Int)) < (0 : Int)))
      ((False) ∧
      (p_slices_Concat_byte_byte_0 t0 (IntKind.wrap IntKind.i64 (t3 + (↑(List.length (List.getD t9 (Int.toNat t11) [])) : Int))) t9 t10 (IntKind.wrap IntKind.i64 (t11 + (1 : Int)))) ∧
      (m_slices_Concat_byte_byte_0 t0 (IntKind.wrap IntKind.i64 (t3 + (↑(List.length (List.getD t9 (Int.toNat t11) [])) : Int))) t9 t10 (IntKind.wrap IntKind.i64 (t11 + (1 : Int))) < m) ∧
      o_slices_Concat_byte_byte_0 t0 (IntKind.wrap IntKind.i64 (t3 + (↑(List.length (List.getD t9 (Int.toNat t11) [])) : Int))) t9 t10 (IntKind.wrap IntKind.i64 (t11 + (1 : Int))) K)
      ((p_slices_Concat_byte_byte_0 t0 (IntKind.wrap IntKind.i64 (t3 + (↑(List.length (List.getD t9 (Int.toNat t11) [])) : Int))) t9 t10 (IntKind.wrap IntKind.i64 (t11 + (1 : Int)))) ∧
      (m_slices_Concat_byte_byte_0 t0 (IntKind.wrap IntKind.i64 (t3 + (↑(List.length (List.getD t9 (Int.toNat t11) [])) : Int))) t9 t10 (IntKind.wrap IntKind.i64 (t11 + (1 : Int))) < m) ∧
      o_slices_Concat_byte_byte_0 t0 (IntKind.wrap IntKind.i64 (t3 + (↑(List.length (List.getD t9 (Int.toNat t11) [])) : Int))) t9 t10 (IntKind.wrap IntKind.i64 (t11 + (1 : Int))) K))
    (X_slices_Concat_byte_byte_0_0 (t0) (t3) K))
theorem R_slices_Concat_byte_byte_0 (t0 : (List (List Int))) (t3 : Int) (t9 : (List (List Int))) (t10 : Int) (t11 : Int) (m : Nat) (K : AExit → St → Prop) : awp E_slices_Concat_byte_byte (loopAt (bodyOf Try.f110) 0) 0 (roundP E_slices_Concat_byte_byte 0 L_slices_Concat_byte_byte_0 m K) (L_slices_Concat_byte_byte_0.abs (t0, t3, t9, t10, t11, ()) (())) = B_slices_Concat_byte_byte_0 t0 t3 t9 t10 t11 m K := by kernel_rfl
theorem I_slices_Concat_byte_byte_0 (h : ∀ (t0 : (List (List Int))) (t3 : Int) (t9 : (List (List Int))) (t10 : Int) (t11 : Int) (K : AExit → St → Prop), p_slices_Concat_byte_byte_0 t0 t3 t9 t10 t11 → o_slices_Concat_byte_byte_0 t0 t3 t9 t10 t11 K → B_slices_Concat_byte_byte_0 t0 t3 t9 t10 t11 (m_slices_Concat_byte_byte_0 t0 t3 t9 t10 t11) K) : LoopOK E_slices_Concat_byte_byte 0 (loopAt (bodyOf Try.f110) 0) L_slices_Concat_byte_byte_0 :=
  fun x y K hp ho => match x, y, hp, ho with | (t0, t3, t9, t10, t11, ()), (), hp, ho => (R_slices_Concat_byte_byte_0 t0 t3 t9 t10 t11 (m_slices_Concat_byte_byte_0 t0 t3 t9 t10 t11) K).mpr (h t0 t3 t9 t10 t11 K hp ho)
def B_slices_Concat_byte_byte_2 (t25 : (List (List Int))) (t26 : Int) (t27 : Int) (r0 : (List Int)) (m : Nat) (K : AExit → St → Prop) : Prop := (
  condP (decide (t27 < t26))
    (((0 : Int) ≤ t27) ∧
    (t27 < (↑(List.length t25) : Int)) ∧
    ((List.length r0 + List.length (List.getD t25 (Int.toNat t27) [])) * (1 : Nat) ≤ (140737488355328 : Nat)) ∧
    (p_slices_Concat_byte_byte_2 t25 t26 (IntKind.wrap IntKind.i64 (t27 + (1 : Int))) (List.append r0 (List.getD t25 (Int.toNat t27) []))) ∧
    (m_slices_Concat_byte_byte_2 t25 t26 (IntKind.wrap IntKind.i64 (t27 + (1 : Int))) (List.append r0 (List.getD t25 (Int.toNat t27) [])) < m) ∧
    o_slices_Concat_byte_byte_2 t25 t26 (IntKind.wrap IntKind.i64 (t27 + (1 : Int))) (List.append r0 (List.getD t25 (Int.toNat t27) [])) K)
    (X_slices_Concat_byte_byte_2_0 (r0) K))
theorem R_slices_Concat_byte_byte_2 (t25 : (List (List Int))) (t26 : Int) (t27 : Int) (r0 : (List Int)) (m : Nat) (K : AExit → St → Prop) : awp E_slices_Concat_byte_byte (loopAt (bodyOf Try.f110) 2) 2 (roundP E_slices_Concat_byte_byte 2 L_slices_Concat_byte_byte_2 m K) (L_slices_Concat_byte_byte_2.abs (t25, t26, t27, ()) (r0, ())) = B_slices_Concat_byte_byte_2 t25 t26 t27 r0 m K := by kernel_rfl
theorem I_slices_Concat_byte_byte_2 (h : ∀ (t25 : (List (List Int))) (t26 : Int) (t27 : Int) (r0 : (List Int)) (K : AExit → St → Prop), p_slices_Concat_byte_byte_2 t25 t26 t27 r0 → o_slices_Concat_byte_byte_2 t25 t26 t27 r0 K → B_slices_Concat_byte_byte_2 t25 t26 t27 r0 (m_slices_Concat_byte_byte_2 t25 t26 t27 r0) K) : LoopOK E_slices_Concat_byte_byte 2 (loopAt (bodyOf Try.f110) 2) L_slices_Concat_byte_byte_2 :=
  fun x y K hp ho => match x, y, hp, ho with | (t25, t26, t27, ()), (r0, ()), hp, ho => (R_slices_Concat_byte_byte_2 t25 t26 t27 r0 (m_slices_Concat_byte_byte_2 t25 t26 t27 r0) K).mpr (h t25 t26 t27 r0 K hp ho)
theorem G_slices_Concat_byte_byte : loopsAll E_slices_Concat_byte_byte (loopList (bodyOf Try.f110) 0) = (LoopOK E_slices_Concat_byte_byte 0 (loopAt (bodyOf Try.f110) 0) L_slices_Concat_byte_byte_0 ∧ LoopOK E_slices_Concat_byte_byte 2 (loopAt (bodyOf Try.f110) 2) L_slices_Concat_byte_byte_2 ∧ True) := by kernel_rfl
theorem envok_slices_Concat_byte_byte (h_slices_Grow_byte_byte : SumOK Try.prog 125 S_slices_Grow_byte_byte) : EnvOK E_slices_Concat_byte_byte := ⟨sumsOf_ok (List.forall_mem_cons.2 ⟨h_slices_Grow_byte_byte, (fun _ h => nomatch h)⟩), follows⟩
theorem whole_slices_Concat_byte_byte (h_slices_Grow_byte_byte : SumOK Try.prog 125 S_slices_Grow_byte_byte) (l0 : LoopOK E_slices_Concat_byte_byte 0 (loopAt (bodyOf Try.f110) 0) L_slices_Concat_byte_byte_0) (l2 : LoopOK E_slices_Concat_byte_byte 2 (loopAt (bodyOf Try.f110) 2) L_slices_Concat_byte_byte_2) (main : ∀ (a0 : (List (List Int))), (List.length a0 ≤ (1000 : Nat) ∧ List.length (List.flatten a0) ≤ (140737488355328 : Nat)) → W_slices_Concat_byte_byte a0) : SumOK Try.prog 110 S_slices_Concat_byte_byte :=
  fun_sound (E := E_slices_Concat_byte_byte) (envok_slices_Concat_byte_byte h_slices_Grow_byte_byte) (fn := Try.f110) (c := bodyOf Try.f110) (ts := [(2, none)]) S_slices_Concat_byte_byte Try.func110 (body_some (by kernel_rfl)) (by kernel_rfl) (by kernel_rfl) (by kernel_rfl) (G_slices_Concat_byte_byte.mpr ⟨l0, l2, trivial⟩) (fun x hp => match x, hp with | (a0, ()), hp => (V_slices_Concat_byte_byte a0).mpr (main a0 hp))
/-! ### slices_Equal_byte_byte -/
def L_slices_Equal_byte_byte_0 : Lift.Loop := Lift.Loop.mk (.v (.ro (.int .u8)) :: (.v (.ro (.int .u8)) :: (u 10 ++ (.v (.int .i64) :: (.v (.int .i64) :: (u 12)))))) [] 0 (fun x y => p_slices_Equal_byte_byte_0 x.1 x.2.1 x.2.2.1 x.2.2.2.1) (fun x y => m_slices_Equal_byte_byte_0 x.1 x.2.1 x.2.2.1 x.2.2.2.1) (fun x y K => o_slices_Equal_byte_byte_0 x.1 x.2.1 x.2.2.1 x.2.2.2.1 K)
noncomputable def E_slices_Equal_byte_byte : Env := { P := Try.prog, sum := sumsOf [], nio := 0, head := fun b => if b = 0 then ([0, 1, 12, 13], []) else ([], []), after := fun _ => none, leave := fun b => if b = 0 then [4] else [], loops := fun b => if b = 0 then some L_slices_Equal_byte_byte_0 else none }
def W_slices_Equal_byte_byte (a0 : (List Int)) (a1 : (List Int)) : Prop := (
  condP ((↑(List.length a0) : Int) != (↑(List.length a1) : Int))
    ((false = decide (a0 = a1)) ∧
    True)
    ((p_slices_Equal_byte_byte_0 a0 a1 (↑(List.length a0) : Int) (0 : Int)) ∧
    condP (decide (List.drop (0 : Nat) a0 = List.drop (0 : Nat) a1))
      ((true = decide (a0 = a1)) ∧
      True)
      ((false = decide (a0 = a1)) ∧
      True)))
theorem V_slices_Equal_byte_byte (a0 : (List Int)) (a1 : (List Int)) : awp E_slices_Equal_byte_byte (bodyOf Try.f112) 0 (fin Try.prog S_slices_Equal_byte_byte (a0, a1, ()) [(4, none)] 0) (initSt S_slices_Equal_byte_byte.par (a0, a1, ()) 26) = W_slices_Equal_byte_byte a0 a1 := by kernel_rfl
def B_slices_Equal_byte_byte_0 (t0 : (List Int)) (t1 : (List Int)) (t12 : Int) (t13 : Int) (m : Nat) (K : AExit → St → Prop) : Prop := (
  condP (decide (t13 < t12))
    (((0 : Int) ≤ t13) ∧
    (t13 < (↑(List.length t0) : Int)) ∧
    ((0 : Int) ≤ t13) ∧
    (t13 < (↑(List.length t1) : Int)) ∧
    condP (List.getD t0 (Int.toNat t13) (0 : Int) != List.getD t1 (Int.toNat t13) (0 : Int))
      (X_slices_Equal_byte_byte_0_0 (false) K)
      ((p_slices_Equal_byte_byte_0 t0 t1 t12 (IntKind.wrap IntKind.i64 (t13 + (1 : Int)))) ∧
      (m_slices_Equal_byte_byte_0 t0 t1 t12 (IntKind.wrap IntKind.i64 (t13 + (1 : Int))) < m) ∧
      o_slices_Equal_byte_byte_0 t0 t1 t12 (IntKind.wrap IntKind.i64 (t13 + (1 : Int))) K))
    (X_slices_Equal_byte_byte_0_1  K))
theorem R_slices_Equal_byte_byte_0 (t0 : (List Int)) (t1 : (List Int)) (t12 : Int) (t13 : Int) (m : Nat) (K : AExit → St → Prop) : awp E_slices_Equal_byte_byte (loopAt (bodyOf Try.f112) 0) 0 (roundP E_slices_Equal_byte_byte 0 L_slices_Equal_byte_byte_0 m K) (L_slices_Equal_byte_byte_0.abs (t0, t1, t12, t13, ()) (())) = B_slices_Equal_byte_byte_0 t0 t1 t12 t13 m K := by kernel_rfl
theorem I_slices_Equal_byte_byte_0 (h : ∀ (t0 : (List Int)) (t1 : (List Int)) (t12 : Int) (t13 : Int) (K : AExit → St → Prop), p_slices_Equal_byte_byte_0 t0 t1 t12 t13 → o_slices_Equal_byte_byte_0 t0 t1 t12 t13 K → B_slices_Equal_byte_byte_0 t0 t1 t12 t13 (m_slices_Equal_byte_byte_0 t0 t1 t12 t13) K) : LoopOK E_slices_Equal_byte_byte 0 (loopAt (bodyOf Try.f112) 0) L_slices_Equal_byte_byte_0 :=
  fun x y K hp ho => match x, y, hp, ho with | (t0, t1, t12, t13, ()), (), hp, ho => (R_slices_Equal_byte_byte_0 t0 t1 t12 t13 (m_slices_Equal_byte_byte_0 t0 t1 t12 t13) K).mpr (h t0 t1 t12 t13 K hp ho)
theorem G_slices_Equal_byte_byte : loopsAll E_slices_Equal_byte_byte (loopList (bodyOf Try.f112) 0) = (LoopOK E_slices_Equal_byte_byte 0 (loopAt (bodyOf Try.f112) 0) L_slices_Equal_byte_byte_0 ∧ True) := by kernel_rfl
theorem envok_slices_Equal_byte_byte  : EnvOK E_slices_Equal_byte_byte := ⟨sumsOf_ok (fun _ h => nomatch h), follows⟩
theorem whole_slices_Equal_byte_byte  (l0 : LoopOK E_slices_Equal_byte_byte 0 (loopAt (bodyOf Try.f112) 0) L_slices_Equal_byte_byte_0) (main : ∀ (a0 : (List Int)) (a1 : (List Int)), ((↑(List.length a0) : Int) ≤ big) → W_slices_Equal_byte_byte a0 a1) : SumOK Try.prog 112 S_slices_Equal_byte_byte :=
  fun_sound (E := E_slices_Equal_byte_byte) (envok_slices_Equal_byte_byte ) (fn := Try.f112) (c := bodyOf Try.f112) (ts := [(4, none)]) S_slices_Equal_byte_byte Try.func112 (body_some (by kernel_rfl)) (by kernel_rfl) (by kernel_rfl) (by kernel_rfl) (G_slices_Equal_byte_byte.mpr ⟨l0, trivial⟩) (fun x hp => match x, hp with | (a0, a1, ()), hp => (V_slices_Equal_byte_byte a0 a1).mpr (main a0 a1 hp))
/-! ### bits_Sum -/
noncomputable def E_bits_Sum : Env := { P := Try.prog, sum := sumsOf [(74, S_bits_Check), (111, S_bits_Width), (113, S_bits_remainder)], nio := 0, head := fun b => ([], []), after := fun _ => none, leave := fun b => [], loops := fun b => none }
def W_bits_Sum (a0 : (List Int)) (a1 : Int) : Prop := (
  ((↑(List.length a0) : Int) ≤ big ∧ ∀ (y : Int), y ∈ a0 → (0 : Int) ≤ y) ∧
  condP (bitsErr a0 != (0 : Int))
    (([] = sumOf a0 a1) ∧
    (bitsErr a0 = sumErr a0 a1) ∧
    True)
    ((True) ∧
    condP ((↑(sW a1) : Int) == (0 : Int))
      (([] = sumOf a0 a1) ∧
      ((1 : Int) = sumErr a0 a1) ∧
      True)
      ((Bits a0 ∧ (↑(List.length a0) : Int) ≤ big ∧ sW a1 ≠ (0 : Nat)) ∧
      (sumL a0 a1 = sumOf a0 a1) ∧
      ((0 : Int) = sumErr a0 a1) ∧
      True)))
theorem V_bits_Sum (a0 : (List Int)) (a1 : Int) : awp E_bits_Sum (bodyOf Try.f109) 0 (fin Try.prog S_bits_Sum (a0, a1, ()) [(4, none), (5, none)] 0) (initSt S_bits_Sum.par (a0, a1, ()) 18) = W_bits_Sum a0 a1 := by kernel_rfl
theorem G_bits_Sum : loopsAll E_bits_Sum (loopList (bodyOf Try.f109) 0) = (True) := by kernel_rfl
theorem envok_bits_Sum (h_bits_Check : SumOK Try.prog 74 S_bits_Check) (h_bits_Width : SumOK Try.prog 111 S_bits_Width) (h_bits_remainder : SumOK Try.prog 113 S_bits_remainder) : EnvOK E_bits_Sum := ⟨sumsOf_ok (List.forall_mem_cons.2 ⟨h_bits_Check, (List.forall_mem_cons.2 ⟨h_bits_Width, (List.forall_mem_cons.2 ⟨h_bits_remainder, (fun _ h => nomatch h)⟩)⟩)⟩), follows⟩
theorem whole_bits_Sum (h_bits_Check : SumOK Try.prog 74 S_bits_Check) (h_bits_Width : SumOK Try.prog 111 S_bits_Width) (h_bits_remainder : SumOK Try.prog 113 S_bits_remainder)  (main : ∀ (a0 : (List Int)) (a1 : Int), ((↑(List.length a0) : Int) ≤ big ∧ ∀ (y : Int), y ∈ a0 → (0 : Int) ≤ y) → W_bits_Sum a0 a1) : SumOK Try.prog 109 S_bits_Sum :=
  fun_sound (E := E_bits_Sum) (envok_bits_Sum h_bits_Check h_bits_Width h_bits_remainder) (fn := Try.f109) (c := bodyOf Try.f109) (ts := [(4, none), (5, none)]) S_bits_Sum Try.func109 (body_some (by kernel_rfl)) (by kernel_rfl) (by kernel_rfl) (by kernel_rfl) (G_bits_Sum.mpr trivial) (fun x hp => match x, hp with | (a0, a1, ()), hp => (V_bits_Sum a0 a1).mpr (main a0 a1 hp))
/-! ### bits_Seal -/
noncomputable def E_bits_Seal : Env := { P := Try.prog, sum := sumsOf [(109, S_bits_Sum), (110, S_slices_Concat_byte_byte)], nio := 0, head := fun b => ([], []), after := fun _ => none, leave := fun b => [], loops := fun b => none }
def W_bits_Seal (a0 : (List Int)) (a1 : Int) : Prop := (
  ((↑(List.length a0) : Int) ≤ big ∧ ∀ (y : Int), y ∈ a0 → (0 : Int) ≤ y) ∧
  condP (sumErr a0 a1 != (0 : Int))
    (([] = sealOf a0 a1) ∧
    (sumErr a0 a1 = sealErr a0 a1) ∧
    True)
    (condP (decide (IntKind.wrap IntKind.i64 ((↑(List.length a0) : Int) + (↑(List.length (sumOf a0 a1)) : Int)) > (4096 : Int)))
      (([] = sealOf a0 a1) ∧
      ((2 : Int) = sealErr a0 a1) ∧
      True)
      ((List.length [a0, sumOf a0 a1] ≤ (1000 : Nat) ∧ List.length (List.flatten [a0, sumOf a0 a1]) ≤ (140737488355328 : Nat)) ∧
      (List.flatten [a0, sumOf a0 a1] = sealOf a0 a1) ∧
      ((0 : Int) = sealErr a0 a1) ∧
      True)))
theorem V_bits_Seal (a0 : (List Int)) (a1 : Int) : awp E_bits_Seal (bodyOf Try.f65) 0 (fin Try.prog S_bits_Seal (a0, a1, ()) [(4, none), (5, none)] 0) (initSt S_bits_Seal.par (a0, a1, ()) 27) = W_bits_Seal a0 a1 := by kernel_rfl
theorem G_bits_Seal : loopsAll E_bits_Seal (loopList (bodyOf Try.f65) 0) = (True) := by kernel_rfl
theorem envok_bits_Seal (h_bits_Sum : SumOK Try.prog 109 S_bits_Sum) (h_slices_Concat_byte_byte : SumOK Try.prog 110 S_slices_Concat_byte_byte) : EnvOK E_bits_Seal := ⟨sumsOf_ok (List.forall_mem_cons.2 ⟨h_bits_Sum, (List.forall_mem_cons.2 ⟨h_slices_Concat_byte_byte, (fun _ h => nomatch h)⟩)⟩), follows⟩
theorem whole_bits_Seal (h_bits_Sum : SumOK Try.prog 109 S_bits_Sum) (h_slices_Concat_byte_byte : SumOK Try.prog 110 S_slices_Concat_byte_byte)  (main : ∀ (a0 : (List Int)) (a1 : Int), ((↑(List.length a0) : Int) ≤ big ∧ ∀ (y : Int), y ∈ a0 → (0 : Int) ≤ y) → W_bits_Seal a0 a1) : SumOK Try.prog 65 S_bits_Seal :=
  fun_sound (E := E_bits_Seal) (envok_bits_Seal h_bits_Sum h_slices_Concat_byte_byte) (fn := Try.f65) (c := bodyOf Try.f65) (ts := [(4, none), (5, none)]) S_bits_Seal Try.func65 (body_some (by kernel_rfl)) (by kernel_rfl) (by kernel_rfl) (by kernel_rfl) (G_bits_Seal.mpr trivial) (fun x hp => match x, hp with | (a0, a1, ()), hp => (V_bits_Seal a0 a1).mpr (main a0 a1 hp))
/-! ### bits_Open -/
noncomputable def E_bits_Open : Env := { P := Try.prog, sum := sumsOf [(74, S_bits_Check), (111, S_bits_Width), (113, S_bits_remainder), (112, S_slices_Equal_byte_byte), (97, S_slices_Clone_byte_byte)], nio := 0, head := fun b => ([], []), after := fun _ => none, leave := fun b => [], loops := fun b => none }
def W_bits_Open (a0 : (List Int)) (a1 : Int) : Prop := (
  ((↑(List.length a0) : Int) ≤ big ∧ ∀ (y : Int), y ∈ a0 → (0 : Int) ≤ y) ∧
  condP (bitsErr a0 != (0 : Int))
    (([] = openOf a0 a1) ∧
    (false = openOk a0 a1) ∧
    (bitsErr a0 = sumErr a0 a1) ∧
    True)
    ((True) ∧
    condP ((↑(sW a1) : Int) == (0 : Int))
      (([] = openOf a0 a1) ∧
      (false = openOk a0 a1) ∧
      ((1 : Int) = sumErr a0 a1) ∧
      True)
      ((decide (IntKind.wrap IntKind.i64 ((↑(List.length a0) : Int) - (↑(sW a1) : Int)) < (0 : Int)) = false → (0 : Int) ≤ (0 : Int)) ∧
      (decide (IntKind.wrap IntKind.i64 ((↑(List.length a0) : Int) - (↑(sW a1) : Int)) < (0 : Int)) = false → (0 : Int) ≤ IntKind.wrap IntKind.i64 ((↑(List.length a0) : Int) - (↑(sW a1) : Int))) ∧
      (decide (IntKind.wrap IntKind.i64 ((↑(List.length a0) : Int) - (↑(sW a1) : Int)) < (0 : Int)) = false → IntKind.wrap IntKind.i64 ((↑(List.length a0) : Int) - (↑(sW a1) : Int)) ≤ (↑(List.length a0) : Int)) ∧
      (decide (IntKind.wrap IntKind.i64 ((↑(List.length a0) : Int) - (↑(sW a1) : Int)) < (0 : Int)) = false → Bits (cutL a0 none (some (IntKind.wrap IntKind.i64 ((↑(List.length a0) : Int) - (↑(sW a1) : Int))))) ∧ (↑(List.length (cutL a0 none (some (IntKind.wrap IntKind.i64 ((↑(List.length a0) : Int) - (↑(sW a1) : Int)))))) : Int) ≤ big ∧ sW a1 ≠ (0 : Nat)) ∧
      (decide (IntKind.wrap IntKind.i64 ((↑(List.length a0) : Int) - (↑(sW a1) : Int)) < (0 : Int)) = false → (0 : Int) ≤ IntKind.wrap IntKind.i64 ((↑(List.length a0) : Int) - (↑(sW a1) : Int))) ∧
      (decide (IntKind.wrap IntKind.i64 ((↑(List.length a0) : Int) - (↑(sW a1) : Int)) < (0 : Int)) = false → IntKind.wrap IntKind.i64 ((↑(List.length a0) : Int) - (↑(sW a1) : Int)) ≤ (↑(List.length a0) : Int)) ∧
      (decide (IntKind.wrap IntKind.i64 ((↑(List.length a0) : Int) - (↑(sW a1) : Int)) < (0 : Int)) = false → (↑(List.length a0) : Int) ≤ (↑(List.length a0) : Int)) ∧
      (decide (IntKind.wrap IntKind.i64 ((↑(List.length a0) : Int) - (↑(sW a1) : Int)) < (0 : Int)) = false → (↑(List.length (sumL (cutL a0 none (some (IntKind.wrap IntKind.i64 ((↑(List.length a0) : Int) - (↑(sW a1) : Int))))) a1)) : Int) ≤ big) ∧
      condP (if decide (IntKind.wrap IntKind.i64 ((↑(List.length a0) : Int) - (↑(sW a1) : Int)) < (0 : Int)) = true then true else !decide (sumL (cutL a0 none (some (IntKind.wrap IntKind.i64 ((↑(List.length a0) : Int) - (↑(sW a1) : Int))))) a1 = cutL a0 (some (IntKind.wrap IntKind.i64 ((↑(List.length a0) : Int) - (↑(sW a1) : Int)))) none))
        (([] = openOf a0 a1) ∧
        (false = openOk a0 a1) ∧
        ((0 : Int) = sumErr a0 a1) ∧
        True)
        (((0 : Int) ≤ (0 : Int)) ∧
        ((0 : Int) ≤ IntKind.wrap IntKind.i64 ((↑(List.length a0) : Int) - (↑(sW a1) : Int))) ∧
        (IntKind.wrap IntKind.i64 ((↑(List.length a0) : Int) - (↑(sW a1) : Int)) ≤ (↑(List.length a0) : Int)) ∧
        ((↑(List.length (cutL a0 none (some (IntKind.wrap IntKind.i64 ((↑(List.length a0) : Int) - (↑(sW a1) : Int)))))) : Int) ≤ (140737488355328 : Int)) ∧
        (cutL a0 none (some (IntKind.wrap IntKind.i64 ((↑(List.length a0) : Int) - (↑(sW a1) : Int)))) = openOf a0 a1) ∧
        (true = openOk a0 a1) ∧
        ((0 : Int) = sumErr a0 a1) ∧
        True))))
theorem V_bits_Open (a0 : (List Int)) (a1 : Int) : awp E_bits_Open (bodyOf Try.f67) 0 (fin Try.prog S_bits_Open (a0, a1, ()) [(4, none), (5, none), (6, none)] 0) (initSt S_bits_Open.par (a0, a1, ()) 41) = W_bits_Open a0 a1 := by kernel_rfl
theorem G_bits_Open : loopsAll E_bits_Open (loopList (bodyOf Try.f67) 0) = (True) := by kernel_rfl
theorem envok_bits_Open (h_bits_Check : SumOK Try.prog 74 S_bits_Check) (h_bits_Width : SumOK Try.prog 111 S_bits_Width) (h_bits_remainder : SumOK Try.prog 113 S_bits_remainder) (h_slices_Equal_byte_byte : SumOK Try.prog 112 S_slices_Equal_byte_byte) (h_slices_Clone_byte_byte : SumOK Try.prog 97 S_slices_Clone_byte_byte) : EnvOK E_bits_Open := ⟨sumsOf_ok (List.forall_mem_cons.2 ⟨h_bits_Check, (List.forall_mem_cons.2 ⟨h_bits_Width, (List.forall_mem_cons.2 ⟨h_bits_remainder, (List.forall_mem_cons.2 ⟨h_slices_Equal_byte_byte, (List.forall_mem_cons.2 ⟨h_slices_Clone_byte_byte, (fun _ h => nomatch h)⟩)⟩)⟩)⟩)⟩), follows⟩
theorem whole_bits_Open (h_bits_Check : SumOK Try.prog 74 S_bits_Check) (h_bits_Width : SumOK Try.prog 111 S_bits_Width) (h_bits_remainder : SumOK Try.prog 113 S_bits_remainder) (h_slices_Equal_byte_byte : SumOK Try.prog 112 S_slices_Equal_byte_byte) (h_slices_Clone_byte_byte : SumOK Try.prog 97 S_slices_Clone_byte_byte)  (main : ∀ (a0 : (List Int)) (a1 : Int), ((↑(List.length a0) : Int) ≤ big ∧ ∀ (y : Int), y ∈ a0 → (0 : Int) ≤ y) → W_bits_Open a0 a1) : SumOK Try.prog 67 S_bits_Open :=
  fun_sound (E := E_bits_Open) (envok_bits_Open h_bits_Check h_bits_Width h_bits_remainder h_slices_Equal_byte_byte h_slices_Clone_byte_byte) (fn := Try.f67) (c := bodyOf Try.f67) (ts := [(4, none), (5, none), (6, none)]) S_bits_Open Try.func67 (body_some (by kernel_rfl)) (by kernel_rfl) (by kernel_rfl) (by kernel_rfl) (G_bits_Open.mpr trivial) (fun x hp => match x, hp with | (a0, a1, ()), hp => (V_bits_Open a0 a1).mpr (main a0 a1 hp))
end Go.Spec
