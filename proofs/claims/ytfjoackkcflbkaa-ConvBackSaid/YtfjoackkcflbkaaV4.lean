/- The runs of the functions, told. -/
import Derived.Test.YtfjoackkcflbkaaLF
import Derived.Test.YtfjoackkcflbkaaProg
import Derived.Test.YtfjoackkcflbkaaE4
import Derived.Test.YtfjoackkcflbkaaV1
import Derived.Test.YtfjoackkcflbkaaV2
set_option linter.unusedVariables false
set_option linter.unusedSimpArgs false
namespace Go.Spec
open Go Go.Lift Go.Proofs
attribute [local irreducible] Go.Lift.awp
/-! ### conv_three_1 -/
def L_conv_three_1_0 : Lift.Loop := Lift.Loop.mk (u 4 ++ (.v (.int .u8) :: (.v (.int .i64) :: (u 12)))) [(0, .box (.int .i64))] 2 (fun x y => p_conv_three_1_0 x.1 x.2.1 y.1) (fun x y => m_conv_three_1_0 x.1 x.2.1 y.1) (fun x y K => o_conv_three_1_0 x.1 x.2.1 y.1 K)
noncomputable def E_conv_three_1 : Env := { P := Try.prog, sum := sumsOf [], nio := 1, head := fun b => if b = 0 then ([4, 5], []) else ([], []), after := fun _ => none, leave := fun b => if b = 0 then [3, 4] else [], loops := fun b => if b = 0 then some L_conv_three_1_0 else none }
def W_conv_three_1 (a0 : Int) (a1 : Int) : Prop := (
  (p_conv_three_1_0 (0 : Int) (bits BinOp.and IntKind.i64 a1 a0) a1) ∧
  (((0 : Int) + parI (bits BinOp.and IntKind.i64 a1 a0)) % (2 : Int) = parI (bits BinOp.and IntKind.i64 a1 a0)) ∧
  (a1 = a1) ∧
  True)
theorem V_conv_three_1 (a0 : Int) (a1 : Int) : awp E_conv_three_1 (bodyOf Try.f119) 0 (fin Try.prog S_conv_three_1 (a0, a1, ()) [(3, none)] 1) (initSt S_conv_three_1.par (a0, a1, ()) 18) = W_conv_three_1 a0 a1 := by kernel_rfl
def B_conv_three_1_0 (t4 : Int) (t5 : Int) (r0 : Int) (m : Nat) (K : AExit → St → Prop) : Prop := (
  condP (decide (t5 > (0 : Int)))
    ((p_conv_three_1_0 (bits BinOp.xor IntKind.u8 t4 (1 : Int)) (bits BinOp.and IntKind.i64 t5 (IntKind.wrap IntKind.i64 (t5 - (1 : Int)))) r0) ∧
    (m_conv_three_1_0 (bits BinOp.xor IntKind.u8 t4 (1 : Int)) (bits BinOp.and IntKind.i64 t5 (IntKind.wrap IntKind.i64 (t5 - (1 : Int)))) r0 < m) ∧
    o_conv_three_1_0 (bits BinOp.xor IntKind.u8 t4 (1 : Int)) (bits BinOp.and IntKind.i64 t5 (IntKind.wrap IntKind.i64 (t5 - (1 : Int)))) r0 K)
    (X_conv_three_1_0_0 (t4) (r0) K))
theorem R_conv_three_1_0 (t4 : Int) (t5 : Int) (r0 : Int) (m : Nat) (K : AExit → St → Prop) : awp E_conv_three_1 (loopAt (bodyOf Try.f119) 0) 0 (roundP E_conv_three_1 0 L_conv_three_1_0 m K) (L_conv_three_1_0.abs (t4, t5, ()) (r0, ())) = B_conv_three_1_0 t4 t5 r0 m K := by kernel_rfl
theorem I_conv_three_1_0 (h : ∀ (t4 : Int) (t5 : Int) (r0 : Int) (K : AExit → St → Prop), p_conv_three_1_0 t4 t5 r0 → o_conv_three_1_0 t4 t5 r0 K → B_conv_three_1_0 t4 t5 r0 (m_conv_three_1_0 t4 t5 r0) K) : LoopOK E_conv_three_1 0 (loopAt (bodyOf Try.f119) 0) L_conv_three_1_0 :=
  fun x y K hp ho => match x, y, hp, ho with | (t4, t5, ()), (r0, ()), hp, ho => (R_conv_three_1_0 t4 t5 r0 (m_conv_three_1_0 t4 t5 r0) K).mpr (h t4 t5 r0 K hp ho)
theorem G_conv_three_1 : loopsAll E_conv_three_1 (loopList (bodyOf Try.f119) 0) = (LoopOK E_conv_three_1 0 (loopAt (bodyOf Try.f119) 0) L_conv_three_1_0 ∧ True) := by kernel_rfl
theorem envok_conv_three_1  : EnvOK E_conv_three_1 := ⟨sumsOf_ok (fun _ h => nomatch h), follows⟩
theorem whole_conv_three_1  (l0 : LoopOK E_conv_three_1 0 (loopAt (bodyOf Try.f119) 0) L_conv_three_1_0) (main : ∀ (a0 : Int) (a1 : Int), ((0 : Int) ≤ a0 ∧ a0 < (128 : Int) ∧ (0 : Int) ≤ a1 ∧ a1 < (128 : Int)) → W_conv_three_1 a0 a1) : SumOK Try.prog 119 S_conv_three_1 :=
  fun_sound (E := E_conv_three_1) (envok_conv_three_1 ) (fn := Try.f119) (c := bodyOf Try.f119) (ts := [(3, none)]) S_conv_three_1 Try.func119 (body_some (by kernel_rfl)) (by kernel_rfl) (by kernel_rfl) (by kernel_rfl) (G_conv_three_1.mpr ⟨l0, trivial⟩) (fun x hp => match x, hp with | (a0, a1, ()), hp => (V_conv_three_1 a0 a1).mpr (main a0 a1 hp))
/-! ### conv_three -/
noncomputable def E_conv_three : Env := { P := Try.prog, sum := sumsOf [(119, S_conv_three_1)], nio := 0, head := fun b => ([], []), after := fun _ => none, leave := fun b => [], loops := fun b => none }
def W_conv_three (a0 : Int) : Prop := (
  ((0 : Int) ≤ (121 : Int) ∧ (121 : Int) < (128 : Int) ∧ (0 : Int) ≤ a0 ∧ a0 < (128 : Int)) ∧
  ((0 : Int) ≤ (91 : Int) ∧ (91 : Int) < (128 : Int) ∧ (0 : Int) ≤ a0 ∧ a0 < (128 : Int)) ∧
  ((0 : Int) ≤ (117 : Int) ∧ (117 : Int) < (128 : Int) ∧ (0 : Int) ≤ a0 ∧ a0 < (128 : Int)) ∧
  ([parI (bits BinOp.and IntKind.i64 a0 (121 : Int)), parI (bits BinOp.and IntKind.i64 a0 (91 : Int)), parI (bits BinOp.and IntKind.i64 a0 (117 : Int))] = thr a0) ∧
  True)
theorem V_conv_three (a0 : Int) : awp E_conv_three (bodyOf Try.f94) 0 (fin Try.prog S_conv_three (a0, ()) [(2, some 141)] 0) (initSt S_conv_three.par (a0, ()) 12) = W_conv_three a0 := by kernel_rfl
theorem G_conv_three : loopsAll E_conv_three (loopList (bodyOf Try.f94) 0) = (True) := by kernel_rfl
theorem envok_conv_three (h_conv_three_1 : SumOK Try.prog 119 S_conv_three_1) : EnvOK E_conv_three := ⟨sumsOf_ok (List.forall_mem_cons.2 ⟨h_conv_three_1, (fun _ h => nomatch h)⟩), follows⟩
theorem whole_conv_three (h_conv_three_1 : SumOK Try.prog 119 S_conv_three_1)  (main : ∀ (a0 : Int), ((0 : Int) ≤ a0 ∧ a0 < (128 : Int)) → W_conv_three a0) : SumOK Try.prog 94 S_conv_three :=
  fun_sound (E := E_conv_three) (envok_conv_three h_conv_three_1) (fn := Try.f94) (c := bodyOf Try.f94) (ts := [(2, some 141)]) S_conv_three Try.func94 (body_some (by kernel_rfl)) (by kernel_rfl) (by kernel_rfl) (by kernel_rfl) (G_conv_three.mpr trivial) (fun x hp => match x, hp with | (a0, ()), hp => (V_conv_three a0).mpr (main a0 hp))
/-! ### conv_encode -/
def L_conv_encode_0 : Lift.Loop := Lift.Loop.mk (.v (.ro (.int .u8)) :: (u 2 ++ (.sl 0 :: (.v (.int .i64) :: (u 4 ++ (.v (.int .i64) :: (.v (.int .i64) :: (u 23)))))))) [(0, .row (.int .u8))] 1 (fun x y => p_conv_encode_0 x.1 x.2.1 x.2.2.1 x.2.2.2.1 y.1) (fun x y => m_conv_encode_0 x.1 x.2.1 x.2.2.1 x.2.2.2.1 y.1) (fun x y K => o_conv_encode_0 x.1 x.2.1 x.2.2.1 x.2.2.2.1 y.1 K)
noncomputable def E_conv_encode : Env := { P := Try.prog, sum := sumsOf [(94, S_conv_three)], nio := 0, head := fun b => if b = 0 then ([0, 3, 4, 9, 10], [(3, (.int .u8))]) else ([], []), after := fun _ => none, leave := fun b => if b = 0 then [2, 3] else [], loops := fun b => if b = 0 then some L_conv_encode_0 else none }
def W_conv_encode (a0 : (List Int)) : Prop := (
  (p_conv_encode_0 a0 (0 : Int) (IntKind.wrap IntKind.i64 ((↑(List.length a0) : Int) + (6 : Int))) (0 : Int) []) ∧
  ([] ++ encF (0 : Int) (List.drop (0 : Nat) (a0 ++ List.replicate (6 : Nat) (0 : Int))) = encL a0) ∧
  True)
theorem V_conv_encode (a0 : (List Int)) : awp E_conv_encode (bodyOf Try.f95) 0 (fin Try.prog S_conv_encode (a0, ()) [(2, none)] 0) (initSt S_conv_encode.par (a0, ()) 34) = W_conv_encode a0 := by kernel_rfl
def B_conv_encode_0 (t0 : (List Int)) (t4 : Int) (t9 : Int) (t10 : Int) (r0 : (List Int)) (m : Nat) (K : AExit → St → Prop) : Prop := (
  condP (decide (t10 < t9))
    (((0 : Int) ≤ (1 : Int)) ∧
    condP (decide (t10 < (↑(List.length t0) : Int)))
      (((0 : Int) ≤ t10) ∧
      (t10 < (↑(List.length t0) : Int)) ∧
      ((0 : Int) ≤ (6 : Int)) ∧
      ((0 : Int) ≤ bits BinOp.or IntKind.i64 (Int.fdiv t4 ((2 : Int) ^ min (1 : Nat) (IntKind.bits IntKind.i64))) (IntKind.wrap IntKind.i64 (IntKind.wrap IntKind.i64 (List.getD t0 (Int.toNat t10) (0 : Int)) * (2 : Int) ^ min (6 : Nat) (IntKind.bits IntKind.i64))) ∧ bits BinOp.or IntKind.i64 (Int.fdiv t4 ((2 : Int) ^ min (1 : Nat) (IntKind.bits IntKind.i64))) (IntKind.wrap IntKind.i64 (IntKind.wrap IntKind.i64 (List.getD t0 (Int.toNat t10) (0 : Int)) * (2 : Int) ^ min (6 : Nat) (IntKind.bits IntKind.i64))) < (128 : Int)) ∧
      ((0 : Int) ≤ (0 : Int)) ∧
      ((0 : Int) ≤ (↑(3 : Nat) : Int)) ∧
      ((↑(3 : Nat) : Int) ≤ (↑(3 : Nat) : Int)) ∧
      ((List.length r0 + List.length (cutL (thr (bits BinOp.or IntKind.i64 (Int.fdiv t4 ((2 : Int) ^ min (1 : Nat) (IntKind.bits IntKind.i64))) (IntKind.wrap IntKind.i64 (IntKind.wrap IntKind.i64 (List.getD t0 (Int.toNat t10) (0 : Int)) * (2 : Int) ^ min (6 : Nat) (IntKind.bits IntKind.i64))))) none none)) * (1 : Nat) ≤ (140737488355328 : Nat)) ∧
      (p_conv_encode_0 t0 (bits BinOp.or IntKind.i64 (Int.fdiv t4 ((2 : Int) ^ min (1 : Nat) (IntKind.bits IntKind.i64))) (IntKind.wrap IntKind.i64 (IntKind.wrap IntKind.i64 (List.getD t0 (Int.toNat t10) (0 : Int)) * (2 : Int) ^ min (6 : Nat) (IntKind.bits IntKind.i64)))) t9 (IntKind.wrap IntKind.i64 (t10 + (1 : Int))) (List.append r0 (cutL (thr (bits BinOp.or IntKind.i64 (Int.fdiv t4 ((2 : Int) ^ min (1 : Nat) (IntKind.bits IntKind.i64))) (IntKind.wrap IntKind.i64 (IntKind.wrap IntKind.i64 (List.getD t0 (Int.toNat t10) (0 : Int)) * (2 : Int) ^ min (6 : Nat) (IntKind.bits IntKind.i64))))) none none))) ∧
      (m_conv_encode_0 t0 (bits BinOp.or IntKind.i64 (Int.fdiv t4 ((2 : Int) ^ min (1 : Nat) (IntKind.bits IntKind.i64))) (IntKind.wrap IntKind.i64 (IntKind.wrap IntKind.i64 (List.getD t0 (Int.toNat t10) (0 : Int)) * (2 : Int) ^ min (6 : Nat) (IntKind.bits IntKind.i64)))) t9 (IntKind.wrap IntKind.i64 (t10 + (1 : Int))) (List.append r0 (cutL (thr (bits BinOp.or IntKind.i64 (Int.fdiv t4 ((2 : Int) ^ min (1 : Nat) (IntKind.bits IntKind.i64))) (IntKind.wrap IntKind.i64 (IntKind.wrap IntKind.i64 (List.getD t0 (Int.toNat t10) (0 : Int)) * (2 : Int) ^ min (6 : Nat) (IntKind.bits IntKind.i64))))) none none)) < m) ∧
      o_conv_encode_0 t0 (bits BinOp.or IntKind.i64 (Int.fdiv t4 ((2 : Int) ^ min (1 : Nat) (IntKind.bits IntKind.i64))) (IntKind.wrap IntKind.i64 (IntKind.wrap IntKind.i64 (List.getD t0 (Int.toNat t10) (0 : Int)) * (2 : Int) ^ min (6 : Nat) (IntKind.bits IntKind.i64)))) t9 (IntKind.wrap IntKind.i64 (t10 + (1 : Int))) (List.append r0 (cutL (thr (bits BinOp.or IntKind.i64 (Int.fdiv t4 ((2 : Int) ^ min (1 : Nat) (IntKind.bits IntKind.i64))) (IntKind.wrap IntKind.i64 (IntKind.wrap IntKind.i64 (List.getD t0 (Int.toNat t10) (0 : Int)) * (2 : Int) ^ min (6 : Nat) (IntKind.bits IntKind.i64))))) none none)) K)
      (((0 : Int) ≤ Int.fdiv t4 ((2 : Int) ^ min (1 : Nat) (IntKind.bits IntKind.i64)) ∧ Int.fdiv t4 ((2 : Int) ^ min (1 : Nat) (IntKind.bits IntKind.i64)) < (128 : Int)) ∧
      ((0 : Int) ≤ (0 : Int)) ∧
      ((0 : Int) ≤ (↑(3 : Nat) : Int)) ∧
      ((↑(3 : Nat) : Int) ≤ (↑(3 : Nat) : Int)) ∧
      ((List.length r0 + List.length (cutL (thr (Int.fdiv t4 ((2 : Int) ^ min (1 : Nat) (IntKind.bits IntKind.i64)))) none none)) * (1 : Nat) ≤ (140737488355328 : Nat)) ∧
      (p_conv_encode_0 t0 (Int.fdiv t4 ((2 : Int) ^ min (1 : Nat) (IntKind.bits IntKind.i64))) t9 (IntKind.wrap IntKind.i64 (t10 + (1 : Int))) (List.append r0 (cutL (thr (Int.fdiv t4 ((2 : Int) ^ min (1 : Nat) (IntKind.bits IntKind.i64)))) none none))) ∧
      (m_conv_encode_0 t0 (Int.fdiv t4 ((2 : Int) ^ min (1 : Nat) (IntKind.bits IntKind.i64))) t9 (IntKind.wrap IntKind.i64 (t10 + (1 : Int))) (List.append r0 (cutL (thr (Int.fdiv t4 ((2 : Int) ^ min (1 : Nat) (IntKind.bits IntKind.i64)))) none none)) < m) ∧
      o_conv_encode_0 t0 (Int.fdiv t4 ((2 : Int) ^ min (1 : Nat) (IntKind.bits IntKind.i64))) t9 (IntKind.wrap IntKind.i64 (t10 + (1 : Int))) (List.append r0 (cutL (thr (Int.fdiv t4 ((2 : Int) ^ min (1 : Nat) (IntKind.bits IntKind.i64)))) none none)) K))
    (X_conv_encode_0_0 (r0) K))
theorem R_conv_encode_0 (t0 : (List Int)) (t4 : Int) (t9 : Int) (t10 : Int) (r0 : (List Int)) (m : Nat) (K : AExit → St → Prop) : awp E_conv_encode (loopAt (bodyOf Try.f95) 0) 0 (roundP E_conv_encode 0 L_conv_encode_0 m K) (L_conv_encode_0.abs (t0, t4, t9, t10, ()) (r0, ())) = B_conv_encode_0 t0 t4 t9 t10 r0 m K := by kernel_rfl
theorem I_conv_encode_0 (h : ∀ (t0 : (List Int)) (t4 : Int) (t9 : Int) (t10 : Int) (r0 : (List Int)) (K : AExit → St → Prop), p_conv_encode_0 t0 t4 t9 t10 r0 → o_conv_encode_0 t0 t4 t9 t10 r0 K → B_conv_encode_0 t0 t4 t9 t10 r0 (m_conv_encode_0 t0 t4 t9 t10 r0) K) : LoopOK E_conv_encode 0 (loopAt (bodyOf Try.f95) 0) L_conv_encode_0 :=
  fun x y K hp ho => match x, y, hp, ho with | (t0, t4, t9, t10, ()), (r0, ()), hp, ho => (R_conv_encode_0 t0 t4 t9 t10 r0 (m_conv_encode_0 t0 t4 t9 t10 r0) K).mpr (h t0 t4 t9 t10 r0 K hp ho)
theorem G_conv_encode : loopsAll E_conv_encode (loopList (bodyOf Try.f95) 0) = (LoopOK E_conv_encode 0 (loopAt (bodyOf Try.f95) 0) L_conv_encode_0 ∧ True) := by kernel_rfl
theorem envok_conv_encode (h_conv_three : SumOK Try.prog 94 S_conv_three) : EnvOK E_conv_encode := ⟨sumsOf_ok (List.forall_mem_cons.2 ⟨h_conv_three, (fun _ h => nomatch h)⟩), follows⟩
theorem whole_conv_encode (h_conv_three : SumOK Try.prog 94 S_conv_three) (l0 : LoopOK E_conv_encode 0 (loopAt (bodyOf Try.f95) 0) L_conv_encode_0) (main : ∀ (a0 : (List Int)), (Bits a0 ∧ List.length a0 ≤ (400 : Nat)) → W_conv_encode a0) : SumOK Try.prog 95 S_conv_encode :=
  fun_sound (E := E_conv_encode) (envok_conv_encode h_conv_three) (fn := Try.f95) (c := bodyOf Try.f95) (ts := [(2, none)]) S_conv_encode Try.func95 (body_some (by kernel_rfl)) (by kernel_rfl) (by kernel_rfl) (by kernel_rfl) (G_conv_encode.mpr ⟨l0, trivial⟩) (fun x hp => match x, hp with | (a0, ()), hp => (V_conv_encode a0).mpr (main a0 hp))
/-! ### conv_Encode -/
noncomputable def E_conv_Encode : Env := { P := Try.prog, sum := sumsOf [(74, S_bits_Check), (95, S_conv_encode)], nio := 0, head := fun b => ([], []), after := fun _ => none, leave := fun b => [], loops := fun b => none }
def W_conv_Encode (a0 : (List Int)) : Prop := (
  ((↑(List.length a0) : Int) ≤ big ∧ ∀ (y : Int), y ∈ a0 → (0 : Int) ≤ y) ∧
  condP (bitsErr a0 != (0 : Int))
    (([] = encOf a0) ∧
    (bitsErr a0 = encErr a0) ∧
    True)
    (condP (decide ((↑(List.length a0) : Int) > (400 : Int)))
      (([] = encOf a0) ∧
      ((2 : Int) = encErr a0) ∧
      True)
      ((Bits a0 ∧ List.length a0 ≤ (400 : Nat)) ∧
      (encL a0 = encOf a0) ∧
      ((0 : Int) = encErr a0) ∧
      True)))
theorem V_conv_Encode (a0 : (List Int)) : awp E_conv_Encode (bodyOf Try.f51) 0 (fin Try.prog S_conv_Encode (a0, ()) [(2, none), (3, none)] 0) (initSt S_conv_Encode.par (a0, ()) 15) = W_conv_Encode a0 := by kernel_rfl
theorem G_conv_Encode : loopsAll E_conv_Encode (loopList (bodyOf Try.f51) 0) = (True) := by kernel_rfl
theorem envok_conv_Encode (h_bits_Check : SumOK Try.prog 74 S_bits_Check) (h_conv_encode : SumOK Try.prog 95 S_conv_encode) : EnvOK E_conv_Encode := ⟨sumsOf_ok (List.forall_mem_cons.2 ⟨h_bits_Check, (List.forall_mem_cons.2 ⟨h_conv_encode, (fun _ h => nomatch h)⟩)⟩), follows⟩
theorem whole_conv_Encode (h_bits_Check : SumOK Try.prog 74 S_bits_Check) (h_conv_encode : SumOK Try.prog 95 S_conv_encode)  (main : ∀ (a0 : (List Int)), ((↑(List.length a0) : Int) ≤ big ∧ ∀ (y : Int), y ∈ a0 → (0 : Int) ≤ y) → W_conv_Encode a0) : SumOK Try.prog 51 S_conv_Encode :=
  fun_sound (E := E_conv_Encode) (envok_conv_Encode h_bits_Check h_conv_encode) (fn := Try.f51) (c := bodyOf Try.f51) (ts := [(2, none), (3, none)]) S_conv_Encode Try.func51 (body_some (by kernel_rfl)) (by kernel_rfl) (by kernel_rfl) (by kernel_rfl) (G_conv_Encode.mpr trivial) (fun x hp => match x, hp with | (a0, ()), hp => (V_conv_Encode a0).mpr (main a0 hp))
/-! ### conv_Soft -/
def L_conv_Soft_0 : Lift.Loop := Lift.Loop.mk (u 5 ++ (.v (.ro (.int .i64)) :: (.v (.int .i64) :: (.v (.int .i64) :: (u 10))))) [] 0 (fun x y => p_conv_Soft_0 x.1 x.2.1 x.2.2.1) (fun x y => m_conv_Soft_0 x.1 x.2.1 x.2.2.1) (fun x y K => o_conv_Soft_0 x.1 x.2.1 x.2.2.1 K)
noncomputable def E_conv_Soft : Env := { P := Try.prog, sum := sumsOf [], nio := 0, head := fun b => if b = 0 then ([5, 6, 7, 14, 15], []) else ([], []), after := fun _ => none, leave := fun b => if b = 0 then [2] else [], loops := fun b => if b = 0 then some L_conv_Soft_0 else none }
def W_conv_Soft (a0 : (List Int)) : Prop := (
  (p_conv_Soft_0 a0 (↑(List.length a0) : Int) (0 : Int)) ∧
  condP (softB (List.drop (0 : Nat) a0))
    ((true = softB a0) ∧
    True)
    ((false = softB a0) ∧
    True))
theorem V_conv_Soft (a0 : (List Int)) : awp E_conv_Soft (bodyOf Try.f91) 0 (fin Try.prog S_conv_Soft (a0, ()) [(2, none)] 0) (initSt S_conv_Soft.par (a0, ()) 18) = W_conv_Soft a0 := by kernel_rfl
def B_conv_Soft_0 (t5 : (List Int)) (t6 : Int) (t7 : Int) (m : Nat) (K : AExit → St → Prop) : Prop := (
  condP (decide (t7 < t6))
    (((0 : Int) ≤ t7) ∧
    (t7 < (↑(List.length t5) : Int)) ∧
    condP (if decide (List.getD t5 (Int.toNat t7) (0 : Int) < (-100000 : Int)) = true then true else decide (List.getD t5 (Int.toNat t7) (0 : Int) > (100000 : Int)))
      (X_conv_Soft_0_0 (false) K)
      ((p_conv_Soft_0 t5 t6 (IntKind.wrap IntKind.i64 (t7 + (1 : Int)))) ∧
      (m_conv_Soft_0 t5 t6 (IntKind.wrap IntKind.i64 (t7 + (1 : Int))) < m) ∧
      o_conv_Soft_0 t5 t6 (IntKind.wrap IntKind.i64 (t7 + (1 : Int))) K))
    (X_conv_Soft_0_1  K))
theorem R_conv_Soft_0 (t5 : (List Int)) (t6 : Int) (t7 : Int) (m : Nat) (K : AExit → St → Prop) : awp E_conv_Soft (loopAt (bodyOf Try.f91) 0) 0 (roundP E_conv_Soft 0 L_conv_Soft_0 m K) (L_conv_Soft_0.abs (t5, t6, t7, ()) (())) = B_conv_Soft_0 t5 t6 t7 m K := by kernel_rfl
theorem I_conv_Soft_0 (h : ∀ (t5 : (List Int)) (t6 : Int) (t7 : Int) (K : AExit → St → Prop), p_conv_Soft_0 t5 t6 t7 → o_conv_Soft_0 t5 t6 t7 K → B_conv_Soft_0 t5 t6 t7 (m_conv_Soft_0 t5 t6 t7) K) : LoopOK E_conv_Soft 0 (loopAt (bodyOf Try.f91) 0) L_conv_Soft_0 :=
  fun x y K hp ho => match x, y, hp, ho with | (t5, t6, t7, ()), (), hp, ho => (R_conv_Soft_0 t5 t6 t7 (m_conv_Soft_0 t5 t6 t7) K).mpr (h t5 t6 t7 K hp ho)
theorem G_conv_Soft : loopsAll E_conv_Soft (loopList (bodyOf Try.f91) 0) = (LoopOK E_conv_Soft 0 (loopAt (bodyOf Try.f91) 0) L_conv_Soft_0 ∧ True) := by kernel_rfl
theorem envok_conv_Soft  : EnvOK E_conv_Soft := ⟨sumsOf_ok (fun _ h => nomatch h), follows⟩
theorem whole_conv_Soft  (l0 : LoopOK E_conv_Soft 0 (loopAt (bodyOf Try.f91) 0) L_conv_Soft_0) (main : ∀ (a0 : (List Int)), ((↑(List.length a0) : Int) ≤ big) → W_conv_Soft a0) : SumOK Try.prog 91 S_conv_Soft :=
  fun_sound (E := E_conv_Soft) (envok_conv_Soft ) (fn := Try.f91) (c := bodyOf Try.f91) (ts := [(2, none)]) S_conv_Soft Try.func91 (body_some (by kernel_rfl)) (by kernel_rfl) (by kernel_rfl) (by kernel_rfl) (G_conv_Soft.mpr ⟨l0, trivial⟩) (fun x hp => match x, hp with | (a0, ()), hp => (V_conv_Soft a0).mpr (main a0 hp))
/-! ### conv_Score -/
def L_conv_Score_0 : Lift.Loop := Lift.Loop.mk (u 1 ++ (.v (.ro (.int .i64)) :: (u 6 ++ (.v (.int .i64) :: (u 20 ++ (.sl 0 :: (.v (.int .i64) :: (.v (.int .i64) :: (u 17))))))))) [(0, .row (.int .u8))] 1 (fun x y => p_conv_Score_0 x.1 x.2.1 x.2.2.1 x.2.2.2.1 y.1) (fun x y => m_conv_Score_0 x.1 x.2.1 x.2.2.1 x.2.2.2.1 y.1) (fun x y K => o_conv_Score_0 x.1 x.2.1 x.2.2.1 x.2.2.2.1 y.1 K)
noncomputable def E_conv_Score : Env := { P := Try.prog, sum := sumsOf [(51, S_conv_Encode), (91, S_conv_Soft)], nio := 0, head := fun b => if b = 0 then ([1, 8, 29, 30, 31], []) else ([], []), after := fun _ => none, leave := fun b => if b = 0 then [4, 5, 8] else [], loops := fun b => if b = 0 then some L_conv_Score_0 else none }
def W_conv_Score (a0 : (List Int)) (a1 : (List Int)) : Prop := (
  ((↑(List.length a0) : Int) ≤ big ∧ ∀ (y : Int), y ∈ a0 → (0 : Int) ≤ y) ∧
  condP (encErr a0 != (0 : Int))
    (((0 : Int) = scoreOf a0 a1) ∧
    (encErr a0 = scoreErr a0 a1) ∧
    True)
    (((↑(List.length a1) : Int) ≤ big) ∧
    condP (if (!softB a1) = true then true else (↑(List.length (encOf a0)) : Int) != (↑(List.length a1) : Int))
      (((0 : Int) = scoreOf a0 a1) ∧
      ((1 : Int) = scoreErr a0 a1) ∧
      True)
      ((p_conv_Score_0 a1 (0 : Int) (↑(List.length (encOf a0)) : Int) (0 : Int) (encOf a0)) ∧
      (scoreF (0 : Int) (List.drop (0 : Nat) (encOf a0)) (List.drop (0 : Nat) a1) = scoreOf a0 a1) ∧
      ((0 : Int) = scoreErr a0 a1) ∧
      True)))
theorem V_conv_Score (a0 : (List Int)) (a1 : (List Int)) : awp E_conv_Score (bodyOf Try.f49) 0 (fin Try.prog S_conv_Score (a0, a1, ()) [(4, none), (5, none)] 0) (initSt S_conv_Score.par (a0, a1, ()) 49) = W_conv_Score a0 a1 := by kernel_rfl
def B_conv_Score_0 (t1 : (List Int)) (t8 : Int) (t30 : Int) (t31 : Int) (r0 : (List Int)) (m : Nat) (K : AExit → St → Prop) : Prop := (
  condP (decide (t31 < t30))
    (((0 : Int) ≤ t31) ∧
    (t31 < (↑(List.length r0) : Int)) ∧
    ((0 : Int) ≤ t31) ∧
    (t31 < (↑(List.length t1) : Int)) ∧
    (p_conv_Score_0 t1 (IntKind.wrap IntKind.i64 (t8 + IntKind.wrap IntKind.i64 (IntKind.wrap IntKind.i64 ((1 : Int) - IntKind.wrap IntKind.i64 ((2 : Int) * IntKind.wrap IntKind.i64 (List.getD r0 (Int.toNat t31) (0 : Int)))) * List.getD t1 (Int.toNat t31) (0 : Int)))) t30 (IntKind.wrap IntKind.i64 (t31 + (1 : Int))) r0) ∧
    (m_conv_Score_0 t1 (IntKind.wrap IntKind.i64 (t8 + IntKind.wrap IntKind.i64 (IntKind.wrap IntKind.i64 ((1 : Int) - IntKind.wrap IntKind.i64 ((2 : Int) * IntKind.wrap IntKind.i64 (List.getD r0 (Int.toNat t31) (0 : Int)))) * List.getD t1 (Int.toNat t31) (0 : Int)))) t30 (IntKind.wrap IntKind.i64 (t31 + (1 : Int))) r0 < m) ∧
    o_conv_Score_0 t1 (IntKind.wrap IntKind.i64 (t8 + IntKind.wrap IntKind.i64 (IntKind.wrap IntKind.i64 ((1 : Int) - IntKind.wrap IntKind.i64 ((2 : Int) * IntKind.wrap IntKind.i64 (List.getD r0 (Int.toNat t31) (0 : Int)))) * List.getD t1 (Int.toNat t31) (0 : Int)))) t30 (IntKind.wrap IntKind.i64 (t31 + (1 : Int))) r0 K)
    (X_conv_Score_0_0 (t8) K))
theorem R_conv_Score_0 (t1 : (List Int)) (t8 : Int) (t30 : Int) (t31 : Int) (r0 : (List Int)) (m : Nat) (K : AExit → St → Prop) : awp E_conv_Score (loopAt (bodyOf Try.f49) 0) 0 (roundP E_conv_Score 0 L_conv_Score_0 m K) (L_conv_Score_0.abs (t1, t8, t30, t31, ()) (r0, ())) = B_conv_Score_0 t1 t8 t30 t31 r0 m K := by kernel_rfl
theorem I_conv_Score_0 (h : ∀ (t1 : (List Int)) (t8 : Int) (t30 : Int) (t31 : Int) (r0 : (List Int)) (K : AExit → St → Prop), p_conv_Score_0 t1 t8 t30 t31 r0 → o_conv_Score_0 t1 t8 t30 t31 r0 K → B_conv_Score_0 t1 t8 t30 t31 r0 (m_conv_Score_0 t1 t8 t30 t31 r0) K) : LoopOK E_conv_Score 0 (loopAt (bodyOf Try.f49) 0) L_conv_Score_0 :=
  fun x y K hp ho => match x, y, hp, ho with | (t1, t8, t30, t31, ()), (r0, ()), hp, ho => (R_conv_Score_0 t1 t8 t30 t31 r0 (m_conv_Score_0 t1 t8 t30 t31 r0) K).mpr (h t1 t8 t30 t31 r0 K hp ho)
theorem G_conv_Score : loopsAll E_conv_Score (loopList (bodyOf Try.f49) 0) = (LoopOK E_conv_Score 0 (loopAt (bodyOf Try.f49) 0) L_conv_Score_0 ∧ True) := by kernel_rfl
theorem envok_conv_Score (h_conv_Encode : SumOK Try.prog 51 S_conv_Encode) (h_conv_Soft : SumOK Try.prog 91 S_conv_Soft) : EnvOK E_conv_Score := ⟨sumsOf_ok (List.forall_mem_cons.2 ⟨h_conv_Encode, (List.forall_mem_cons.2 ⟨h_conv_Soft, (fun _ h => nomatch h)⟩)⟩), follows⟩
theorem whole_conv_Score (h_conv_Encode : SumOK Try.prog 51 S_conv_Encode) (h_conv_Soft : SumOK Try.prog 91 S_conv_Soft) (l0 : LoopOK E_conv_Score 0 (loopAt (bodyOf Try.f49) 0) L_conv_Score_0) (main : ∀ (a0 : (List Int)) (a1 : (List Int)), (((↑(List.length a0) : Int) ≤ big ∧ ∀ (y : Int), y ∈ a0 → (0 : Int) ≤ y) ∧ (↑(List.length a1) : Int) ≤ big) → W_conv_Score a0 a1) : SumOK Try.prog 49 S_conv_Score :=
  fun_sound (E := E_conv_Score) (envok_conv_Score h_conv_Encode h_conv_Soft) (fn := Try.f49) (c := bodyOf Try.f49) (ts := [(4, none), (5, none)]) S_conv_Score Try.func49 (body_some (by kernel_rfl)) (by kernel_rfl) (by kernel_rfl) (by kernel_rfl) (G_conv_Score.mpr ⟨l0, trivial⟩) (fun x hp => match x, hp with | (a0, a1, ()), hp => (V_conv_Score a0 a1).mpr (main a0 a1 hp))
/-! ### R_Soft -/
def L_R_Soft_0 : Lift.Loop := Lift.Loop.mk (.v (.ro (.int .i64)) :: (u 2 ++ (.v (.int .i64) :: (u 18)))) [] 0 (fun x y => p_R_Soft_0 x.1 x.2.1) (fun x y => m_R_Soft_0 x.1 x.2.1) (fun x y K => o_R_Soft_0 x.1 x.2.1 K)
noncomputable def E_R_Soft : Env := { P := Try.prog, sum := sumsOf [], nio := 0, head := fun b => if b = 0 then ([0, 3, 16, 17, 18, 19, 20], []) else ([], []), after := fun _ => none, leave := fun b => if b = 0 then [2] else [], loops := fun b => if b = 0 then some L_R_Soft_0 else none }
def W_R_Soft (a0 : (List Int)) : Prop := (
  (p_R_Soft_0 a0 (0 : Int)) ∧
  condP (softB (List.drop (0 : Nat) a0))
    ((true = softB a0) ∧
    True)
    ((false = softB a0) ∧
    True))
theorem V_R_Soft (a0 : (List Int)) : awp E_R_Soft (bodyOf Try.f60) 0 (fin Try.prog S_R_Soft (a0, ()) [(2, none)] 0) (initSt S_R_Soft.par (a0, ()) 22) = W_R_Soft a0 := by kernel_rfl
def B_R_Soft_0 (t0 : (List Int)) (t3 : Int) (m : Nat) (K : AExit → St → Prop) : Prop := (
  condP (decide (t3 < (↑(List.length t0) : Int)))
    (((0 : Int) ≤ t3) ∧
    (t3 < (↑(List.length t0) : Int)) ∧
    (decide (List.getD t0 (Int.toNat t3) (0 : Int) > (100000 : Int)) = false → (0 : Int) ≤ t3) ∧
    (decide (List.getD t0 (Int.toNat t3) (0 : Int) > (100000 : Int)) = false → t3 < (↑(List.length t0) : Int)) ∧
    condP (if decide (List.getD t0 (Int.toNat t3) (0 : Int) > (100000 : Int)) = true then true else decide (List.getD t0 (Int.toNat t3) (0 : Int) < (-100000 : Int)))
      (X_R_Soft_0_0 (false) K)
      ((p_R_Soft_0 t0 (IntKind.wrap IntKind.i64 (t3 + (1 : Int)))) ∧
      (m_R_Soft_0 t0 (IntKind.wrap IntKind.i64 (t3 + (1 : Int))) < m) ∧
      o_R_Soft_0 t0 (IntKind.wrap IntKind.i64 (t3 + (1 : Int))) K))
    (X_R_Soft_0_1  K))
theorem R_R_Soft_0 (t0 : (List Int)) (t3 : Int) (m : Nat) (K : AExit → St → Prop) : awp E_R_Soft (loopAt (bodyOf Try.f60) 0) 0 (roundP E_R_Soft 0 L_R_Soft_0 m K) (L_R_Soft_0.abs (t0, t3, ()) (())) = B_R_Soft_0 t0 t3 m K := by kernel_rfl
theorem I_R_Soft_0 (h : ∀ (t0 : (List Int)) (t3 : Int) (K : AExit → St → Prop), p_R_Soft_0 t0 t3 → o_R_Soft_0 t0 t3 K → B_R_Soft_0 t0 t3 (m_R_Soft_0 t0 t3) K) : LoopOK E_R_Soft 0 (loopAt (bodyOf Try.f60) 0) L_R_Soft_0 :=
  fun x y K hp ho => match x, y, hp, ho with | (t0, t3, ()), (), hp, ho => (R_R_Soft_0 t0 t3 (m_R_Soft_0 t0 t3) K).mpr (h t0 t3 K hp ho)
theorem G_R_Soft : loopsAll E_R_Soft (loopList (bodyOf Try.f60) 0) = (LoopOK E_R_Soft 0 (loopAt (bodyOf Try.f60) 0) L_R_Soft_0 ∧ True) := by kernel_rfl
theorem envok_R_Soft  : EnvOK E_R_Soft := ⟨sumsOf_ok (fun _ h => nomatch h), follows⟩
theorem whole_R_Soft  (l0 : LoopOK E_R_Soft 0 (loopAt (bodyOf Try.f60) 0) L_R_Soft_0) (main : ∀ (a0 : (List Int)), ((↑(List.length a0) : Int) ≤ big) → W_R_Soft a0) : SumOK Try.prog 60 S_R_Soft :=
  fun_sound (E := E_R_Soft) (envok_R_Soft ) (fn := Try.f60) (c := bodyOf Try.f60) (ts := [(2, none)]) S_R_Soft Try.func60 (body_some (by kernel_rfl)) (by kernel_rfl) (by kernel_rfl) (by kernel_rfl) (G_R_Soft.mpr ⟨l0, trivial⟩) (fun x hp => match x, hp with | (a0, ()), hp => (V_R_Soft a0).mpr (main a0 hp))
end Go.Spec
