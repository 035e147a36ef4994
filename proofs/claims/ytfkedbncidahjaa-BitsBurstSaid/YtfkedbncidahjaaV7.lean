/- The runs of the functions, told. -/
import Derived.Test.YtfkedbncidahjaaLF
import Derived.Test.YtfkedbncidahjaaProg
import Derived.Test.YtfkedbncidahjaaE7
import Derived.Test.YtfkedbncidahjaaV1
import Derived.Test.YtfkedbncidahjaaV2
import Derived.Test.YtfkedbncidahjaaV3
import Derived.Test.YtfkedbncidahjaaV5
set_option linter.unusedVariables false
set_option linter.unusedSimpArgs false
namespace Go.Spec
open Go Go.Lift Go.Proofs
attribute [local irreducible] Go.Lift.awp
/-! ### keep_BitsBurst -/
def L_keep_BitsBurst_0 : Lift.Loop := Lift.Loop.mk (u 1 ++ (.v (.int .i64) :: (.v (.int .i64) :: (.v (.ro (.int .u8)) :: (u 10 ++ (.sl 0 :: (.v (.int .i64) :: (.v .bool :: (.v (.int .i64) :: (u 92)))))))))) [(0, .row (.int .u8))] 1 (fun x y => p_keep_BitsBurst_0 x.1 x.2.1 x.2.2.1 x.2.2.2.1 x.2.2.2.2.1 x.2.2.2.2.2.1 y.1) (fun x y => m_keep_BitsBurst_0 x.1 x.2.1 x.2.2.1 x.2.2.2.1 x.2.2.2.2.1 x.2.2.2.2.2.1 y.1) (fun x y K => o_keep_BitsBurst_0 x.1 x.2.1 x.2.2.1 x.2.2.2.1 x.2.2.2.2.1 x.2.2.2.2.2.1 y.1 K)
noncomputable def E_keep_BitsBurst : Env := { P := Try.prog, sum := sumsOf [(30, S_keep_good), (33, S_bits_Seal), (35, S_R_Divisor), (34, S_bits_Open), (25, S_R_SameBits)], nio := 0, head := fun b => if b = 0 then ([1, 2, 3, 14, 15, 16, 17, 57, 58, 59, 66, 67, 68, 69, 72, 73, 74, 75, 76, 77, 80, 81, 82, 83, 84, 85, 105, 106, 107, 108], []) else ([], []), after := fun _ => none, leave := fun b => if b = 0 then [1, 8, 14, 16, 105, 106, 107, 108] else [], loops := fun b => if b = 0 then some L_keep_BitsBurst_0 else none }
def W_keep_BitsBurst (a0 : (List Int)) (a1 : Int) (a2 : Int) (a3 : (List Int)) : Prop := (
  ((↑(List.length a0) : Int) ≤ big ∧ (∀ (y : Int), y ∈ a0 → (0 : Int) ≤ y) ∧ (0 : Int) ≤ (4000 : Int) ∧ (4000 : Int) ≤ (100000 : Int)) ∧
  ((↑(List.length (goodL a0 (4000 : Nat))) : Int) ≤ big ∧ ∀ (y : Int), y ∈ goodL a0 (4000 : Nat) → (0 : Int) ≤ y) ∧
  condP (sealErr (goodL a0 (4000 : Nat)) a1 != (0 : Int))
    ((True) ∧
    ((List.isEmpty (divL a1) != false) = true) ∧
    True)
    (((↑(List.length (sealOf (goodL a0 (4000 : Nat)) a1)) : Int) ≤ big ∧ ∀ (y : Int), y ∈ sealOf (goodL a0 (4000 : Nat)) a1 → (0 : Int) ≤ y) ∧
    ((!openOk (sealOf (goodL a0 (4000 : Nat)) a1) a1) = false → (↑(List.length (openOf (sealOf (goodL a0 (4000 : Nat)) a1) a1)) : Int) ≤ big) ∧
    condP (if (!openOk (sealOf (goodL a0 (4000 : Nat)) a1) a1) = true then true else !decide (openOf (sealOf (goodL a0 (4000 : Nat)) a1) a1 = goodL a0 (4000 : Nat)))
      ((false = true) ∧
      True)
      ((List.length (sealOf (goodL a0 (4000 : Nat)) a1) * (1 : Nat) ≤ (140737488355328 : Nat)) ∧
      (True) ∧
      ((0 : Int) ≤ (0 : Int)) ∧
      ((0 : Int) < (↑(List.length (divL a1)) : Int)) ∧
      (p_keep_BitsBurst_0 a1 a2 a3 (List.getD (divL a1) (0 : Nat) (0 : Int)) false (0 : Int) (sealOf (goodL a0 (4000 : Nat)) a1)) ∧
      ((↑(List.length (Prod.snd (goB a3 a2 (min (List.length a3) (Int.toNat (List.getD (divL a1) (0 : Nat) (0 : Int))) - (0 : Nat)) (0 : Nat) false (sealOf (goodL a0 (4000 : Nat)) a1)))) : Int) ≤ big ∧ ∀ (y : Int), y ∈ Prod.snd (goB a3 a2 (min (List.length a3) (Int.toNat (List.getD (divL a1) (0 : Nat) (0 : Int))) - (0 : Nat)) (0 : Nat) false (sealOf (goodL a0 (4000 : Nat)) a1)) → (0 : Int) ≤ y) ∧
      ((if (sumErr (Prod.snd (goB a3 a2 (min (List.length a3) (Int.toNat (List.getD (divL a1) (0 : Nat) (0 : Int))) - (0 : Nat)) (0 : Nat) false (sealOf (goodL a0 (4000 : Nat)) a1))) a1 == (0 : Int)) = true then openOk (Prod.snd (goB a3 a2 (min (List.length a3) (Int.toNat (List.getD (divL a1) (0 : Nat) (0 : Int))) - (0 : Nat)) (0 : Nat) false (sealOf (goodL a0 (4000 : Nat)) a1))) a1 == !Prod.fst (goB a3 a2 (min (List.length a3) (Int.toNat (List.getD (divL a1) (0 : Nat) (0 : Int))) - (0 : Nat)) (0 : Nat) false (sealOf (goodL a0 (4000 : Nat)) a1)) else false) = true) ∧
      True)))
theorem V_keep_BitsBurst (a0 : (List Int)) (a1 : Int) (a2 : Int) (a3 : (List Int)) : awp E_keep_BitsBurst (bodyOf Try.f10) 0 (fin Try.prog S_keep_BitsBurst (a0, a1, a2, a3, ()) [(8, none)] 0) (initSt S_keep_BitsBurst.par (a0, a1, a2, a3, ()) 110) = W_keep_BitsBurst a0 a1 a2 a3 := by kernel_rfl
def B_keep_BitsBurst_0 (t1 : Int) (t2 : Int) (t3 : (List Int)) (t15 : Int) (t16 : Bool) (t17 : Int) (r0 : (List Int)) (m : Nat) (K : AExit → St → Prop) : Prop := (
  condP (if decide (t17 < (↑(List.length t3) : Int)) = true then decide (t17 < t15) else false)
    (((if (if decide (t2 ≥ (0 : Int)) = true then decide (t2 < (↑(List.length r0) : Int)) else false) = true then decide (t17 < IntKind.wrap IntKind.i64 ((↑(List.length r0) : Int) - t2)) else false) = true → (0 : Int) ≤ t17) ∧
    ((if (if decide (t2 ≥ (0 : Int)) = true then decide (t2 < (↑(List.length r0) : Int)) else false) = true then decide (t17 < IntKind.wrap IntKind.i64 ((↑(List.length r0) : Int) - t2)) else false) = true → t17 < (↑(List.length t3) : Int)) ∧
    ((if (if decide (t2 ≥ (0 : Int)) = true then decide (t2 < (↑(List.length r0) : Int)) else false) = true then decide (t17 < IntKind.wrap IntKind.i64 ((↑(List.length r0) : Int) - t2)) else false) = true → (2 : Int) ≠ (0 : Int)) ∧
    condP (if (if (if decide (t2 ≥ (0 : Int)) = true then decide (t2 < (↑(List.length r0) : Int)) else false) = true then decide (t17 < IntKind.wrap IntKind.i64 ((↑(List.length r0) : Int) - t2)) else false) = true then Int.tmod (List.getD t3 (Int.toNat t17) (0 : Int)) (2 : Int) == (1 : Int) else false)
      (((0 : Int) ≤ IntKind.wrap IntKind.i64 (t2 + t17)) ∧
      (IntKind.wrap IntKind.i64 (t2 + t17) < (↑(List.length r0) : Int)) ∧
      ((0 : Int) ≤ IntKind.wrap IntKind.i64 (t2 + t17)) ∧
      (IntKind.wrap IntKind.i64 (t2 + t17) < (↑(List.length r0) : Int)) ∧
      (p_keep_BitsBurst_0 t1 t2 t3 t15 true (IntKind.wrap IntKind.i64 (t17 + (1 : Int))) (List.set r0 (Int.toNat (IntKind.wrap IntKind.i64 (t2 + t17))) (bits BinOp.xor IntKind.u8 (List.getD r0 (Int.toNat (IntKind.wrap IntKind.i64 (t2 + t17))) (0 : Int)) (1 : Int)))) ∧
      (m_keep_BitsBurst_0 t1 t2 t3 t15 true (IntKind.wrap IntKind.i64 (t17 + (1 : Int))) (List.set r0 (Int.toNat (IntKind.wrap IntKind.i64 (t2 + t17))) (bits BinOp.xor IntKind.u8 (List.getD r0 (Int.toNat (IntKind.wrap IntKind.i64 (t2 + t17))) (0 : Int)) (1 : Int))) < m) ∧
      o_keep_BitsBurst_0 t1 t2 t3 t15 true (IntKind.wrap IntKind.i64 (t17 + (1 : Int))) (List.set r0 (Int.toNat (IntKind.wrap IntKind.i64 (t2 + t17))) (bits BinOp.xor IntKind.u8 (List.getD r0 (Int.toNat (IntKind.wrap IntKind.i64 (t2 + t17))) (0 : Int)) (1 : Int))) K)
      ((p_keep_BitsBurst_0 t1 t2 t3 t15 t16 (IntKind.wrap IntKind.i64 (t17 + (1 : Int))) r0) ∧
      (m_keep_BitsBurst_0 t1 t2 t3 t15 t16 (IntKind.wrap IntKind.i64 (t17 + (1 : Int))) r0 < m) ∧
      o_keep_BitsBurst_0 t1 t2 t3 t15 t16 (IntKind.wrap IntKind.i64 (t17 + (1 : Int))) r0 K))
    (X_keep_BitsBurst_0_0 (t1) (t16) (r0) K))
theorem R_keep_BitsBurst_0 (t1 : Int) (t2 : Int) (t3 : (List Int)) (t15 : Int) (t16 : Bool) (t17 : Int) (r0 : (List Int)) (m : Nat) (K : AExit → St → Prop) : awp E_keep_BitsBurst (loopAt (bodyOf Try.f10) 0) 0 (roundP E_keep_BitsBurst 0 L_keep_BitsBurst_0 m K) (L_keep_BitsBurst_0.abs (t1, t2, t3, t15, t16, t17, ()) (r0, ())) = B_keep_BitsBurst_0 t1 t2 t3 t15 t16 t17 r0 m K := by kernel_rfl
theorem I_keep_BitsBurst_0 (h : ∀ (t1 : Int) (t2 : Int) (t3 : (List Int)) (t15 : Int) (t16 : Bool) (t17 : Int) (r0 : (List Int)) (K : AExit → St → Prop), p_keep_BitsBurst_0 t1 t2 t3 t15 t16 t17 r0 → o_keep_BitsBurst_0 t1 t2 t3 t15 t16 t17 r0 K → B_keep_BitsBurst_0 t1 t2 t3 t15 t16 t17 r0 (m_keep_BitsBurst_0 t1 t2 t3 t15 t16 t17 r0) K) : LoopOK E_keep_BitsBurst 0 (loopAt (bodyOf Try.f10) 0) L_keep_BitsBurst_0 :=
  fun x y K hp ho => match x, y, hp, ho with | (t1, t2, t3, t15, t16, t17, ()), (r0, ()), hp, ho => (R_keep_BitsBurst_0 t1 t2 t3 t15 t16 t17 r0 (m_keep_BitsBurst_0 t1 t2 t3 t15 t16 t17 r0) K).mpr (h t1 t2 t3 t15 t16 t17 r0 K hp ho)
theorem G_keep_BitsBurst : loopsAll E_keep_BitsBurst (loopList (bodyOf Try.f10) 0) = (LoopOK E_keep_BitsBurst 0 (loopAt (bodyOf Try.f10) 0) L_keep_BitsBurst_0 ∧ True) := by kernel_rfl
theorem envok_keep_BitsBurst (h_keep_good : SumOK Try.prog 30 S_keep_good) (h_bits_Seal : SumOK Try.prog 33 S_bits_Seal) (h_R_Divisor : SumOK Try.prog 35 S_R_Divisor) (h_bits_Open : SumOK Try.prog 34 S_bits_Open) (h_R_SameBits : SumOK Try.prog 25 S_R_SameBits) : EnvOK E_keep_BitsBurst := ⟨sumsOf_ok (List.forall_mem_cons.2 ⟨h_keep_good, (List.forall_mem_cons.2 ⟨h_bits_Seal, (List.forall_mem_cons.2 ⟨h_R_Divisor, (List.forall_mem_cons.2 ⟨h_bits_Open, (List.forall_mem_cons.2 ⟨h_R_SameBits, (fun _ h => nomatch h)⟩)⟩)⟩)⟩)⟩), follows⟩
theorem whole_keep_BitsBurst (h_keep_good : SumOK Try.prog 30 S_keep_good) (h_bits_Seal : SumOK Try.prog 33 S_bits_Seal) (h_R_Divisor : SumOK Try.prog 35 S_R_Divisor) (h_bits_Open : SumOK Try.prog 34 S_bits_Open) (h_R_SameBits : SumOK Try.prog 25 S_R_SameBits) (l0 : LoopOK E_keep_BitsBurst 0 (loopAt (bodyOf Try.f10) 0) L_keep_BitsBurst_0) (main : ∀ (a0 : (List Int)) (a1 : Int) (a2 : Int) (a3 : (List Int)), (((↑(List.length a0) : Int) ≤ big ∧ ∀ (y : Int), y ∈ a0 → (0 : Int) ≤ y) ∧ (↑(List.length a3) : Int) ≤ big ∧ ∀ (y : Int), y ∈ a3 → (0 : Int) ≤ y) → W_keep_BitsBurst a0 a1 a2 a3) : SumOK Try.prog 10 S_keep_BitsBurst :=
  fun_sound (E := E_keep_BitsBurst) (envok_keep_BitsBurst h_keep_good h_bits_Seal h_R_Divisor h_bits_Open h_R_SameBits) (fn := Try.f10) (c := bodyOf Try.f10) (ts := [(8, none)]) S_keep_BitsBurst Try.func10 (body_some (by kernel_rfl)) (by kernel_rfl) (by kernel_rfl) (by kernel_rfl) (G_keep_BitsBurst.mpr ⟨l0, trivial⟩) (fun x hp => match x, hp with | (a0, a1, a2, a3, ()), hp => (V_keep_BitsBurst a0 a1 a2 a3).mpr (main a0 a1 a2 a3 hp))
end Go.Spec
