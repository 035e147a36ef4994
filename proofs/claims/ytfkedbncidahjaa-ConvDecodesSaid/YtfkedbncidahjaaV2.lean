/- The runs of the functions, told. -/
import Derived.Test.YtfkedbncidahjaaLF
import Derived.Test.YtfkedbncidahjaaProg
import Derived.Test.YtfkedbncidahjaaE2
import Derived.Test.YtfkedbncidahjaaV1
set_option linter.unusedVariables false
set_option linter.unusedSimpArgs false
namespace Go.Spec
open Go Go.Lift Go.Proofs
attribute [local irreducible] Go.Lift.awp
/-! ### bits_Noise -/
def L_bits_Noise_0 : Lift.Loop := Lift.Loop.mk (u 6 ++ (.v (.int .u32) :: (.v (.int .u32) :: (.sl 0 :: (u 20 ++ (.v (.int .i64) :: (.v (.int .i64) :: (u 38)))))))) [(0, .row (.int .u8))] 1 (fun x y => p_bits_Noise_0 x.1 x.2.1 x.2.2.1 x.2.2.2.1 y.1) (fun x y => m_bits_Noise_0 x.1 x.2.1 x.2.2.1 x.2.2.2.1 y.1) (fun x y K => o_bits_Noise_0 x.1 x.2.1 x.2.2.1 x.2.2.2.1 y.1 K)
noncomputable def E_bits_Noise : Env := { P := Try.prog, sum := sumsOf [], nio := 0, head := fun b => if b = 0 then ([6, 7, 8, 29, 30], []) else ([], []), after := fun _ => none, leave := fun b => if b = 0 then [4, 5, 8] else [], loops := fun b => if b = 0 then some L_bits_Noise_0 else none }
def W_bits_Noise (a0 : Int) (a1 : Int) : Prop := (
  condP (if (if (if decide (a0 < (0 : Int)) = true then true else decide (a0 > (2147483647 : Int))) = true then true else decide (a1 < (0 : Int))) = true then true else decide (a1 > (4096 : Int)))
    (([] = if badSeed a0 a1 = true then [] else noiseL a0 a1) ∧
    ((1 : Int) = if badSeed a0 a1 = true then (1 : Int) else (0 : Int)) ∧
    True)
    (((0 : Int) ≤ (0 : Int)) ∧
    ((0 : Int) ≤ a1) ∧
    ((↑(1 : Nat) : Int) * a1 ≤ (281474976710656 : Int)) ∧
    (p_bits_Noise_0 (1 : Int) (IntKind.wrap IntKind.u32 a0) (IntKind.wrap IntKind.i64 ((1600 : Int) + a1)) (0 : Int) (List.replicate (0 : Nat) (0 : Int))) ∧
    (List.replicate (0 : Nat) (0 : Int) ++ runOut (1 : Nat) (Int.toNat (IntKind.wrap IntKind.u32 a0)) (0 : Nat) (Int.toNat (IntKind.wrap IntKind.i64 ((1600 : Int) + a1))) = if badSeed a0 a1 = true then [] else noiseL a0 a1) ∧
    ((0 : Int) = if badSeed a0 a1 = true then (1 : Int) else (0 : Int)) ∧
    True))
theorem V_bits_Noise (a0 : Int) (a1 : Int) : awp E_bits_Noise (bodyOf Try.f26) 0 (fin Try.prog S_bits_Noise (a0, a1, ()) [(4, none), (5, none)] 0) (initSt S_bits_Noise.par (a0, a1, ()) 69) = W_bits_Noise a0 a1 := by kernel_rfl
def B_bits_Noise_0 (t6 : Int) (t7 : Int) (t29 : Int) (t30 : Int) (r0 : (List Int)) (m : Nat) (K : AExit → St → Prop) : Prop := (
  condP (decide (t30 < t29))
    (condP (decide (t30 ≥ (1600 : Int)))
      (((List.length r0 + List.length [IntKind.wrap IntKind.u8 (bits BinOp.and IntKind.u32 (bits BinOp.xor IntKind.u32 t6 t7) (1 : Int))]) * (1 : Nat) ≤ (140737488355328 : Nat)) ∧
      ((0 : Int) ≤ (1 : Int)) ∧
      ((0 : Int) ≤ (3 : Int)) ∧
      ((0 : Int) ≤ (30 : Int)) ∧
      ((0 : Int) ≤ (1 : Int)) ∧
      ((0 : Int) ≤ (3 : Int)) ∧
      ((0 : Int) ≤ (2 : Int)) ∧
      ((0 : Int) ≤ (1 : Int)) ∧
      ((0 : Int) ≤ (30 : Int)) ∧
      (p_bits_Noise_0 (bits BinOp.or IntKind.u32 (Int.fdiv t6 ((2 : Int) ^ min (1 : Nat) (IntKind.bits IntKind.u32))) (IntKind.wrap IntKind.u32 (bits BinOp.and IntKind.u32 (bits BinOp.xor IntKind.u32 (Int.fdiv t6 ((2 : Int) ^ min (3 : Nat) (IntKind.bits IntKind.u32))) t6) (1 : Int) * (2 : Int) ^ min (30 : Nat) (IntKind.bits IntKind.u32)))) (bits BinOp.or IntKind.u32 (Int.fdiv t7 ((2 : Int) ^ min (1 : Nat) (IntKind.bits IntKind.u32))) (IntKind.wrap IntKind.u32 (bits BinOp.and IntKind.u32 (bits BinOp.xor IntKind.u32 (bits BinOp.xor IntKind.u32 (bits BinOp.xor IntKind.u32 (Int.fdiv t7 ((2 : Int) ^ min (3 : Nat) (IntKind.bits IntKind.u32))) (Int.fdiv t7 ((2 : Int) ^ min (2 : Nat) (IntKind.bits IntKind.u32)))) (Int.fdiv t7 ((2 : Int) ^ min (1 : Nat) (IntKind.bits IntKind.u32)))) t7) (1 : Int) * (2 : Int) ^ min (30 : Nat) (IntKind.bits IntKind.u32)))) t29 (IntKind.wrap IntKind.i64 (t30 + (1 : Int))) (List.append r0 [IntKind.wrap IntKind.u8 (bits BinOp.and IntKind.u32 (bits BinOp.xor IntKind.u32 t6 t7) (1 : Int))])) ∧
      (m_bits_Noise_0 (bits BinOp.or IntKind.u32 (Int.fdiv t6 ((2 : Int) ^ min (1 : Nat) (IntKind.bits IntKind.u32))) (IntKind.wrap IntKind.u32 (bits BinOp.and IntKind.u32 (bits BinOp.xor IntKind.u32 (Int.fdiv t6 ((2 : Int) ^ min (3 : Nat) (IntKind.bits IntKind.u32))) t6) (1 : Int) * (2 : Int) ^ min (30 : Nat) (IntKind.bits IntKind.u32)))) (bits BinOp.or IntKind.u32 (Int.fdiv t7 ((2 : Int) ^ min (1 : Nat) (IntKind.bits IntKind.u32))) (IntKind.wrap IntKind.u32 (bits BinOp.and IntKind.u32 (bits BinOp.xor IntKind.u32 (bits BinOp.xor IntKind.u32 (bits BinOp.xor IntKind.u32 (Int.fdiv t7 ((2 : Int) ^ min (3 : Nat) (IntKind.bits IntKind.u32))) (Int.fdiv t7 ((2 : Int) ^ min (2 : Nat) (IntKind.bits IntKind.u32)))) (Int.fdiv t7 ((2 : Int) ^ min (1 : Nat) (IntKind.bits IntKind.u32)))) t7) (1 : Int) * (2 : Int) ^ min (30 : Nat) (IntKind.bits IntKind.u32)))) t29 (IntKind.wrap IntKind.i64 (t30 + (1 : Int))) (List.append r0 [IntKind.wrap IntKind.u8 (bits BinOp.and IntKind.u32 (bits BinOp.xor IntKind.u32 t6 t7) (1 : Int))]) < m) ∧
      o_bits_Noise_0 (bits BinOp.or IntKind.u32 (Int.fdiv t6 ((2 : Int) ^ min (1 : Nat) (IntKind.bits IntKind.u32))) (IntKind.wrap IntKind.u32 (bits BinOp.and IntKind.u32 (bits BinOp.xor IntKind.u32 (Int.fdiv t6 ((2 : Int) ^ min (3 : Nat) (IntKind.bits IntKind.u32))) t6) (1 : Int) * (2 : Int) ^ min (30 : Nat) (IntKind.bits IntKind.u32)))) (bits BinOp.or IntKind.u32 (Int.fdiv t7 ((2 : Int) ^ min (1 : Nat) (IntKind.bits IntKind.u32))) (IntKind.wrap IntKind.u32 (bits BinOp.and IntKind.u32 (bits BinOp.xor IntKind.u32 (bits BinOp.xor IntKind.u32 (bits BinOp.xor IntKind.u32 (Int.fdiv t7 ((2 : Int) ^ min (3 : Nat) (IntKind.bits IntKind.u32))) (Int.fdiv t7 ((2 : Int) ^ min (2 : Nat) (IntKind.bits IntKind.u32)))) (Int.fdiv t7 ((2 : Int) ^ min (1 : Nat) (IntKind.bits IntKind.u32)))) t7) (1 : Int) * (2 : Int) ^ min (30 : Nat) (IntKind.bits IntKind.u32)))) t29 (IntKind.wrap IntKind.i64 (t30 + (1 : Int))) (List.append r0 [IntKind.wrap IntKind.u8 (bits BinOp.and IntKind.u32 (bits BinOp.xor IntKind.u32 t6 t7) (1 : Int))]) K)
      (((0 : Int) ≤ (1 : Int)) ∧
      ((0 : Int) ≤ (3 : Int)) ∧
      ((0 : Int) ≤ (30 : Int)) ∧
      ((0 : Int) ≤ (1 : Int)) ∧
      ((0 : Int) ≤ (3 : Int)) ∧
      ((0 : Int) ≤ (2 : Int)) ∧
      ((0 : Int) ≤ (1 : Int)) ∧
      ((0 : Int) ≤ (30 : Int)) ∧
      (p_bits_Noise_0 (bits BinOp.or IntKind.u32 (Int.fdiv t6 ((2 : Int) ^ min (1 : Nat) (IntKind.bits IntKind.u32))) (IntKind.wrap IntKind.u32 (bits BinOp.and IntKind.u32 (bits BinOp.xor IntKind.u32 (Int.fdiv t6 ((2 : Int) ^ min (3 : Nat) (IntKind.bits IntKind.u32))) t6) (1 : Int) * (2 : Int) ^ min (30 : Nat) (IntKind.bits IntKind.u32)))) (bits BinOp.or IntKind.u32 (Int.fdiv t7 ((2 : Int) ^ min (1 : Nat) (IntKind.bits IntKind.u32))) (IntKind.wrap IntKind.u32 (bits BinOp.and IntKind.u32 (bits BinOp.xor IntKind.u32 (bits BinOp.xor IntKind.u32 (bits BinOp.xor IntKind.u32 (Int.fdiv t7 ((2 : Int) ^ min (3 : Nat) (IntKind.bits IntKind.u32))) (Int.fdiv t7 ((2 : Int) ^ min (2 : Nat) (IntKind.bits IntKind.u32)))) (Int.fdiv t7 ((2 : Int) ^ min (1 : Nat) (IntKind.bits IntKind.u32)))) t7) (1 : Int) * (2 : Int) ^ min (30 : Nat) (IntKind.bits IntKind.u32)))) t29 (IntKind.wrap IntKind.i64 (t30 + (1 : Int))) r0) ∧
      (m_bits_Noise_0 (bits BinOp.or IntKind.u32 (Int.fdiv t6 ((2 : Int) ^ min (1 : Nat) (IntKind.bits IntKind.u32))) (IntKind.wrap IntKind.u32 (bits BinOp.and IntKind.u32 (bits BinOp.xor IntKind.u32 (Int.fdiv t6 ((2 : Int) ^ min (3 : Nat) (IntKind.bits IntKind.u32))) t6) (1 : Int) * (2 : Int) ^ min (30 : Nat) (IntKind.bits IntKind.u32)))) (bits BinOp.or IntKind.u32 (Int.fdiv t7 ((2 : Int) ^ min (1 : Nat) (IntKind.bits IntKind.u32))) (IntKind.wrap IntKind.u32 (bits BinOp.and IntKind.u32 (bits BinOp.xor IntKind.u32 (bits BinOp.xor IntKind.u32 (bits BinOp.xor IntKind.u32 (Int.fdiv t7 ((2 : Int) ^ min (3 : Nat) (IntKind.bits IntKind.u32))) (Int.fdiv t7 ((2 : Int) ^ min (2 : Nat) (IntKind.bits IntKind.u32)))) (Int.fdiv t7 ((2 : Int) ^ min (1 : Nat) (IntKind.bits IntKind.u32)))) t7) (1 : Int) * (2 : Int) ^ min (30 : Nat) (IntKind.bits IntKind.u32)))) t29 (IntKind.wrap IntKind.i64 (t30 + (1 : Int))) r0 < m) ∧
      o_bits_Noise_0 (bits BinOp.or IntKind.u32 (Int.fdiv t6 ((2 : Int) ^ min (1 : Nat) (IntKind.bits IntKind.u32))) (IntKind.wrap IntKind.u32 (bits BinOp.and IntKind.u32 (bits BinOp.xor IntKind.u32 (Int.fdiv t6 ((2 : Int) ^ min (3 : Nat) (IntKind.bits IntKind.u32))) t6) (1 : Int) * (2 : Int) ^ min (30 : Nat) (IntKind.bits IntKind.u32)))) (bits BinOp.or IntKind.u32 (Int.fdiv t7 ((2 : Int) ^ min (1 : Nat) (IntKind.bits IntKind.u32))) (IntKind.wrap IntKind.u32 (bits BinOp.and IntKind.u32 (bits BinOp.xor IntKind.u32 (bits BinOp.xor IntKind.u32 (bits BinOp.xor IntKind.u32 (Int.fdiv t7 ((2 : Int) ^ min (3 : Nat) (IntKind.bits IntKind.u32))) (Int.fdiv t7 ((2 : Int) ^ min (2 : Nat) (IntKind.bits IntKind.u32)))) (Int.fdiv t7 ((2 : Int) ^ min (1 : Nat) (IntKind.bits IntKind.u32)))) t7) (1 : Int) * (2 : Int) ^ min (30 : Nat) (IntKind.bits IntKind.u32)))) t29 (IntKind.wrap IntKind.i64 (t30 + (1 : Int))) r0 K))
    (X_bits_Noise_0_0 (r0) K))
theorem R_bits_Noise_0 (t6 : Int) (t7 : Int) (t29 : Int) (t30 : Int) (r0 : (List Int)) (m : Nat) (K : AExit → St → Prop) : awp E_bits_Noise (loopAt (bodyOf Try.f26) 0) 0 (roundP E_bits_Noise 0 L_bits_Noise_0 m K) (L_bits_Noise_0.abs (t6, t7, t29, t30, ()) (r0, ())) = B_bits_Noise_0 t6 t7 t29 t30 r0 m K := by kernel_rfl
theorem I_bits_Noise_0 (h : ∀ (t6 : Int) (t7 : Int) (t29 : Int) (t30 : Int) (r0 : (List Int)) (K : AExit → St → Prop), p_bits_Noise_0 t6 t7 t29 t30 r0 → o_bits_Noise_0 t6 t7 t29 t30 r0 K → B_bits_Noise_0 t6 t7 t29 t30 r0 (m_bits_Noise_0 t6 t7 t29 t30 r0) K) : LoopOK E_bits_Noise 0 (loopAt (bodyOf Try.f26) 0) L_bits_Noise_0 :=
  fun x y K hp ho => match x, y, hp, ho with | (t6, t7, t29, t30, ()), (r0, ()), hp, ho => (R_bits_Noise_0 t6 t7 t29 t30 r0 (m_bits_Noise_0 t6 t7 t29 t30 r0) K).mpr (h t6 t7 t29 t30 r0 K hp ho)
theorem G_bits_Noise : loopsAll E_bits_Noise (loopList (bodyOf Try.f26) 0) = (LoopOK E_bits_Noise 0 (loopAt (bodyOf Try.f26) 0) L_bits_Noise_0 ∧ True) := by kernel_rfl
theorem envok_bits_Noise  : EnvOK E_bits_Noise := ⟨sumsOf_ok (fun _ h => nomatch h), follows⟩
theorem whole_bits_Noise  (l0 : LoopOK E_bits_Noise 0 (loopAt (bodyOf Try.f26) 0) L_bits_Noise_0) (main : ∀ (a0 : Int) (a1 : Int), (True) → W_bits_Noise a0 a1) : SumOK Try.prog 26 S_bits_Noise :=
  fun_sound (E := E_bits_Noise) (envok_bits_Noise ) (fn := Try.f26) (c := bodyOf Try.f26) (ts := [(4, none), (5, none)]) S_bits_Noise Try.func26 (body_some (by kernel_rfl)) (by kernel_rfl) (by kernel_rfl) (by kernel_rfl) (G_bits_Noise.mpr ⟨l0, trivial⟩) (fun x hp => match x, hp with | (a0, a1, ()), hp => (V_bits_Noise a0 a1).mpr (main a0 a1 hp))
/-! ### bits_Cover -/
def L_bits_Cover_0 : Lift.Loop := Lift.Loop.mk (.v (.ro (.int .u8)) :: (u 6 ++ (.sl 0 :: (.v (.int .i64) :: (u 14 ++ (.v (.int .i64) :: (.v (.int .i64) :: (u 15)))))))) [(0, .row (.int .u8))] 1 (fun x y => p_bits_Cover_0 x.1 x.2.1 x.2.2.1 x.2.2.2.1 y.1) (fun x y => m_bits_Cover_0 x.1 x.2.1 x.2.2.1 x.2.2.2.1 y.1) (fun x y K => o_bits_Cover_0 x.1 x.2.1 x.2.2.1 x.2.2.2.1 y.1 K)
noncomputable def E_bits_Cover : Env := { P := Try.prog, sum := sumsOf [(53, S_bits_Check), (26, S_bits_Noise)], nio := 0, head := fun b => if b = 0 then ([0, 7, 8, 23, 24], []) else ([], []), after := fun _ => none, leave := fun b => if b = 0 then [4, 5, 7, 8] else [], loops := fun b => if b = 0 then some L_bits_Cover_0 else none }
def W_bits_Cover (a0 : (List Int)) (a1 : Int) : Prop := (
  ((↑(List.length a0) : Int) ≤ big ∧ ∀ (y : Int), y ∈ a0 → (0 : Int) ≤ y) ∧
  condP (bitsErr a0 != (0 : Int))
    (([] = coverL a0 a1) ∧
    (bitsErr a0 = coverErr a0 a1) ∧
    True)
    ((True) ∧
    (p_bits_Cover_0 a0 (if badSeed a1 (↑(List.length a0) : Int) = true then (1 : Int) else (0 : Int)) (↑(List.length (if badSeed a1 (↑(List.length a0) : Int) = true then [] else noiseL a1 (↑(List.length a0) : Int))) : Int) (0 : Int) (if badSeed a1 (↑(List.length a0) : Int) = true then [] else noiseL a1 (↑(List.length a0) : Int))) ∧
    ((mapFrom (if badSeed a1 (↑(List.length a0) : Int) = true then [] else noiseL a1 (↑(List.length a0) : Int)) (0 : Nat) fun (k : Nat) (x : Int) => (x + List.getD a0 k (0 : Int)) % (2 : Int)) = coverL a0 a1) ∧
    ((if badSeed a1 (↑(List.length a0) : Int) = true then (1 : Int) else (0 : Int)) = coverErr a0 a1) ∧
    True))
theorem V_bits_Cover (a0 : (List Int)) (a1 : Int) : awp E_bits_Cover (bodyOf Try.f27) 0 (fin Try.prog S_bits_Cover (a0, a1, ()) [(4, none), (5, none)] 0) (initSt S_bits_Cover.par (a0, a1, ()) 40) = W_bits_Cover a0 a1 := by kernel_rfl
def B_bits_Cover_0 (t0 : (List Int)) (t8 : Int) (t23 : Int) (t24 : Int) (r0 : (List Int)) (m : Nat) (K : AExit → St → Prop) : Prop := (
  condP (decide (t24 < t23))
    (((0 : Int) ≤ t24) ∧
    (t24 < (↑(List.length r0) : Int)) ∧
    ((0 : Int) ≤ t24) ∧
    (t24 < (↑(List.length t0) : Int)) ∧
    ((0 : Int) ≤ t24) ∧
    (t24 < (↑(List.length r0) : Int)) ∧
    (p_bits_Cover_0 t0 t8 t23 (IntKind.wrap IntKind.i64 (t24 + (1 : Int))) (List.set r0 (Int.toNat t24) (bits BinOp.xor IntKind.u8 (List.getD r0 (Int.toNat t24) (0 : Int)) (List.getD t0 (Int.toNat t24) (0 : Int))))) ∧
    (m_bits_Cover_0 t0 t8 t23 (IntKind.wrap IntKind.i64 (t24 + (1 : Int))) (List.set r0 (Int.toNat t24) (bits BinOp.xor IntKind.u8 (List.getD r0 (Int.toNat t24) (0 : Int)) (List.getD t0 (Int.toNat t24) (0 : Int)))) < m) ∧
    o_bits_Cover_0 t0 t8 t23 (IntKind.wrap IntKind.i64 (t24 + (1 : Int))) (List.set r0 (Int.toNat t24) (bits BinOp.xor IntKind.u8 (List.getD r0 (Int.toNat t24) (0 : Int)) (List.getD t0 (Int.toNat t24) (0 : Int)))) K)
    (X_bits_Cover_0_0 (t8) (r0) K))
theorem R_bits_Cover_0 (t0 : (List Int)) (t8 : Int) (t23 : Int) (t24 : Int) (r0 : (List Int)) (m : Nat) (K : AExit → St → Prop) : awp E_bits_Cover (loopAt (bodyOf Try.f27) 0) 0 (roundP E_bits_Cover 0 L_bits_Cover_0 m K) (L_bits_Cover_0.abs (t0, t8, t23, t24, ()) (r0, ())) = B_bits_Cover_0 t0 t8 t23 t24 r0 m K := by kernel_rfl
theorem I_bits_Cover_0 (h : ∀ (t0 : (List Int)) (t8 : Int) (t23 : Int) (t24 : Int) (r0 : (List Int)) (K : AExit → St → Prop), p_bits_Cover_0 t0 t8 t23 t24 r0 → o_bits_Cover_0 t0 t8 t23 t24 r0 K → B_bits_Cover_0 t0 t8 t23 t24 r0 (m_bits_Cover_0 t0 t8 t23 t24 r0) K) : LoopOK E_bits_Cover 0 (loopAt (bodyOf Try.f27) 0) L_bits_Cover_0 :=
  fun x y K hp ho => match x, y, hp, ho with | (t0, t8, t23, t24, ()), (r0, ()), hp, ho => (R_bits_Cover_0 t0 t8 t23 t24 r0 (m_bits_Cover_0 t0 t8 t23 t24 r0) K).mpr (h t0 t8 t23 t24 r0 K hp ho)
theorem G_bits_Cover : loopsAll E_bits_Cover (loopList (bodyOf Try.f27) 0) = (LoopOK E_bits_Cover 0 (loopAt (bodyOf Try.f27) 0) L_bits_Cover_0 ∧ True) := by kernel_rfl
theorem envok_bits_Cover (h_bits_Check : SumOK Try.prog 53 S_bits_Check) (h_bits_Noise : SumOK Try.prog 26 S_bits_Noise) : EnvOK E_bits_Cover := ⟨sumsOf_ok (List.forall_mem_cons.2 ⟨h_bits_Check, (List.forall_mem_cons.2 ⟨h_bits_Noise, (fun _ h => nomatch h)⟩)⟩), follows⟩
theorem whole_bits_Cover (h_bits_Check : SumOK Try.prog 53 S_bits_Check) (h_bits_Noise : SumOK Try.prog 26 S_bits_Noise) (l0 : LoopOK E_bits_Cover 0 (loopAt (bodyOf Try.f27) 0) L_bits_Cover_0) (main : ∀ (a0 : (List Int)) (a1 : Int), ((↑(List.length a0) : Int) ≤ big ∧ ∀ (y : Int), y ∈ a0 → (0 : Int) ≤ y) → W_bits_Cover a0 a1) : SumOK Try.prog 27 S_bits_Cover :=
  fun_sound (E := E_bits_Cover) (envok_bits_Cover h_bits_Check h_bits_Noise) (fn := Try.f27) (c := bodyOf Try.f27) (ts := [(4, none), (5, none)]) S_bits_Cover Try.func27 (body_some (by kernel_rfl)) (by kernel_rfl) (by kernel_rfl) (by kernel_rfl) (G_bits_Cover.mpr ⟨l0, trivial⟩) (fun x hp => match x, hp with | (a0, a1, ()), hp => (V_bits_Cover a0 a1).mpr (main a0 a1 hp))
/-! ### R_Noise -/
def L_R_Noise_0 : Lift.Loop := Lift.Loop.mk (.v (.int .i64) :: (.v (.int .i64) :: (u 3 ++ (.sl 0 :: (.sl 1 :: (.v (.int .i64) :: (u 94))))))) [(0, .row (.int .u8)), (1, .row (.int .u8))] 2 (fun x y => p_R_Noise_0 x.1 x.2.1 x.2.2.1 y.1 y.2.1) (fun x y => m_R_Noise_0 x.1 x.2.1 x.2.2.1 y.1 y.2.1) (fun x y K => o_R_Noise_0 x.1 x.2.1 x.2.2.1 y.1 y.2.1 K)
def L_R_Noise_2 : Lift.Loop := Lift.Loop.mk (u 1 ++ (.v (.int .i64) :: (u 3 ++ (.sl 0 :: (.sl 1 :: (u 1 ++ (.v (.int .i64) :: (u 93)))))))) [(0, .row (.int .u8)), (1, .row (.int .u8))] 2 (fun x y => p_R_Noise_2 x.1 x.2.1 y.1 y.2.1) (fun x y => m_R_Noise_2 x.1 x.2.1 y.1 y.2.1) (fun x y K => o_R_Noise_2 x.1 x.2.1 y.1 y.2.1 K)
def L_R_Noise_4 : Lift.Loop := Lift.Loop.mk (u 1 ++ (.v (.int .i64) :: (u 3 ++ (.sl 0 :: (.sl 1 :: (u 2 ++ (.sl 2 :: (.v (.int .i64) :: (u 91))))))))) [(0, .row (.int .u8)), (1, .row (.int .u8)), (2, .row (.int .u8))] 3 (fun x y => p_R_Noise_4 x.1 x.2.1 y.1 y.2.1 y.2.2.1) (fun x y => m_R_Noise_4 x.1 x.2.1 y.1 y.2.1 y.2.2.1) (fun x y K => o_R_Noise_4 x.1 x.2.1 y.1 y.2.1 y.2.2.1 K)
noncomputable def E_R_Noise : Env := { P := Try.prog, sum := sumsOf [], nio := 0, head := fun b => if b = 4 then ([1, 5, 6, 9, 10], [(9, (.int .u8))]) else if b = 2 then ([1, 5, 6, 8], []) else if b = 0 then ([0, 1, 5, 6, 7], []) else ([], []), after := fun _ => none, leave := fun b => if b = 4 then [4, 9] else if b = 2 then [1, 4, 5, 6] else if b = 0 then [1, 4, 5, 6] else [], loops := fun b => if b = 4 then some L_R_Noise_4 else if b = 2 then some L_R_Noise_2 else if b = 0 then some L_R_Noise_0 else none }
def W_R_Noise (a0 : Int) (a1 : Int) : Prop := (
  ((0 : Int) ≤ IntKind.wrap IntKind.i64 (IntKind.wrap IntKind.i64 ((1600 : Int) + a1) + (31 : Int))) ∧
  (IntKind.wrap IntKind.i64 (IntKind.wrap IntKind.i64 ((1600 : Int) + a1) + (31 : Int)) ≤ IntKind.wrap IntKind.i64 (IntKind.wrap IntKind.i64 ((1600 : Int) + a1) + (31 : Int))) ∧
  ((↑(1 : Nat) : Int) * IntKind.wrap IntKind.i64 (IntKind.wrap IntKind.i64 ((1600 : Int) + a1) + (31 : Int)) ≤ (281474976710656 : Int)) ∧
  ((0 : Int) ≤ IntKind.wrap IntKind.i64 (IntKind.wrap IntKind.i64 ((1600 : Int) + a1) + (31 : Int))) ∧
  (IntKind.wrap IntKind.i64 (IntKind.wrap IntKind.i64 ((1600 : Int) + a1) + (31 : Int)) ≤ IntKind.wrap IntKind.i64 (IntKind.wrap IntKind.i64 ((1600 : Int) + a1) + (31 : Int))) ∧
  ((↑(1 : Nat) : Int) * IntKind.wrap IntKind.i64 (IntKind.wrap IntKind.i64 ((1600 : Int) + a1) + (31 : Int)) ≤ (281474976710656 : Int)) ∧
  ((0 : Int) ≤ (0 : Int)) ∧
  ((0 : Int) < (↑(List.length (List.replicate (Int.toNat (IntKind.wrap IntKind.i64 (IntKind.wrap IntKind.i64 ((1600 : Int) + a1) + (31 : Int)))) (0 : Int))) : Int)) ∧
  (p_R_Noise_0 a0 a1 (0 : Int) (List.set (List.replicate (Int.toNat (IntKind.wrap IntKind.i64 (IntKind.wrap IntKind.i64 ((1600 : Int) + a1) + (31 : Int)))) (0 : Int)) (0 : Nat) (1 : Int)) (List.replicate (Int.toNat (IntKind.wrap IntKind.i64 (IntKind.wrap IntKind.i64 ((1600 : Int) + a1) + (31 : Int)))) (0 : Int))) ∧
  (p_R_Noise_2 a1 (31 : Int) (List.set (List.replicate (Int.toNat (IntKind.wrap IntKind.i64 (IntKind.wrap IntKind.i64 ((1600 : Int) + a1) + (31 : Int)))) (0 : Int)) (0 : Nat) (1 : Int)) (seedTo (List.replicate (Int.toNat (IntKind.wrap IntKind.i64 (IntKind.wrap IntKind.i64 ((1600 : Int) + a1) + (31 : Int)))) (0 : Int)) (0 : Nat) a0)) ∧
  (p_R_Noise_4 a1 (0 : Int) (ext fX (List.take (31 : Nat) (List.set (List.replicate (Int.toNat (IntKind.wrap IntKind.i64 (IntKind.wrap IntKind.i64 ((1600 : Int) + a1) + (31 : Int)))) (0 : Int)) (0 : Nat) (1 : Int))) (List.length (List.set (List.replicate (Int.toNat (IntKind.wrap IntKind.i64 (IntKind.wrap IntKind.i64 ((1600 : Int) + a1) + (31 : Int)))) (0 : Int)) (0 : Nat) (1 : Int)) - (31 : Nat))) (ext fY (List.take (31 : Nat) (seedTo (List.replicate (Int.toNat (IntKind.wrap IntKind.i64 (IntKind.wrap IntKind.i64 ((1600 : Int) + a1) + (31 : Int)))) (0 : Int)) (0 : Nat) a0)) (List.length (List.set (List.replicate (Int.toNat (IntKind.wrap IntKind.i64 (IntKind.wrap IntKind.i64 ((1600 : Int) + a1) + (31 : Int)))) (0 : Int)) (0 : Nat) (1 : Int)) - (31 : Nat))) []) ∧
  ([] ++ seg (fun (i : Nat) => (List.getD (ext fX (List.take (31 : Nat) (List.set (List.replicate (Int.toNat (IntKind.wrap IntKind.i64 (IntKind.wrap IntKind.i64 ((1600 : Int) + a1) + (31 : Int)))) (0 : Int)) (0 : Nat) (1 : Int))) (List.length (List.set (List.replicate (Int.toNat (IntKind.wrap IntKind.i64 (IntKind.wrap IntKind.i64 ((1600 : Int) + a1) + (31 : Int)))) (0 : Int)) (0 : Nat) (1 : Int)) - (31 : Nat))) ((1600 : Nat) + i) (0 : Int) + List.getD (ext fY (List.take (31 : Nat) (seedTo (List.replicate (Int.toNat (IntKind.wrap IntKind.i64 (IntKind.wrap IntKind.i64 ((1600 : Int) + a1) + (31 : Int)))) (0 : Int)) (0 : Nat) a0)) (List.length (List.set (List.replicate (Int.toNat (IntKind.wrap IntKind.i64 (IntKind.wrap IntKind.i64 ((1600 : Int) + a1) + (31 : Int)))) (0 : Int)) (0 : Nat) (1 : Int)) - (31 : Nat))) ((1600 : Nat) + i) (0 : Int)) % (2 : Int)) (0 : Nat) (Int.toNat a1) = noiseL a0 a1) ∧
  True)
theorem V_R_Noise (a0 : Int) (a1 : Int) : awp E_R_Noise (bodyOf Try.f28) 0 (fin Try.prog S_R_Noise (a0, a1, ()) [(4, none)] 0) (initSt S_R_Noise.par (a0, a1, ()) 102) = W_R_Noise a0 a1 := by kernel_rfl
def B_R_Noise_0 (t0 : Int) (t1 : Int) (t7 : Int) (r0 : (List Int)) (r1 : (List Int)) (m : Nat) (K : AExit → St → Prop) : Prop := (
  condP (decide (t7 < (31 : Int)))
    (((2 : Int) ≠ (0 : Int)) ∧
    ((0 : Int) ≤ t7) ∧
    (t7 < (↑(List.length r1) : Int)) ∧
    ((2 : Int) ≠ (0 : Int)) ∧
    (p_R_Noise_0 (IntKind.wrap IntKind.i64 (Int.tdiv t0 (2 : Int))) t1 (IntKind.wrap IntKind.i64 (t7 + (1 : Int))) r0 (List.set r1 (Int.toNat t7) (IntKind.wrap IntKind.u8 (Int.tmod t0 (2 : Int))))) ∧
    (m_R_Noise_0 (IntKind.wrap IntKind.i64 (Int.tdiv t0 (2 : Int))) t1 (IntKind.wrap IntKind.i64 (t7 + (1 : Int))) r0 (List.set r1 (Int.toNat t7) (IntKind.wrap IntKind.u8 (Int.tmod t0 (2 : Int)))) < m) ∧
    o_R_Noise_0 (IntKind.wrap IntKind.i64 (Int.tdiv t0 (2 : Int))) t1 (IntKind.wrap IntKind.i64 (t7 + (1 : Int))) r0 (List.set r1 (Int.toNat t7) (IntKind.wrap IntKind.u8 (Int.tmod t0 (2 : Int)))) K)
    (X_R_Noise_0_0 (t1) (r0) (r1) K))
theorem R_R_Noise_0 (t0 : Int) (t1 : Int) (t7 : Int) (r0 : (List Int)) (r1 : (List Int)) (m : Nat) (K : AExit → St → Prop) : awp E_R_Noise (loopAt (bodyOf Try.f28) 0) 0 (roundP E_R_Noise 0 L_R_Noise_0 m K) (L_R_Noise_0.abs (t0, t1, t7, ()) (r0, r1, ())) = B_R_Noise_0 t0 t1 t7 r0 r1 m K := by kernel_rfl
theorem I_R_Noise_0 (h : ∀ (t0 : Int) (t1 : Int) (t7 : Int) (r0 : (List Int)) (r1 : (List Int)) (K : AExit → St → Prop), p_R_Noise_0 t0 t1 t7 r0 r1 → o_R_Noise_0 t0 t1 t7 r0 r1 K → B_R_Noise_0 t0 t1 t7 r0 r1 (m_R_Noise_0 t0 t1 t7 r0 r1) K) : LoopOK E_R_Noise 0 (loopAt (bodyOf Try.f28) 0) L_R_Noise_0 :=
  fun x y K hp ho => match x, y, hp, ho with | (t0, t1, t7, ()), (r0, r1, ()), hp, ho => (R_R_Noise_0 t0 t1 t7 r0 r1 (m_R_Noise_0 t0 t1 t7 r0 r1) K).mpr (h t0 t1 t7 r0 r1 K hp ho)
def B_R_Noise_2 (t1 : Int) (t8 : Int) (r0 : (List Int)) (r1 : (List Int)) (m : Nat) (K : AExit → St → Prop) : Prop := (
  condP (decide (t8 < (↑(List.length r0) : Int)))
    (((0 : Int) ≤ IntKind.wrap IntKind.i64 (t8 - (28 : Int))) ∧
    (IntKind.wrap IntKind.i64 (t8 - (28 : Int)) < (↑(List.length r0) : Int)) ∧
    ((0 : Int) ≤ IntKind.wrap IntKind.i64 (t8 - (31 : Int))) ∧
    (IntKind.wrap IntKind.i64 (t8 - (31 : Int)) < (↑(List.length r0) : Int)) ∧
    ((2 : Int) ≠ (0 : Int)) ∧
    ((0 : Int) ≤ t8) ∧
    (t8 < (↑(List.length r0) : Int)) ∧
    ((0 : Int) ≤ IntKind.wrap IntKind.i64 (t8 - (28 : Int))) ∧
    (IntKind.wrap IntKind.i64 (t8 - (28 : Int)) < (↑(List.length r1) : Int)) ∧
    ((0 : Int) ≤ IntKind.wrap IntKind.i64 (t8 - (29 : Int))) ∧
    (IntKind.wrap IntKind.i64 (t8 - (29 : Int)) < (↑(List.length r1) : Int)) ∧
    ((0 : Int) ≤ IntKind.wrap IntKind.i64 (t8 - (30 : Int))) ∧
    (IntKind.wrap IntKind.i64 (t8 - (30 : Int)) < (↑(List.length r1) : Int)) ∧
    ((0 : Int) ≤ IntKind.wrap IntKind.i64 (t8 - (31 : Int))) ∧
    (IntKind.wrap IntKind.i64 (t8 - (31 : Int)) < (↑(List.length r1) : Int)) ∧
    ((2 : Int) ≠ (0 : Int)) ∧
    ((0 : Int) ≤ t8) ∧
    (t8 < (↑(List.length r1) : Int)) ∧
    (p_R_Noise_2 t1 (IntKind.wrap IntKind.i64 (t8 + (1 : Int))) (List.set r0 (Int.toNat t8) (Int.tmod (IntKind.wrap IntKind.u8 (List.getD r0 (Int.toNat (IntKind.wrap IntKind.i64 (t8 - (28 : Int)))) (0 : Int) + List.getD r0 (Int.toNat (IntKind.wrap IntKind.i64 (t8 - (31 : Int)))) (0 : Int))) (2 : Int))) (List.set r1 (Int.toNat t8) (Int.tmod (IntKind.wrap IntKind.u8 (IntKind.wrap IntKind.u8 (IntKind.wrap IntKind.u8 (List.getD r1 (Int.toNat (IntKind.wrap IntKind.i64 (t8 - (28 : Int)))) (0 : Int) + List.getD r1 (Int.toNat (IntKind.wrap IntKind.i64 (t8 - (29 : Int)))) (0 : Int)) + List.getD r1 (Int.toNat (IntKind.wrap IntKind.i64 (t8 - (30 : Int)))) (0 : Int)) + List.getD r1 (Int.toNat (IntKind.wrap IntKind.i64 (t8 - (31 : Int)))) (0 : Int))) (2 : Int)))) ∧
    (m_R_Noise_2 t1 (IntKind.wrap IntKind.i64 (t8 + (1 : Int))) (List.set r0 (Int.toNat t8) (Int.tmod (IntKind.wrap IntKind.u8 (List.getD r0 (Int.toNat (IntKind.wrap IntKind.i64 (t8 - (28 : Int)))) (0 : Int) + List.getD r0 (Int.toNat (IntKind.wrap IntKind.i64 (t8 - (31 : Int)))) (0 : Int))) (2 : Int))) (List.set r1 (Int.toNat t8) (Int.tmod (IntKind.wrap IntKind.u8 (IntKind.wrap IntKind.u8 (IntKind.wrap IntKind.u8 (List.getD r1 (Int.toNat (IntKind.wrap IntKind.i64 (t8 - (28 : Int)))) (0 : Int) + List.getD r1 (Int.toNat (IntKind.wrap IntKind.i64 (t8 - (29 : Int)))) (0 : Int)) + List.getD r1 (Int.toNat (IntKind.wrap IntKind.i64 (t8 - (30 : Int)))) (0 : Int)) + List.getD r1 (Int.toNat (IntKind.wrap IntKind.i64 (t8 - (31 : Int)))) (0 : Int))) (2 : Int))) < m) ∧
    o_R_Noise_2 t1 (IntKind.wrap IntKind.i64 (t8 + (1 : Int))) (List.set r0 (Int.toNat t8) (Int.tmod (IntKind.wrap IntKind.u8 (List.getD r0 (Int.toNat (IntKind.wrap IntKind.i64 (t8 - (28 : Int)))) (0 : Int) + List.getD r0 (Int.toNat (IntKind.wrap IntKind.i64 (t8 - (31 : Int)))) (0 : Int))) (2 : Int))) (List.set r1 (Int.toNat t8) (Int.tmod (IntKind.wrap IntKind.u8 (IntKind.wrap IntKind.u8 (IntKind.wrap IntKind.u8 (List.getD r1 (Int.toNat (IntKind.wrap IntKind.i64 (t8 - (28 : Int)))) (0 : Int) + List.getD r1 (Int.toNat (IntKind.wrap IntKind.i64 (t8 - (29 : Int)))) (0 : Int)) + List.getD r1 (Int.toNat (IntKind.wrap IntKind.i64 (t8 - (30 : Int)))) (0 : Int)) + List.getD r1 (Int.toNat (IntKind.wrap IntKind.i64 (t8 - (31 : Int)))) (0 : Int))) (2 : Int))) K)
    (X_R_Noise_2_0 (t1) (r0) (r1) K))
theorem R_R_Noise_2 (t1 : Int) (t8 : Int) (r0 : (List Int)) (r1 : (List Int)) (m : Nat) (K : AExit → St → Prop) : awp E_R_Noise (loopAt (bodyOf Try.f28) 2) 2 (roundP E_R_Noise 2 L_R_Noise_2 m K) (L_R_Noise_2.abs (t1, t8, ()) (r0, r1, ())) = B_R_Noise_2 t1 t8 r0 r1 m K := by kernel_rfl
theorem I_R_Noise_2 (h : ∀ (t1 : Int) (t8 : Int) (r0 : (List Int)) (r1 : (List Int)) (K : AExit → St → Prop), p_R_Noise_2 t1 t8 r0 r1 → o_R_Noise_2 t1 t8 r0 r1 K → B_R_Noise_2 t1 t8 r0 r1 (m_R_Noise_2 t1 t8 r0 r1) K) : LoopOK E_R_Noise 2 (loopAt (bodyOf Try.f28) 2) L_R_Noise_2 :=
  fun x y K hp ho => match x, y, hp, ho with | (t1, t8, ()), (r0, r1, ()), hp, ho => (R_R_Noise_2 t1 t8 r0 r1 (m_R_Noise_2 t1 t8 r0 r1) K).mpr (h t1 t8 r0 r1 K hp ho)
def B_R_Noise_4 (t1 : Int) (t10 : Int) (r0 : (List Int)) (r1 : (List Int)) (r2 : (List Int)) (m : Nat) (K : AExit → St → Prop) : Prop := (
  condP (decide (t10 < t1))
    (((0 : Int) ≤ IntKind.wrap IntKind.i64 ((1600 : Int) + t10)) ∧
    (IntKind.wrap IntKind.i64 ((1600 : Int) + t10) < (↑(List.length r0) : Int)) ∧
    ((0 : Int) ≤ IntKind.wrap IntKind.i64 ((1600 : Int) + t10)) ∧
    (IntKind.wrap IntKind.i64 ((1600 : Int) + t10) < (↑(List.length r1) : Int)) ∧
    ((2 : Int) ≠ (0 : Int)) ∧
    ((List.length r2 + List.length [Int.tmod (IntKind.wrap IntKind.u8 (List.getD r0 (Int.toNat (IntKind.wrap IntKind.i64 ((1600 : Int) + t10))) (0 : Int) + List.getD r1 (Int.toNat (IntKind.wrap IntKind.i64 ((1600 : Int) + t10))) (0 : Int))) (2 : Int)]) * (1 : Nat) ≤ (140737488355328 : Nat)) ∧
    (p_R_Noise_4 t1 (IntKind.wrap IntKind.i64 (t10 + (1 : Int))) r0 r1 (List.append r2 [Int.tmod (IntKind.wrap IntKind.u8 (List.getD r0 (Int.toNat (IntKind.wrap IntKind.i64 ((1600 : Int) + t10))) (0 : Int) + List.getD r1 (Int.toNat (IntKind.wrap IntKind.i64 ((1600 : Int) + t10))) (0 : Int))) (2 : Int)])) ∧
    (m_R_Noise_4 t1 (IntKind.wrap IntKind.i64 (t10 + (1 : Int))) r0 r1 (List.append r2 [Int.tmod (IntKind.wrap IntKind.u8 (List.getD r0 (Int.toNat (IntKind.wrap IntKind.i64 ((1600 : Int) + t10))) (0 : Int) + List.getD r1 (Int.toNat (IntKind.wrap IntKind.i64 ((1600 : Int) + t10))) (0 : Int))) (2 : Int)]) < m) ∧
    o_R_Noise_4 t1 (IntKind.wrap IntKind.i64 (t10 + (1 : Int))) r0 r1 (List.append r2 [Int.tmod (IntKind.wrap IntKind.u8 (List.getD r0 (Int.toNat (IntKind.wrap IntKind.i64 ((1600 : Int) + t10))) (0 : Int) + List.getD r1 (Int.toNat (IntKind.wrap IntKind.i64 ((1600 : Int) + t10))) (0 : Int))) (2 : Int)]) K)
    (X_R_Noise_4_0 (r2) K))
theorem R_R_Noise_4 (t1 : Int) (t10 : Int) (r0 : (List Int)) (r1 : (List Int)) (r2 : (List Int)) (m : Nat) (K : AExit → St → Prop) : awp E_R_Noise (loopAt (bodyOf Try.f28) 4) 4 (roundP E_R_Noise 4 L_R_Noise_4 m K) (L_R_Noise_4.abs (t1, t10, ()) (r0, r1, r2, ())) = B_R_Noise_4 t1 t10 r0 r1 r2 m K := by kernel_rfl
theorem I_R_Noise_4 (h : ∀ (t1 : Int) (t10 : Int) (r0 : (List Int)) (r1 : (List Int)) (r2 : (List Int)) (K : AExit → St → Prop), p_R_Noise_4 t1 t10 r0 r1 r2 → o_R_Noise_4 t1 t10 r0 r1 r2 K → B_R_Noise_4 t1 t10 r0 r1 r2 (m_R_Noise_4 t1 t10 r0 r1 r2) K) : LoopOK E_R_Noise 4 (loopAt (bodyOf Try.f28) 4) L_R_Noise_4 :=
  fun x y K hp ho => match x, y, hp, ho with | (t1, t10, ()), (r0, r1, r2, ()), hp, ho => (R_R_Noise_4 t1 t10 r0 r1 r2 (m_R_Noise_4 t1 t10 r0 r1 r2) K).mpr (h t1 t10 r0 r1 r2 K hp ho)
theorem G_R_Noise : loopsAll E_R_Noise (loopList (bodyOf Try.f28) 0) = (LoopOK E_R_Noise 0 (loopAt (bodyOf Try.f28) 0) L_R_Noise_0 ∧ LoopOK E_R_Noise 2 (loopAt (bodyOf Try.f28) 2) L_R_Noise_2 ∧ LoopOK E_R_Noise 4 (loopAt (bodyOf Try.f28) 4) L_R_Noise_4 ∧ True) := by kernel_rfl
theorem envok_R_Noise  : EnvOK E_R_Noise := ⟨sumsOf_ok (fun _ h => nomatch h), follows⟩
theorem whole_R_Noise  (l0 : LoopOK E_R_Noise 0 (loopAt (bodyOf Try.f28) 0) L_R_Noise_0) (l2 : LoopOK E_R_Noise 2 (loopAt (bodyOf Try.f28) 2) L_R_Noise_2) (l4 : LoopOK E_R_Noise 4 (loopAt (bodyOf Try.f28) 4) L_R_Noise_4) (main : ∀ (a0 : Int) (a1 : Int), ((0 : Int) ≤ a0 ∧ a0 ≤ (2147483647 : Int) ∧ (0 : Int) ≤ a1 ∧ a1 ≤ (4096 : Int)) → W_R_Noise a0 a1) : SumOK Try.prog 28 S_R_Noise :=
  fun_sound (E := E_R_Noise) (envok_R_Noise ) (fn := Try.f28) (c := bodyOf Try.f28) (ts := [(4, none)]) S_R_Noise Try.func28 (body_some (by kernel_rfl)) (by kernel_rfl) (by kernel_rfl) (by kernel_rfl) (G_R_Noise.mpr ⟨l0, l2, l4, trivial⟩) (fun x hp => match x, hp with | (a0, a1, ()), hp => (V_R_Noise a0 a1).mpr (main a0 a1 hp))
/-! ### R_Added -/
def L_R_Added_0 : Lift.Loop := Lift.Loop.mk (.v (.ro (.int .u8)) :: (.v (.ro (.int .u8)) :: (u 3 ++ (.sl 0 :: (.v (.int .i64) :: (u 20)))))) [(0, .row (.int .u8))] 1 (fun x y => p_R_Added_0 x.1 x.2.1 x.2.2.1 y.1) (fun x y => m_R_Added_0 x.1 x.2.1 x.2.2.1 y.1) (fun x y K => o_R_Added_0 x.1 x.2.1 x.2.2.1 y.1 K)
noncomputable def E_R_Added : Env := { P := Try.prog, sum := sumsOf [], nio := 0, head := fun b => if b = 0 then ([0, 1, 5, 6], [(5, (.int .u8))]) else ([], []), after := fun _ => none, leave := fun b => if b = 0 then [4, 5] else [], loops := fun b => if b = 0 then some L_R_Added_0 else none }
def W_R_Added (a0 : (List Int)) (a1 : (List Int)) : Prop := (
  (p_R_Added_0 a0 a1 (0 : Int) []) ∧
  ([] ++ seg (fun (k : Nat) => (List.getD a0 k (0 : Int) + List.getD a1 k (0 : Int)) % (2 : Int)) (0 : Nat) (List.length a0) = addL a0 a1) ∧
  True)
theorem V_R_Added (a0 : (List Int)) (a1 : (List Int)) : awp E_R_Added (bodyOf Try.f29) 0 (fin Try.prog S_R_Added (a0, a1, ()) [(4, none)] 0) (initSt S_R_Added.par (a0, a1, ()) 27) = W_R_Added a0 a1 := by kernel_rfl
def B_R_Added_0 (t0 : (List Int)) (t1 : (List Int)) (t6 : Int) (r0 : (List Int)) (m : Nat) (K : AExit → St → Prop) : Prop := (
  condP (decide (t6 < (↑(List.length t0) : Int)))
    (((0 : Int) ≤ t6) ∧
    (t6 < (↑(List.length t0) : Int)) ∧
    ((0 : Int) ≤ t6) ∧
    (t6 < (↑(List.length t1) : Int)) ∧
    ((2 : Int) ≠ (0 : Int)) ∧
    ((List.length r0 + List.length [Int.tmod (IntKind.wrap IntKind.u8 (List.getD t0 (Int.toNat t6) (0 : Int) + List.getD t1 (Int.toNat t6) (0 : Int))) (2 : Int)]) * (1 : Nat) ≤ (140737488355328 : Nat)) ∧
    (p_R_Added_0 t0 t1 (IntKind.wrap IntKind.i64 (t6 + (1 : Int))) (List.append r0 [Int.tmod (IntKind.wrap IntKind.u8 (List.getD t0 (Int.toNat t6) (0 : Int) + List.getD t1 (Int.toNat t6) (0 : Int))) (2 : Int)])) ∧
    (m_R_Added_0 t0 t1 (IntKind.wrap IntKind.i64 (t6 + (1 : Int))) (List.append r0 [Int.tmod (IntKind.wrap IntKind.u8 (List.getD t0 (Int.toNat t6) (0 : Int) + List.getD t1 (Int.toNat t6) (0 : Int))) (2 : Int)]) < m) ∧
    o_R_Added_0 t0 t1 (IntKind.wrap IntKind.i64 (t6 + (1 : Int))) (List.append r0 [Int.tmod (IntKind.wrap IntKind.u8 (List.getD t0 (Int.toNat t6) (0 : Int) + List.getD t1 (Int.toNat t6) (0 : Int))) (2 : Int)]) K)
    (X_R_Added_0_0 (r0) K))
theorem R_R_Added_0 (t0 : (List Int)) (t1 : (List Int)) (t6 : Int) (r0 : (List Int)) (m : Nat) (K : AExit → St → Prop) : awp E_R_Added (loopAt (bodyOf Try.f29) 0) 0 (roundP E_R_Added 0 L_R_Added_0 m K) (L_R_Added_0.abs (t0, t1, t6, ()) (r0, ())) = B_R_Added_0 t0 t1 t6 r0 m K := by kernel_rfl
theorem I_R_Added_0 (h : ∀ (t0 : (List Int)) (t1 : (List Int)) (t6 : Int) (r0 : (List Int)) (K : AExit → St → Prop), p_R_Added_0 t0 t1 t6 r0 → o_R_Added_0 t0 t1 t6 r0 K → B_R_Added_0 t0 t1 t6 r0 (m_R_Added_0 t0 t1 t6 r0) K) : LoopOK E_R_Added 0 (loopAt (bodyOf Try.f29) 0) L_R_Added_0 :=
  fun x y K hp ho => match x, y, hp, ho with | (t0, t1, t6, ()), (r0, ()), hp, ho => (R_R_Added_0 t0 t1 t6 r0 (m_R_Added_0 t0 t1 t6 r0) K).mpr (h t0 t1 t6 r0 K hp ho)
theorem G_R_Added : loopsAll E_R_Added (loopList (bodyOf Try.f29) 0) = (LoopOK E_R_Added 0 (loopAt (bodyOf Try.f29) 0) L_R_Added_0 ∧ True) := by kernel_rfl
theorem envok_R_Added  : EnvOK E_R_Added := ⟨sumsOf_ok (fun _ h => nomatch h), follows⟩
theorem whole_R_Added  (l0 : LoopOK E_R_Added 0 (loopAt (bodyOf Try.f29) 0) L_R_Added_0) (main : ∀ (a0 : (List Int)) (a1 : (List Int)), (Bits a0 ∧ Bits a1 ∧ List.length a0 ≤ List.length a1 ∧ (↑(List.length a0) : Int) ≤ (1000000 : Int)) → W_R_Added a0 a1) : SumOK Try.prog 29 S_R_Added :=
  fun_sound (E := E_R_Added) (envok_R_Added ) (fn := Try.f29) (c := bodyOf Try.f29) (ts := [(4, none)]) S_R_Added Try.func29 (body_some (by kernel_rfl)) (by kernel_rfl) (by kernel_rfl) (by kernel_rfl) (G_R_Added.mpr ⟨l0, trivial⟩) (fun x hp => match x, hp with | (a0, a1, ()), hp => (V_R_Added a0 a1).mpr (main a0 a1 hp))
/-! ### law_BitsNoise -/
noncomputable def E_law_BitsNoise : Env := { P := Try.prog, sum := sumsOf [(26, S_bits_Noise), (27, S_bits_Cover), (28, S_R_Noise), (25, S_R_SameBits), (22, S_R_Bits), (29, S_R_Added)], nio := 0, head := fun b => ([], []), after := fun _ => none, leave := fun b => [], loops := fun b => none }
def W_law_BitsNoise (a0 : (List Int)) (a1 : Int) (a2 : Int) : Prop := (
  (True) ∧
  ((↑(List.length a0) : Int) ≤ big ∧ ∀ (y : Int), y ∈ a0 → (0 : Int) ≤ y) ∧
  condP (if (if (!if decide (a1 ≥ (0 : Int)) = true then decide (a1 ≤ (2147483647 : Int)) else false) = true then true else decide (a2 < (0 : Int))) = true then true else decide (a2 > (4096 : Int)))
    (condP (if ((if badSeed a1 a2 = true then (1 : Int) else (0 : Int)) != (1 : Int)) = true then true else decide ((↑(List.length (if badSeed a1 a2 = true then [] else noiseL a1 a2)) : Int) > (0 : Int)))
      ((false = true) ∧
      True)
      (((↑(List.length a0) : Int) ≤ big) ∧
      condP (if (bitsErr a0 == (0 : Int)) = true then !if decide (a1 ≥ (0 : Int)) = true then decide (a1 ≤ (2147483647 : Int)) else false else false)
        (condP ((1 : Int) != (0 : Int))
          (((if (coverErr a0 a1 == (1 : Int)) = true then (↑(List.length (coverL a0 a1)) : Int) == (0 : Int) else false) = true) ∧
          True)
          (((coverErr a0 a1 == (0 : Int)) = true → (0 : Int) ≤ a1 ∧ a1 ≤ (2147483647 : Int) ∧ (0 : Int) ≤ (↑(List.length a0) : Int) ∧ (↑(List.length a0) : Int) ≤ (4096 : Int)) ∧
          ((coverErr a0 a1 == (0 : Int)) = true → Bits a0 ∧ Bits (noiseL a1 (↑(List.length a0) : Int)) ∧ List.length a0 ≤ List.length (noiseL a1 (↑(List.length a0) : Int)) ∧ (↑(List.length a0) : Int) ≤ (1000000 : Int)) ∧
          ((coverErr a0 a1 == (0 : Int)) = true → (↑(List.length (coverL a0 a1)) : Int) ≤ big) ∧
          ((if (coverErr a0 a1 == (0 : Int)) = true then decide (coverL a0 a1 = addL a0 (noiseL a1 (↑(List.length a0) : Int))) else false) = true) ∧
          True))
        (condP (bitsErr a0 != (0 : Int))
          (((if (coverErr a0 a1 == bitsErr a0) = true then (↑(List.length (coverL a0 a1)) : Int) == (0 : Int) else false) = true) ∧
          True)
          (((coverErr a0 a1 == (0 : Int)) = true → (0 : Int) ≤ a1 ∧ a1 ≤ (2147483647 : Int) ∧ (0 : Int) ≤ (↑(List.length a0) : Int) ∧ (↑(List.length a0) : Int) ≤ (4096 : Int)) ∧
          ((coverErr a0 a1 == (0 : Int)) = true → Bits a0 ∧ Bits (noiseL a1 (↑(List.length a0) : Int)) ∧ List.length a0 ≤ List.length (noiseL a1 (↑(List.length a0) : Int)) ∧ (↑(List.length a0) : Int) ≤ (1000000 : Int)) ∧
          ((coverErr a0 a1 == (0 : Int)) = true → (↑(List.length (coverL a0 a1)) : Int) ≤ big) ∧
          ((if (coverErr a0 a1 == (0 : Int)) = true then decide (coverL a0 a1 = addL a0 (noiseL a1 (↑(List.length a0) : Int))) else false) = true) ∧
          True))))
    ((((if badSeed a1 a2 = true then (1 : Int) else (0 : Int)) != (0 : Int)) = false → (0 : Int) ≤ a1 ∧ a1 ≤ (2147483647 : Int) ∧ (0 : Int) ≤ a2 ∧ a2 ≤ (4096 : Int)) ∧
    (((if badSeed a1 a2 = true then (1 : Int) else (0 : Int)) != (0 : Int)) = false → (↑(List.length (if badSeed a1 a2 = true then [] else noiseL a1 a2)) : Int) ≤ big) ∧
    condP (if ((if badSeed a1 a2 = true then (1 : Int) else (0 : Int)) != (0 : Int)) = true then true else !decide ((if badSeed a1 a2 = true then [] else noiseL a1 a2) = noiseL a1 a2))
      ((false = true) ∧
      True)
      (((↑(List.length a0) : Int) ≤ big) ∧
      condP (if (bitsErr a0 == (0 : Int)) = true then !if decide (a1 ≥ (0 : Int)) = true then decide (a1 ≤ (2147483647 : Int)) else false else false)
        (condP ((1 : Int) != (0 : Int))
          (((if (coverErr a0 a1 == (1 : Int)) = true then (↑(List.length (coverL a0 a1)) : Int) == (0 : Int) else false) = true) ∧
          True)
          (((coverErr a0 a1 == (0 : Int)) = true → (0 : Int) ≤ a1 ∧ a1 ≤ (2147483647 : Int) ∧ (0 : Int) ≤ (↑(List.length a0) : Int) ∧ (↑(List.length a0) : Int) ≤ (4096 : Int)) ∧
          ((coverErr a0 a1 == (0 : Int)) = true → Bits a0 ∧ Bits (noiseL a1 (↑(List.length a0) : Int)) ∧ List.length a0 ≤ List.length (noiseL a1 (↑(List.length a0) : Int)) ∧ (↑(List.length a0) : Int) ≤ (1000000 : Int)) ∧
          ((coverErr a0 a1 == (0 : Int)) = true → (↑(List.length (coverL a0 a1)) : Int) ≤ big) ∧
          ((if (coverErr a0 a1 == (0 : Int)) = true then decide (coverL a0 a1 = addL a0 (noiseL a1 (↑(List.length a0) : Int))) else false) = true) ∧
          True))
        (condP (bitsErr a0 != (0 : Int))
          (((if (coverErr a0 a1 == bitsErr a0) = true then (↑(List.length (coverL a0 a1)) : Int) == (0 : Int) else false) = true) ∧
          True)
          (((coverErr a0 a1 == (0 : Int)) = true → (0 : Int) ≤ a1 ∧ a1 ≤ (2147483647 : Int) ∧ (0 : Int) ≤ (↑(List.length a0) : Int) ∧ (↑(List.length a0) : Int) ≤ (4096 : Int)) ∧
          ((coverErr a0 a1 == (0 : Int)) = true → Bits a0 ∧ Bits (noiseL a1 (↑(List.length a0) : Int)) ∧ List.length a0 ≤ List.length (noiseL a1 (↑(List.length a0) : Int)) ∧ (↑(List.length a0) : Int) ≤ (1000000 : Int)) ∧
          ((coverErr a0 a1 == (0 : Int)) = true → (↑(List.length (coverL a0 a1)) : Int) ≤ big) ∧
          ((if (coverErr a0 a1 == (0 : Int)) = true then decide (coverL a0 a1 = addL a0 (noiseL a1 (↑(List.length a0) : Int))) else false) = true) ∧
          True)))))
theorem V_law_BitsNoise (a0 : (List Int)) (a1 : Int) (a2 : Int) : awp E_law_BitsNoise (bodyOf Try.f6) 0 (fin Try.prog S_law_BitsNoise (a0, a1, a2, ()) [(6, none)] 0) (initSt S_law_BitsNoise.par (a0, a1, a2, ()) 88) = W_law_BitsNoise a0 a1 a2 := by kernel_rfl
theorem G_law_BitsNoise : loopsAll E_law_BitsNoise (loopList (bodyOf Try.f6) 0) = (True) := by kernel_rfl
theorem envok_law_BitsNoise (h_bits_Noise : SumOK Try.prog 26 S_bits_Noise) (h_bits_Cover : SumOK Try.prog 27 S_bits_Cover) (h_R_Noise : SumOK Try.prog 28 S_R_Noise) (h_R_SameBits : SumOK Try.prog 25 S_R_SameBits) (h_R_Bits : SumOK Try.prog 22 S_R_Bits) (h_R_Added : SumOK Try.prog 29 S_R_Added) : EnvOK E_law_BitsNoise := ⟨sumsOf_ok (List.forall_mem_cons.2 ⟨h_bits_Noise, (List.forall_mem_cons.2 ⟨h_bits_Cover, (List.forall_mem_cons.2 ⟨h_R_Noise, (List.forall_mem_cons.2 ⟨h_R_SameBits, (List.forall_mem_cons.2 ⟨h_R_Bits, (List.forall_mem_cons.2 ⟨h_R_Added, (fun _ h => nomatch h)⟩)⟩)⟩)⟩)⟩)⟩), follows⟩
theorem whole_law_BitsNoise (h_bits_Noise : SumOK Try.prog 26 S_bits_Noise) (h_bits_Cover : SumOK Try.prog 27 S_bits_Cover) (h_R_Noise : SumOK Try.prog 28 S_R_Noise) (h_R_SameBits : SumOK Try.prog 25 S_R_SameBits) (h_R_Bits : SumOK Try.prog 22 S_R_Bits) (h_R_Added : SumOK Try.prog 29 S_R_Added)  (main : ∀ (a0 : (List Int)) (a1 : Int) (a2 : Int), ((↑(List.length a0) : Int) ≤ big ∧ ∀ (y : Int), y ∈ a0 → (0 : Int) ≤ y) → W_law_BitsNoise a0 a1 a2) : SumOK Try.prog 6 S_law_BitsNoise :=
  fun_sound (E := E_law_BitsNoise) (envok_law_BitsNoise h_bits_Noise h_bits_Cover h_R_Noise h_R_SameBits h_R_Bits h_R_Added) (fn := Try.f6) (c := bodyOf Try.f6) (ts := [(6, none)]) S_law_BitsNoise Try.func6 (body_some (by kernel_rfl)) (by kernel_rfl) (by kernel_rfl) (by kernel_rfl) (G_law_BitsNoise.mpr trivial) (fun x hp => match x, hp with | (a0, a1, a2, ()), hp => (V_law_BitsNoise a0 a1 a2).mpr (main a0 a1 a2 hp))
end Go.Spec
