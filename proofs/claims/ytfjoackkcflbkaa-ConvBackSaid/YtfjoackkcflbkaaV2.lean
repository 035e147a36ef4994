/- The runs of the functions, told. -/
import Derived.Test.YtfjoackkcflbkaaLF
import Derived.Test.YtfjoackkcflbkaaProg
import Derived.Test.YtfjoackkcflbkaaE2
import Derived.Test.YtfjoackkcflbkaaV1
set_option linter.unusedVariables false
set_option linter.unusedSimpArgs false
namespace Go.Spec
open Go Go.Lift Go.Proofs
attribute [local irreducible] Go.Lift.awp
/-! ### bits_Noise -/
def L_bits_Noise_0 : Lift.Loop := Lift.Loop.mk (u 6 ++ (.v (.int .u32) :: (.v (.int .u32) :: (.sl 0 :: (u 20 ++ (.v (.int .i64) :: (.v (.int .i64) :: (u 38)))))))) [(0, .row (.int .u8))] 1 (fun x y => p_bits_Noise_0 x.1 x.2.1 x.2.2.1 x.2.2.2.1 y.1) (fun x y => m_bits_Noise_0 x.1 x.2.1 x.2.2.1 x.2.2.2.1 y.1) (fun x y K => o_bits_Noise_0 x.1 x.2.1 x.2.2.1 x.2.2.2.1 y.1 K)
noncomputable def E_bits_Noise : Env := { P := Try.prog, sum := sumsOf [], nio := 0, head := fun b => if b = 0 then ([6, 7, 8, 29, 30], []) else ([], []), after := fun _ => none, leave := fun b => if b = 0 then [4, 5, 8] else [], loops := fun b => if b = 0 then some L_bits_Noise_0 else none }
def W_bits_Noise (a0 : Int) (a1 : Int) : Prop := (
  condP (if (if (if decide (a0 < (0 : Int)) = true then true else decide (a0 > (2147483647 : Int))) = true then true else decide (a1 < (0 : Int))) = true then true else decide (a1 > (4096 : Int)))
    (([] = if badSeed a0 a1 = true then [] else noiseL a0 a1) ∧
    ((1 : Int) = if badSeed a0 a1 = true then (1 : Int) else (0 : Int)) ∧
    True)
    (((0 : Int) ≤ (0 : Int)) ∧
    ((0 : Int) ≤ a1) ∧
    ((↑(1 : Nat) : Int) * a1 ≤ (281474976710656 : Int)) ∧
    (p_bits_Noise_0 (1 : Int) (IntKind.wrap IntKind.u32 a0) (IntKind.wrap IntKind.i64 ((1600 : Int) + a1)) (0 : Int) (List.replicate (0 : Nat) (0 : Int))) ∧
    (List.replicate (0 : Nat) (0 : Int) ++ runOut (1 : Nat) (Int.toNat (IntKind.wrap IntKind.u32 a0)) (0 : Nat) (Int.toNat (IntKind.wrap IntKind.i64 ((1600 : Int) + a1))) = if badSeed a0 a1 = true then [] else noiseL a0 a1) ∧
    ((0 : Int) = if badSeed a0 a1 = true then (1 : Int) else (0 : Int)) ∧
    True))
theorem V_bits_Noise (a0 : Int) (a1 : Int) : awp E_bits_Noise (bodyOf Try.f114) 0 (fin Try.prog S_bits_Noise (a0, a1, ()) [(4, none), (5, none)] 0) (initSt S_bits_Noise.par (a0, a1, ()) 69) = W_bits_Noise a0 a1 := by kernel_rfl
def B_bits_Noise_0 (t6 : Int) (t7 : Int) (t29 : Int) (t30 : Int) (r0 : (List Int)) (m : Nat) (K : AExit → St → Prop) : Prop := (
  condP (decide (t30 < t29))
    (condP (decide (t30 ≥ (1600 : Int)))
      (((List.length r0 + List.length [IntKind.wrap IntKind.u8 (bits BinOp.and IntKind.u32 (bits BinOp.xor IntKind.u32 t6 t7) (1 : Int))]) * (1 : Nat) ≤ (140737488355328 : Nat)) ∧
      ((0 : Int) ≤ (1 : Int)) ∧
      ((0 : Int) ≤ (3 : Int)) ∧
      ((0 : Int) ≤ (30 : Int)) ∧
      ((0 : Int) ≤ (1 : Int)) ∧
      ((0 : Int) ≤ (3 : Int)) ∧
      ((0 : Int) ≤ (2 : Int)) ∧
      ((0 : Int) ≤ (1 : Int)) ∧
      ((0 : Int) ≤ (30 : Int)) ∧
      (p_bits_Noise_0 (bits BinOp.or IntKind.u32 (Int.fdiv t6 ((2 : Int) ^ min (1 : Nat) (IntKind.bits IntKind.u32))) (IntKind.wrap IntKind.u32 (bits BinOp.and IntKind.u32 (bits BinOp.xor IntKind.u32 (Int.fdiv t6 ((2 : Int) ^ min (3 : Nat) (IntKind.bits IntKind.u32))) t6) (1 : Int) * (2 : Int) ^ min (30 : Nat) (IntKind.bits IntKind.u32)))) (bits BinOp.or IntKind.u32 (Int.fdiv t7 ((2 : Int) ^ min (1 : Nat) (IntKind.bits IntKind.u32))) (IntKind.wrap IntKind.u32 (bits BinOp.and IntKind.u32 (bits BinOp.xor IntKind.u32 (bits BinOp.xor IntKind.u32 (bits BinOp.xor IntKind.u32 (Int.fdiv t7 ((2 : Int) ^ min (3 : Nat) (IntKind.bits IntKind.u32))) (Int.fdiv t7 ((2 : Int) ^ min (2 : Nat) (IntKind.bits IntKind.u32)))) (Int.fdiv t7 ((2 : Int) ^ min (1 : Nat) (IntKind.bits IntKind.u32)))) t7) (1 : Int) * (2 : Int) ^ min (30 : Nat) (IntKind.bits IntKind.u32)))) t29 (IntKind.wrap IntKind.i64 (t30 + (1 : Int))) (List.append r0 [IntKind.wrap IntKind.u8 (bits BinOp.and IntKind.u32 (bits BinOp.xor IntKind.u32 t6 t7) (1 : Int))])) ∧
      (m_bits_Noise_0 (bits BinOp.or IntKind.u32 (Int.fdiv t6 ((2 : Int) ^ min (1 : Nat) (IntKind.bits IntKind.u32))) (IntKind.wrap IntKind.u32 (bits BinOp.and IntKind.u32 (bits BinOp.xor IntKind.u32 (Int.fdiv t6 ((2 : Int) ^ min (3 : Nat) (IntKind.bits IntKind.u32))) t6) (1 : Int) * (2 : Int) ^ min (30 : Nat) (IntKind.bits IntKind.u32)))) (bits BinOp.or IntKind.u32 (Int.fdiv t7 ((2 : Int) ^ min (1 : Nat) (IntKind.bits IntKind.u32))) (IntKind.wrap IntKind.u32 (bits BinOp.and IntKind.u32 (bits BinOp.xor IntKind.u32 (bits BinOp.xor IntKind.u32 (bits BinOp.xor IntKind.u32 (Int.fdiv t7 ((2 : Int) ^ min (3 : Nat) (IntKind.bits IntKind.u32))) (Int.fdiv t7 ((2 : Int) ^ min (2 : Nat) (IntKind.bits IntKind.u32)))) (Int.fdiv t7 ((2 : Int) ^ min (1 : Nat) (IntKind.bits IntKind.u32)))) t7) (1 : Int) * (2 : Int) ^ min (30 : Nat) (IntKind.bits IntKind.u32)))) t29 (IntKind.wrap IntKind.i64 (t30 + (1 : Int))) (List.append r0 [IntKind.wrap IntKind.u8 (bits BinOp.and IntKind.u32 (bits BinOp.xor IntKind.u32 t6 t7) (1 : Int))]) < m) ∧
      o_bits_Noise_0 (bits BinOp.or IntKind.u32 (Int.fdiv t6 ((2 : Int) ^ min (1 : Nat) (IntKind.bits IntKind.u32))) (IntKind.wrap IntKind.u32 (bits BinOp.and IntKind.u32 (bits BinOp.xor IntKind.u32 (Int.fdiv t6 ((2 : Int) ^ min (3 : Nat) (IntKind.bits IntKind.u32))) t6) (1 : Int) * (2 : Int) ^ min (30 : Nat) (IntKind.bits IntKind.u32)))) (bits BinOp.or IntKind.u32 (Int.fdiv t7 ((2 : Int) ^ min (1 : Nat) (IntKind.bits IntKind.u32))) (IntKind.wrap IntKind.u32 (bits BinOp.and IntKind.u32 (bits BinOp.xor IntKind.u32 (bits BinOp.xor IntKind.u32 (bits BinOp.xor IntKind.u32 (Int.fdiv t7 ((2 : Int) ^ min (3 : Nat) (IntKind.bits IntKind.u32))) (Int.fdiv t7 ((2 : Int) ^ min (2 : Nat) (IntKind.bits IntKind.u32)))) (Int.fdiv t7 ((2 : Int) ^ min (1 : Nat) (IntKind.bits IntKind.u32)))) t7) (1 : Int) * (2 : Int) ^ min (30 : Nat) (IntKind.bits IntKind.u32)))) t29 (IntKind.wrap IntKind.i64 (t30 + (1 : Int))) (List.append r0 [IntKind.wrap IntKind.u8 (bits BinOp.and IntKind.u32 (bits BinOp.xor IntKind.u32 t6 t7) (1 : Int))]) K)
      (((0 : Int) ≤ (1 : Int)) ∧
      ((0 : Int) ≤ (3 : Int)) ∧
      ((0 : Int) ≤ (30 : Int)) ∧
      ((0 : Int) ≤ (1 : Int)) ∧
      ((0 : Int) ≤ (3 : Int)) ∧
      ((0 : Int) ≤ (2 : Int)) ∧
      ((0 : Int) ≤ (1 : Int)) ∧
      ((0 : Int) ≤ (30 : Int)) ∧
      (p_bits_Noise_0 (bits BinOp.or IntKind.u32 (Int.fdiv t6 ((2 : Int) ^ min (1 : Nat) (IntKind.bits IntKind.u32))) (IntKind.wrap IntKind.u32 (bits BinOp.and IntKind.u32 (bits BinOp.xor IntKind.u32 (Int.fdiv t6 ((2 : Int) ^ min (3 : Nat) (IntKind.bits IntKind.u32))) t6) (1 : Int) * (2 : Int) ^ min (30 : Nat) (IntKind.bits IntKind.u32)))) (bits BinOp.or IntKind.u32 (Int.fdiv t7 ((2 : Int) ^ min (1 : Nat) (IntKind.bits IntKind.u32))) (IntKind.wrap IntKind.u32 (bits BinOp.and IntKind.u32 (bits BinOp.xor IntKind.u32 (bits BinOp.xor IntKind.u32 (bits BinOp.xor IntKind.u32 (Int.fdiv t7 ((2 : Int) ^ min (3 : Nat) (IntKind.bits IntKind.u32))) (Int.fdiv t7 ((2 : Int) ^ min (2 : Nat) (IntKind.bits IntKind.u32)))) (Int.fdiv t7 ((2 : Int) ^ min (1 : Nat) (IntKind.bits IntKind.u32)))) t7) (1 : Int) * (2 : Int) ^ min (30 : Nat) (IntKind.bits IntKind.u32)))) t29 (IntKind.wrap IntKind.i64 (t30 + (1 : Int))) r0) ∧
      (m_bits_Noise_0 (bits BinOp.or IntKind.u32 (Int.fdiv t6 ((2 : Int) ^ min (1 : Nat) (IntKind.bits IntKind.u32))) (IntKind.wrap IntKind.u32 (bits BinOp.and IntKind.u32 (bits BinOp.xor IntKind.u32 (Int.fdiv t6 ((2 : Int) ^ min (3 : Nat) (IntKind.bits IntKind.u32))) t6) (1 : Int) * (2 : Int) ^ min (30 : Nat) (IntKind.bits IntKind.u32)))) (bits BinOp.or IntKind.u32 (Int.fdiv t7 ((2 : Int) ^ min (1 : Nat) (IntKind.bits IntKind.u32))) (IntKind.wrap IntKind.u32 (bits BinOp.and IntKind.u32 (bits BinOp.xor IntKind.u32 (bits BinOp.xor IntKind.u32 (bits BinOp.xor IntKind.u32 (Int.fdiv t7 ((2 : Int) ^ min (3 : Nat) (IntKind.bits IntKind.u32))) (Int.fdiv t7 ((2 : Int) ^ min (2 : Nat) (IntKind.bits IntKind.u32)))) (Int.fdiv t7 ((2 : Int) ^ min (1 : Nat) (IntKind.bits IntKind.u32)))) t7) (1 : Int) * (2 : Int) ^ min (30 : Nat) (IntKind.bits IntKind.u32)))) t29 (IntKind.wrap IntKind.i64 (t30 + (1 : Int))) r0 < m) ∧
      o_bits_Noise_0 (bits BinOp.or IntKind.u32 (Int.fdiv t6 ((2 : Int) ^ min (1 : Nat) (IntKind.bits IntKind.u32))) (IntKind.wrap IntKind.u32 (bits BinOp.and IntKind.u32 (bits BinOp.xor IntKind.u32 (Int.fdiv t6 ((2 : Int) ^ min (3 : Nat) (IntKind.bits IntKind.u32))) t6) (1 : Int) * (2 : Int) ^ min (30 : Nat) (IntKind.bits IntKind.u32)))) (bits BinOp.or IntKind.u32 (Int.fdiv t7 ((2 : Int) ^ min (1 : Nat) (IntKind.bits IntKind.u32))) (IntKind.wrap IntKind.u32 (bits BinOp.and IntKind.u32 (bits BinOp.xor IntKind.u32 (bits BinOp.xor IntKind.u32 (bits BinOp.xor IntKind.u32 (Int.fdiv t7 ((2 : Int) ^ min (3 : Nat) (IntKind.bits IntKind.u32))) (Int.fdiv t7 ((2 : Int) ^ min (2 : Nat) (IntKind.bits IntKind.u32)))) (Int.fdiv t7 ((2 : Int) ^ min (1 : Nat) (IntKind.bits IntKind.u32)))) t7) (1 : Int) * (2 : Int) ^ min (30 : Nat) (IntKind.bits IntKind.u32)))) t29 (IntKind.wrap IntKind.i64 (t30 + (1 : Int))) r0 K))
    (X_bits_Noise_0_0 (r0) K))
theorem R_bits_Noise_0 (t6 : Int) (t7 : Int) (t29 : Int) (t30 : Int) (r0 : (List Int)) (m : Nat) (K : AExit → St → Prop) : awp E_bits_Noise (loopAt (bodyOf Try.f114) 0) 0 (roundP E_bits_Noise 0 L_bits_Noise_0 m K) (L_bits_Noise_0.abs (t6, t7, t29, t30, ()) (r0, ())) = B_bits_Noise_0 t6 t7 t29 t30 r0 m K := by kernel_rfl
theorem I_bits_Noise_0 (h : ∀ (t6 : Int) (t7 : Int) (t29 : Int) (t30 : Int) (r0 : (List Int)) (K : AExit → St → Prop), p_bits_Noise_0 t6 t7 t29 t30 r0 → o_bits_Noise_0 t6 t7 t29 t30 r0 K → B_bits_Noise_0 t6 t7 t29 t30 r0 (m_bits_Noise_0 t6 t7 t29 t30 r0) K) : LoopOK E_bits_Noise 0 (loopAt (bodyOf Try.f114) 0) L_bits_Noise_0 :=
  fun x y K hp ho => match x, y, hp, ho with | (t6, t7, t29, t30, ()), (r0, ()), hp, ho => (R_bits_Noise_0 t6 t7 t29 t30 r0 (m_bits_Noise_0 t6 t7 t29 t30 r0) K).mpr (h t6 t7 t29 t30 r0 K hp ho)
theorem G_bits_Noise : loopsAll E_bits_Noise (loopList (bodyOf Try.f114) 0) = (LoopOK E_bits_Noise 0 (loopAt (bodyOf Try.f114) 0) L_bits_Noise_0 ∧ True) := by kernel_rfl
theorem envok_bits_Noise  : EnvOK E_bits_Noise := ⟨sumsOf_ok (fun _ h => nomatch h), follows⟩
theorem whole_bits_Noise  (l0 : LoopOK E_bits_Noise 0 (loopAt (bodyOf Try.f114) 0) L_bits_Noise_0) (main : ∀ (a0 : Int) (a1 : Int), (True) → W_bits_Noise a0 a1) : SumOK Try.prog 114 S_bits_Noise :=
  fun_sound (E := E_bits_Noise) (envok_bits_Noise ) (fn := Try.f114) (c := bodyOf Try.f114) (ts := [(4, none), (5, none)]) S_bits_Noise Try.func114 (body_some (by kernel_rfl)) (by kernel_rfl) (by kernel_rfl) (by kernel_rfl) (G_bits_Noise.mpr ⟨l0, trivial⟩) (fun x hp => match x, hp with | (a0, a1, ()), hp => (V_bits_Noise a0 a1).mpr (main a0 a1 hp))
/-! ### bits_Cover -/
def L_bits_Cover_0 : Lift.Loop := Lift.Loop.mk (.v (.ro (.int .u8)) :: (u 6 ++ (.sl 0 :: (.v (.int .i64) :: (u 14 ++ (.v (.int .i64) :: (.v (.int .i64) :: (u 15)))))))) [(0, .row (.int .u8))] 1 (fun x y => p_bits_Cover_0 x.1 x.2.1 x.2.2.1 x.2.2.2.1 y.1) (fun x y => m_bits_Cover_0 x.1 x.2.1 x.2.2.1 x.2.2.2.1 y.1) (fun x y K => o_bits_Cover_0 x.1 x.2.1 x.2.2.1 x.2.2.2.1 y.1 K)
noncomputable def E_bits_Cover : Env := { P := Try.prog, sum := sumsOf [(74, S_bits_Check), (114, S_bits_Noise)], nio := 0, head := fun b => if b = 0 then ([0, 7, 8, 23, 24], []) else ([], []), after := fun _ => none, leave := fun b => if b = 0 then [4, 5, 7, 8] else [], loops := fun b => if b = 0 then some L_bits_Cover_0 else none }
def W_bits_Cover (a0 : (List Int)) (a1 : Int) : Prop := (
  ((↑(List.length a0) : Int) ≤ big ∧ ∀ (y : Int), y ∈ a0 → (0 : Int) ≤ y) ∧
  condP (bitsErr a0 != (0 : Int))
    (([] = coverL a0 a1) ∧
    (bitsErr a0 = coverErr a0 a1) ∧
    True)
    ((True) ∧
    (p_bits_Cover_0 a0 (if badSeed a1 (↑(List.length a0) : Int) = true then (1 : Int) else (0 : Int)) (↑(List.length (if badSeed a1 (↑(List.length a0) : Int) = true then [] else noiseL a1 (↑(List.length a0) : Int))) : Int) (0 : Int) (if badSeed a1 (↑(List.length a0) : Int) = true then [] else noiseL a1 (↑(List.length a0) : Int))) ∧
    ((mapFrom (if badSeed a1 (↑(List.length a0) : Int) = true then [] else noiseL a1 (↑(List.length a0) : Int)) (0 : Nat) fun (k : Nat) (x : Int) => (x + List.getD a0 k (0 : Int)) % (2 : Int)) = coverL a0 a1) ∧
    ((if badSeed a1 (↑(List.length a0) : Int) = true then (1 : Int) else (0 : Int)) = coverErr a0 a1) ∧
    True))
theorem V_bits_Cover (a0 : (List Int)) (a1 : Int) : awp E_bits_Cover (bodyOf Try.f68) 0 (fin Try.prog S_bits_Cover (a0, a1, ()) [(4, none), (5, none)] 0) (initSt S_bits_Cover.par (a0, a1, ()) 40) = W_bits_Cover a0 a1 := by kernel_rfl
def B_bits_Cover_0 (t0 : (List Int)) (t8 : Int) (t23 : Int) (t24 : Int) (r0 : (List Int)) (m : Nat) (K : AExit → St → Prop) : Prop := (
  condP (decide (t24 < t23))
    (((0 : Int) ≤ t24) ∧
    (t24 < (↑(List.length r0) : Int)) ∧
    ((0 : Int) ≤ t24) ∧
    (t24 < (↑(List.length t0) : Int)) ∧
    ((0 : Int) ≤ t24) ∧
    (t24 < (↑(List.length r0) : Int)) ∧
    (p_bits_Cover_0 t0 t8 t23 (IntKind.wrap IntKind.i64 (t24 + (1 : Int))) (List.set r0 (Int.toNat t24) (bits BinOp.xor IntKind.u8 (List.getD r0 (Int.toNat t24) (0 : Int)) (List.getD t0 (Int.toNat t24) (0 : Int))))) ∧
    (m_bits_Cover_0 t0 t8 t23 (IntKind.wrap IntKind.i64 (t24 + (1 : Int))) (List.set r0 (Int.toNat t24) (bits BinOp.xor IntKind.u8 (List.getD r0 (Int.toNat t24) (0 : Int)) (List.getD t0 (Int.toNat t24) (0 : Int)))) < m) ∧
    o_bits_Cover_0 t0 t8 t23 (IntKind.wrap IntKind.i64 (t24 + (1 : Int))) (List.set r0 (Int.toNat t24) (bits BinOp.xor IntKind.u8 (List.getD r0 (Int.toNat t24) (0 : Int)) (List.getD t0 (Int.toNat t24) (0 : Int)))) K)
    (X_bits_Cover_0_0 (t8) (r0) K))
theorem R_bits_Cover_0 (t0 : (List Int)) (t8 : Int) (t23 : Int) (t24 : Int) (r0 : (List Int)) (m : Nat) (K : AExit → St → Prop) : awp E_bits_Cover (loopAt (bodyOf Try.f68) 0) 0 (roundP E_bits_Cover 0 L_bits_Cover_0 m K) (L_bits_Cover_0.abs (t0, t8, t23, t24, ()) (r0, ())) = B_bits_Cover_0 t0 t8 t23 t24 r0 m K := by kernel_rfl
theorem I_bits_Cover_0 (h : ∀ (t0 : (List Int)) (t8 : Int) (t23 : Int) (t24 : Int) (r0 : (List Int)) (K : AExit → St → Prop), p_bits_Cover_0 t0 t8 t23 t24 r0 → o_bits_Cover_0 t0 t8 t23 t24 r0 K → B_bits_Cover_0 t0 t8 t23 t24 r0 (m_bits_Cover_0 t0 t8 t23 t24 r0) K) : LoopOK E_bits_Cover 0 (loopAt (bodyOf Try.f68) 0) L_bits_Cover_0 :=
  fun x y K hp ho => match x, y, hp, ho with | (t0, t8, t23, t24, ()), (r0, ()), hp, ho => (R_bits_Cover_0 t0 t8 t23 t24 r0 (m_bits_Cover_0 t0 t8 t23 t24 r0) K).mpr (h t0 t8 t23 t24 r0 K hp ho)
theorem G_bits_Cover : loopsAll E_bits_Cover (loopList (bodyOf Try.f68) 0) = (LoopOK E_bits_Cover 0 (loopAt (bodyOf Try.f68) 0) L_bits_Cover_0 ∧ True) := by kernel_rfl
theorem envok_bits_Cover (h_bits_Check : SumOK Try.prog 74 S_bits_Check) (h_bits_Noise : SumOK Try.prog 114 S_bits_Noise) : EnvOK E_bits_Cover := ⟨sumsOf_ok (List.forall_mem_cons.2 ⟨h_bits_Check, (List.forall_mem_cons.2 ⟨h_bits_Noise, (fun _ h => nomatch h)⟩)⟩), follows⟩
theorem whole_bits_Cover (h_bits_Check : SumOK Try.prog 74 S_bits_Check) (h_bits_Noise : SumOK Try.prog 114 S_bits_Noise) (l0 : LoopOK E_bits_Cover 0 (loopAt (bodyOf Try.f68) 0) L_bits_Cover_0) (main : ∀ (a0 : (List Int)) (a1 : Int), ((↑(List.length a0) : Int) ≤ big ∧ ∀ (y : Int), y ∈ a0 → (0 : Int) ≤ y) → W_bits_Cover a0 a1) : SumOK Try.prog 68 S_bits_Cover :=
  fun_sound (E := E_bits_Cover) (envok_bits_Cover h_bits_Check h_bits_Noise) (fn := Try.f68) (c := bodyOf Try.f68) (ts := [(4, none), (5, none)]) S_bits_Cover Try.func68 (body_some (by kernel_rfl)) (by kernel_rfl) (by kernel_rfl) (by kernel_rfl) (G_bits_Cover.mpr ⟨l0, trivial⟩) (fun x hp => match x, hp with | (a0, a1, ()), hp => (V_bits_Cover a0 a1).mpr (main a0 a1 hp))
/-! ### R_Added -/
def L_R_Added_0 : Lift.Loop := Lift.Loop.mk (.v (.ro (.int .u8)) :: (.v (.ro (.int .u8)) :: (u 3 ++ (.sl 0 :: (.v (.int .i64) :: (u 20)))))) [(0, .row (.int .u8))] 1 (fun x y => p_R_Added_0 x.1 x.2.1 x.2.2.1 y.1) (fun x y => m_R_Added_0 x.1 x.2.1 x.2.2.1 y.1) (fun x y K => o_R_Added_0 x.1 x.2.1 x.2.2.1 y.1 K)
noncomputable def E_R_Added : Env := { P := Try.prog, sum := sumsOf [], nio := 0, head := fun b => if b = 0 then ([0, 1, 5, 6], [(5, (.int .u8))]) else ([], []), after := fun _ => none, leave := fun b => if b = 0 then [4, 5] else [], loops := fun b => if b = 0 then some L_R_Added_0 else none }
def W_R_Added (a0 : (List Int)) (a1 : (List Int)) : Prop := (
  (p_R_Added_0 a0 a1 (0 : Int) []) ∧
  ([] ++ seg (fun (k : Nat) => (List.getD a0 k (0 : Int) + List.getD a1 k (0 : Int)) % (2 : Int)) (0 : Nat) (List.length a0) = addL a0 a1) ∧
  True)
theorem V_R_Added (a0 : (List Int)) (a1 : (List Int)) : awp E_R_Added (bodyOf Try.f99) 0 (fin Try.prog S_R_Added (a0, a1, ()) [(4, none)] 0) (initSt S_R_Added.par (a0, a1, ()) 27) = W_R_Added a0 a1 := by kernel_rfl
def B_R_Added_0 (t0 : (List Int)) (t1 : (List Int)) (t6 : Int) (r0 : (List Int)) (m : Nat) (K : AExit → St → Prop) : Prop := (
  condP (decide (t6 < (↑(List.length t0) : Int)))
    (((0 : Int) ≤ t6) ∧
    (t6 < (↑(List.length t0) : Int)) ∧
    ((0 : Int) ≤ t6) ∧
    (t6 < (↑(List.length t1) : Int)) ∧
    ((2 : Int) ≠ (0 : Int)) ∧
    ((List.length r0 + List.length [Int.tmod (IntKind.wrap IntKind.u8 (List.getD t0 (Int.toNat t6) (0 : Int) + List.getD t1 (Int.toNat t6) (0 : Int))) (2 : Int)]) * (1 : Nat) ≤ (140737488355328 : Nat)) ∧
    (p_R_Added_0 t0 t1 (IntKind.wrap IntKind.i64 (t6 + (1 : Int))) (List.append r0 [Int.tmod (IntKind.wrap IntKind.u8 (List.getD t0 (Int.toNat t6) (0 : Int) + List.getD t1 (Int.toNat t6) (0 : Int))) (2 : Int)])) ∧
    (m_R_Added_0 t0 t1 (IntKind.wrap IntKind.i64 (t6 + (1 : Int))) (List.append r0 [Int.tmod (IntKind.wrap IntKind.u8 (List.getD t0 (Int.toNat t6) (0 : Int) + List.getD t1 (Int.toNat t6) (0 : Int))) (2 : Int)]) < m) ∧
    o_R_Added_0 t0 t1 (IntKind.wrap IntKind.i64 (t6 + (1 : Int))) (List.append r0 [Int.tmod (IntKind.wrap IntKind.u8 (List.getD t0 (Int.toNat t6) (0 : Int) + List.getD t1 (Int.toNat t6) (0 : Int))) (2 : Int)]) K)
    (X_R_Added_0_0 (r0) K))
theorem R_R_Added_0 (t0 : (List Int)) (t1 : (List Int)) (t6 : Int) (r0 : (List Int)) (m : Nat) (K : AExit → St → Prop) : awp E_R_Added (loopAt (bodyOf Try.f99) 0) 0 (roundP E_R_Added 0 L_R_Added_0 m K) (L_R_Added_0.abs (t0, t1, t6, ()) (r0, ())) = B_R_Added_0 t0 t1 t6 r0 m K := by kernel_rfl
theorem I_R_Added_0 (h : ∀ (t0 : (List Int)) (t1 : (List Int)) (t6 : Int) (r0 : (List Int)) (K : AExit → St → Prop), p_R_Added_0 t0 t1 t6 r0 → o_R_Added_0 t0 t1 t6 r0 K → B_R_Added_0 t0 t1 t6 r0 (m_R_Added_0 t0 t1 t6 r0) K) : LoopOK E_R_Added 0 (loopAt (bodyOf Try.f99) 0) L_R_Added_0 :=
  fun x y K hp ho => match x, y, hp, ho with | (t0, t1, t6, ()), (r0, ()), hp, ho => (R_R_Added_0 t0 t1 t6 r0 (m_R_Added_0 t0 t1 t6 r0) K).mpr (h t0 t1 t6 r0 K hp ho)
theorem G_R_Added : loopsAll E_R_Added (loopList (bodyOf Try.f99) 0) = (LoopOK E_R_Added 0 (loopAt (bodyOf Try.f99) 0) L_R_Added_0 ∧ True) := by kernel_rfl
theorem envok_R_Added  : EnvOK E_R_Added := ⟨sumsOf_ok (fun _ h => nomatch h), follows⟩
theorem whole_R_Added  (l0 : LoopOK E_R_Added 0 (loopAt (bodyOf Try.f99) 0) L_R_Added_0) (main : ∀ (a0 : (List Int)) (a1 : (List Int)), (Bits a0 ∧ Bits a1 ∧ List.length a0 ≤ List.length a1 ∧ (↑(List.length a0) : Int) ≤ (1000000 : Int)) → W_R_Added a0 a1) : SumOK Try.prog 99 S_R_Added :=
  fun_sound (E := E_R_Added) (envok_R_Added ) (fn := Try.f99) (c := bodyOf Try.f99) (ts := [(4, none)]) S_R_Added Try.func99 (body_some (by kernel_rfl)) (by kernel_rfl) (by kernel_rfl) (by kernel_rfl) (G_R_Added.mpr ⟨l0, trivial⟩) (fun x hp => match x, hp with | (a0, a1, ()), hp => (V_R_Added a0 a1).mpr (main a0 a1 hp))
end Go.Spec
