/- The runs of the functions, told. -/
import Derived.Test.YtfjoackkcflbkaaLF
import Derived.Test.YtfjoackkcflbkaaProg
import Derived.Test.YtfjoackkcflbkaaEB
import Derived.Test.YtfjoackkcflbkaaV10
import Derived.Test.YtfjoackkcflbkaaV3
import Derived.Test.YtfjoackkcflbkaaV4
import Derived.Test.YtfjoackkcflbkaaV1
set_option linter.unusedVariables false
set_option linter.unusedSimpArgs false
namespace Go.Spec
open Go Go.Lift Go.Proofs
attribute [local irreducible] Go.Lift.awp
/-! ### keep_heard -/
def L_keep_heard_0 : Lift.Loop := Lift.Loop.mk (.v (.ro (.int .u8)) :: (.v (.ro (.int .i64)) :: (u 4 ++ (.sl 0 :: (.v (.int .i64) :: (u 35)))))) [(0, .row (.int .i64))] 1 (fun x y => p_keep_heard_0 x.1 x.2.1 x.2.2.1 y.1) (fun x y => m_keep_heard_0 x.1 x.2.1 x.2.2.1 y.1) (fun x y K => o_keep_heard_0 x.1 x.2.1 x.2.2.1 y.1 K)
noncomputable def E_keep_heard : Env := { P := Try.prog, sum := sumsOf [], nio := 0, head := fun b => if b = 0 then ([0, 1, 6, 7, 28, 29], [(6, (.int .i64))]) else ([], []), after := fun _ => none, leave := fun b => if b = 0 then [4, 5, 6] else [], loops := fun b => if b = 0 then some L_keep_heard_0 else none }
def W_keep_heard (a0 : (List Int)) (a1 : (List Int)) : Prop := (
  (p_keep_heard_0 a0 a1 (0 : Int) (@List.nil Int)) ∧
  (@List.nil Int ++ seg (fun (i : Nat) => sgS (List.getD a0 i (0 : Int)) (lvF a1 i)) (0 : Nat) (List.length a0) = hrd a0 a1) ∧
  (true = true) ∧
  True)
theorem V_keep_heard (a0 : (List Int)) (a1 : (List Int)) : awp E_keep_heard (bodyOf Try.f44) 0 (fin Try.prog S_keep_heard (a0, a1, ()) [(4, none), (5, none)] 0) (initSt S_keep_heard.par (a0, a1, ()) 43) = W_keep_heard a0 a1 := by kernel_rfl
def B_keep_heard_0 (t0 : (List Int)) (t1 : (List Int)) (t7 : Int) (r0 : (List Int)) (m : Nat) (K : AExit → St → Prop) : Prop := (
  condP (decide (t7 < (↑(List.length t0) : Int)))
    (condP (decide ((↑(List.length t1) : Int) > (0 : Int)))
      (((↑(List.length t1) : Int) ≠ (0 : Int)) ∧
      ((0 : Int) ≤ Int.tmod t7 (↑(List.length t1) : Int)) ∧
      (Int.tmod t7 (↑(List.length t1) : Int) < (↑(List.length t1) : Int)) ∧
      condP (if decide (List.getD t1 (Int.toNat (Int.tmod t7 (↑(List.length t1) : Int))) (0 : Int) < (1 : Int)) = true then true else decide (List.getD t1 (Int.toNat (Int.tmod t7 (↑(List.length t1) : Int))) (0 : Int) > (100000 : Int)))
        (((0 : Int) ≤ t7) ∧
        (t7 < (↑(List.length t0) : Int)) ∧
        condP (List.getD t0 (Int.toNat t7) (0 : Int) == (1 : Int))
          (((List.length r0 + List.length [IntKind.wrap IntKind.i64 ((0 : Int) - (7 : Int))]) * (8 : Nat) ≤ (140737488355328 : Nat)) ∧
          (p_keep_heard_0 t0 t1 (IntKind.wrap IntKind.i64 (t7 + (1 : Int))) (List.append r0 [IntKind.wrap IntKind.i64 ((0 : Int) - (7 : Int))])) ∧
          (m_keep_heard_0 t0 t1 (IntKind.wrap IntKind.i64 (t7 + (1 : Int))) (List.append r0 [IntKind.wrap IntKind.i64 ((0 : Int) - (7 : Int))]) < m) ∧
          o_keep_heard_0 t0 t1 (IntKind.wrap IntKind.i64 (t7 + (1 : Int))) (List.append r0 [IntKind.wrap IntKind.i64 ((0 : Int) - (7 : Int))]) K)
          (((List.length r0 + List.length [(7 : Int)]) * (8 : Nat) ≤ (140737488355328 : Nat)) ∧
          (p_keep_heard_0 t0 t1 (IntKind.wrap IntKind.i64 (t7 + (1 : Int))) (List.append r0 [(7 : Int)])) ∧
          (m_keep_heard_0 t0 t1 (IntKind.wrap IntKind.i64 (t7 + (1 : Int))) (List.append r0 [(7 : Int)]) < m) ∧
          o_keep_heard_0 t0 t1 (IntKind.wrap IntKind.i64 (t7 + (1 : Int))) (List.append r0 [(7 : Int)]) K))
        (((0 : Int) ≤ t7) ∧
        (t7 < (↑(List.length t0) : Int)) ∧
        condP (List.getD t0 (Int.toNat t7) (0 : Int) == (1 : Int))
          (((List.length r0 + List.length [IntKind.wrap IntKind.i64 ((0 : Int) - List.getD t1 (Int.toNat (Int.tmod t7 (↑(List.length t1) : Int))) (0 : Int))]) * (8 : Nat) ≤ (140737488355328 : Nat)) ∧
          (p_keep_heard_0 t0 t1 (IntKind.wrap IntKind.i64 (t7 + (1 : Int))) (List.append r0 [IntKind.wrap IntKind.i64 ((0 : Int) - List.getD t1 (Int.toNat (Int.tmod t7 (↑(List.length t1) : Int))) (0 : Int))])) ∧
          (m_keep_heard_0 t0 t1 (IntKind.wrap IntKind.i64 (t7 + (1 : Int))) (List.append r0 [IntKind.wrap IntKind.i64 ((0 : Int) - List.getD t1 (Int.toNat (Int.tmod t7 (↑(List.length t1) : Int))) (0 : Int))]) < m) ∧
          o_keep_heard_0 t0 t1 (IntKind.wrap IntKind.i64 (t7 + (1 : Int))) (List.append r0 [IntKind.wrap IntKind.i64 ((0 : Int) - List.getD t1 (Int.toNat (Int.tmod t7 (↑(List.length t1) : Int))) (0 : Int))]) K)
          (((List.length r0 + List.length [List.getD t1 (Int.toNat (Int.tmod t7 (↑(List.length t1) : Int))) (0 : Int)]) * (8 : Nat) ≤ (140737488355328 : Nat)) ∧
          (p_keep_heard_0 t0 t1 (IntKind.wrap IntKind.i64 (t7 + (1 : Int))) (List.append r0 [List.getD t1 (Int.toNat (Int.tmod t7 (↑(List.length t1) : Int))) (0 : Int)])) ∧
          (m_keep_heard_0 t0 t1 (IntKind.wrap IntKind.i64 (t7 + (1 : Int))) (List.append r0 [List.getD t1 (Int.toNat (Int.tmod t7 (↑(List.length t1) : Int))) (0 : Int)]) < m) ∧
          o_keep_heard_0 t0 t1 (IntKind.wrap IntKind.i64 (t7 + (1 : Int))) (List.append r0 [List.getD t1 (Int.toNat (Int.tmod t7 (↑(List.length t1) : Int))) (0 : Int)]) K)))
      (condP (if decide ((1 : Int) < (1 : Int)) = true then true else decide ((1 : Int) > (100000 : Int)))
        (((0 : Int) ≤ t7) ∧
        (t7 < (↑(List.length t0) : Int)) ∧
        condP (List.getD t0 (Int.toNat t7) (0 : Int) == (1 : Int))
          (((List.length r0 + List.length [IntKind.wrap IntKind.i64 ((0 : Int) - (7 : Int))]) * (8 : Nat) ≤ (140737488355328 : Nat)) ∧
          (p_keep_heard_0 t0 t1 (IntKind.wrap IntKind.i64 (t7 + (1 : Int))) (List.append r0 [IntKind.wrap IntKind.i64 ((0 : Int) - (7 : Int))])) ∧
          (m_keep_heard_0 t0 t1 (IntKind.wrap IntKind.i64 (t7 + (1 : Int))) (List.append r0 [IntKind.wrap IntKind.i64 ((0 : Int) - (7 : Int))]) < m) ∧
          o_keep_heard_0 t0 t1 (IntKind.wrap IntKind.i64 (t7 + (1 : Int))) (List.append r0 [IntKind.wrap IntKind.i64 ((0 : Int) - (7 : Int))]) K)
          (((List.length r0 + List.length [(7 : Int)]) * (8 : Nat) ≤ (140737488355328 : Nat)) ∧
          (p_keep_heard_0 t0 t1 (IntKind.wrap IntKind.i64 (t7 + (1 : Int))) (List.append r0 [(7 : Int)])) ∧
          (m_keep_heard_0 t0 t1 (IntKind.wrap IntKind.i64 (t7 + (1 : Int))) (List.append r0 [(7 : Int)]) < m) ∧
          o_keep_heard_0 t0 t1 (IntKind.wrap IntKind.i64 (t7 + (1 : Int))) (List.append r0 [(7 : Int)]) K))
        (((0 : Int) ≤ t7) ∧
        (t7 < (↑(List.length t0) : Int)) ∧
        condP (List.getD t0 (Int.toNat t7) (0 : Int) == (1 : Int))
          (((List.length r0 + List.length [IntKind.wrap IntKind.i64 ((0 : Int) - (1 : Int))]) * (8 : Nat) ≤ (140737488355328 : Nat)) ∧
          (p_keep_heard_0 t0 t1 (IntKind.wrap IntKind.i64 (t7 + (1 : Int))) (List.append r0 [IntKind.wrap IntKind.i64 ((0 : Int) - (1 : Int))])) ∧
          (m_keep_heard_0 t0 t1 (IntKind.wrap IntKind.i64 (t7 + (1 : Int))) (List.append r0 [IntKind.wrap IntKind.i64 ((0 : Int) - (1 : Int))]) < m) ∧
          o_keep_heard_0 t0 t1 (IntKind.wrap IntKind.i64 (t7 + (1 : Int))) (List.append r0 [IntKind.wrap IntKind.i64 ((0 : Int) - (1 : Int))]) K)
          (((List.length r0 + List.length [(1 : Int)]) * (8 : Nat) ≤ (140737488355328 : Nat)) ∧
          (p_keep_heard_0 t0 t1 (IntKind.wrap IntKind.i64 (t7 + (1 : Int))) (List.append r0 [(1 : Int)])) ∧
          (m_keep_heard_0 t0 t1 (IntKind.wrap IntKind.i64 (t7 + (1 : Int))) (List.append r0 [(1 : Int)]) < m) ∧
          o_keep_heard_0 t0 t1 (IntKind.wrap IntKind.i64 (t7 + (1 : Int))) (List.append r0 [(1 : Int)]) K))))
    (X_keep_heard_0_0 (r0) K))
theorem R_keep_heard_0 (t0 : (List Int)) (t1 : (List Int)) (t7 : Int) (r0 : (List Int)) (m : Nat) (K : AExit → St → Prop) : awp E_keep_heard (loopAt (bodyOf Try.f44) 0) 0 (roundP E_keep_heard 0 L_keep_heard_0 m K) (L_keep_heard_0.abs (t0, t1, t7, ()) (r0, ())) = B_keep_heard_0 t0 t1 t7 r0 m K := by kernel_rfl
theorem I_keep_heard_0 (h : ∀ (t0 : (List Int)) (t1 : (List Int)) (t7 : Int) (r0 : (List Int)) (K : AExit → St → Prop), p_keep_heard_0 t0 t1 t7 r0 → o_keep_heard_0 t0 t1 t7 r0 K → B_keep_heard_0 t0 t1 t7 r0 (m_keep_heard_0 t0 t1 t7 r0) K) : LoopOK E_keep_heard 0 (loopAt (bodyOf Try.f44) 0) L_keep_heard_0 :=
  fun x y K hp ho => match x, y, hp, ho with | (t0, t1, t7, ()), (r0, ()), hp, ho => (R_keep_heard_0 t0 t1 t7 r0 (m_keep_heard_0 t0 t1 t7 r0) K).mpr (h t0 t1 t7 r0 K hp ho)
theorem G_keep_heard : loopsAll E_keep_heard (loopList (bodyOf Try.f44) 0) = (LoopOK E_keep_heard 0 (loopAt (bodyOf Try.f44) 0) L_keep_heard_0 ∧ True) := by kernel_rfl
theorem envok_keep_heard  : EnvOK E_keep_heard := ⟨sumsOf_ok (fun _ h => nomatch h), follows⟩
theorem whole_keep_heard  (l0 : LoopOK E_keep_heard 0 (loopAt (bodyOf Try.f44) 0) L_keep_heard_0) (main : ∀ (a0 : (List Int)) (a1 : (List Int)), ((↑(List.length a0) : Int) ≤ (1000000 : Int) ∧ (↑(List.length a1) : Int) ≤ big) → W_keep_heard a0 a1) : SumOK Try.prog 44 S_keep_heard :=
  fun_sound (E := E_keep_heard) (envok_keep_heard ) (fn := Try.f44) (c := bodyOf Try.f44) (ts := [(4, none), (5, none)]) S_keep_heard Try.func44 (body_some (by kernel_rfl)) (by kernel_rfl) (by kernel_rfl) (by kernel_rfl) (G_keep_heard.mpr ⟨l0, trivial⟩) (fun x hp => match x, hp with | (a0, a1, ()), hp => (V_keep_heard a0 a1).mpr (main a0 a1 hp))
/-! ### keep_ConvBest -/
def L_keep_ConvBest_0 : Lift.Loop := Lift.Loop.mk (.v (.ro (.int .i64)) :: (u 4 ++ (.sl 0 :: (.v (.int .i64) :: (u 3 ++ (.sl 1 :: (u 69))))))) [(0, .row (.int .u8)), (1, .row (.int .u8))] 2 (fun x y => p_keep_ConvBest_0 x.1 x.2.1 y.1 y.2.1) (fun x y => m_keep_ConvBest_0 x.1 x.2.1 y.1 y.2.1) (fun x y K => o_keep_ConvBest_0 x.1 x.2.1 y.1 y.2.1 K)
noncomputable def E_keep_ConvBest : Env := { P := Try.prog, sum := sumsOf [(48, S_conv_Decode), (49, S_conv_Score), (25, S_keep_good), (50, S_R_Ahead)], nio := 0, head := fun b => if b = 0 then ([0, 5, 6, 10, 65, 66, 67, 68, 69, 70, 71, 72, 73, 74, 75, 76, 77, 78], []) else ([], []), after := fun _ => none, leave := fun b => if b = 0 then [0, 4, 5, 6, 10, 65, 66, 67, 68, 69, 70, 71, 72, 73, 74, 75, 76, 77, 78] else [], loops := fun b => if b = 0 then some L_keep_ConvBest_0 else none }
def W_keep_ConvBest (a0 : (List Int)) (a1 : (List Int)) : Prop := (
  ((↑(List.length a0) : Int) ≤ big) ∧
  condP (decErr a0 != (0 : Int))
    ((((↑(List.length (decL a0)) : Int) == (0 : Int)) = true) ∧
    True)
    (((3 : Int) ≠ (0 : Int)) ∧
    condP ((↑(List.length (decL a0)) : Int) != IntKind.wrap IntKind.i64 (IntKind.wrap IntKind.i64 (Int.tdiv (↑(List.length a0) : Int) (3 : Int)) - (6 : Int)))
      ((false = true) ∧
      True)
      ((((↑(List.length (decL a0)) : Int) ≤ big ∧ ∀ (y : Int), y ∈ decL a0 → (0 : Int) ≤ y) ∧ (↑(List.length a0) : Int) ≤ big) ∧
      condP (if (scoreErr (decL a0) a0 != (0 : Int)) = true then true else scoreOf (decL a0) a0 != decV a0)
        ((false = true) ∧
        True)
        (((↑(List.length a1) : Int) ≤ big ∧ (∀ (y : Int), y ∈ a1 → (0 : Int) ≤ y) ∧ (0 : Int) ≤ (↑(List.length (decL a0)) : Int) ∧ (↑(List.length (decL a0)) : Int) ≤ (100000 : Int)) ∧
        (p_keep_ConvBest_0 a0 (decV a0) (decL a0) (goodL a1 (Int.toNat (↑(List.length (decL a0)) : Int)))) ∧
        (((↑(List.length (goodL a1 (Int.toNat (↑(List.length (decL a0)) : Int)) ++ zs (List.length (decL a0) - List.length (goodL a1 (Int.toNat (↑(List.length (decL a0)) : Int)))))) : Int) ≤ big ∧ ∀ (y : Int), y ∈ goodL a1 (Int.toNat (↑(List.length (decL a0)) : Int)) ++ zs (List.length (decL a0) - List.length (goodL a1 (Int.toNat (↑(List.length (decL a0)) : Int)))) → (0 : Int) ≤ y) ∧ (↑(List.length a0) : Int) ≤ big) ∧
        ((((scoreErr (goodL a1 (Int.toNat (↑(List.length (decL a0)) : Int)) ++ zs (List.length (decL a0) - List.length (goodL a1 (Int.toNat (↑(List.length (decL a0)) : Int))))) a0 == (0 : Int)) == true && decide (scoreOf (goodL a1 (Int.toNat (↑(List.length (decL a0)) : Int)) ++ zs (List.length (decL a0) - List.length (goodL a1 (Int.toNat (↑(List.length (decL a0)) : Int))))) a0 < decV a0) == false) == true && (scoreOf (goodL a1 (Int.toNat (↑(List.length (decL a0)) : Int)) ++ zs (List.length (decL a0) - List.length (goodL a1 (Int.toNat (↑(List.length (decL a0)) : Int))))) a0 == decV a0) == true) = true → List.length (goodL a1 (Int.toNat (↑(List.length (decL a0)) : Int)) ++ zs (List.length (decL a0) - List.length (goodL a1 (Int.toNat (↑(List.length (decL a0)) : Int))))) = List.length (decL a0) ∧ (↑(List.length (goodL a1 (Int.toNat (↑(List.length (decL a0)) : Int)) ++ zs (List.length (decL a0) - List.length (goodL a1 (Int.toNat (↑(List.length (decL a0)) : Int)))))) : Int) ≤ big) ∧
        ((if (scoreErr (goodL a1 (Int.toNat (↑(List.length (decL a0)) : Int)) ++ zs (List.length (decL a0) - List.length (goodL a1 (Int.toNat (↑(List.length (decL a0)) : Int))))) a0 == (0 : Int)) = true then if decide (scoreOf (goodL a1 (Int.toNat (↑(List.length (decL a0)) : Int)) ++ zs (List.length (decL a0) - List.length (goodL a1 (Int.toNat (↑(List.length (decL a0)) : Int))))) a0 < decV a0) = true then true else if (scoreOf (goodL a1 (Int.toNat (↑(List.length (decL a0)) : Int)) ++ zs (List.length (decL a0) - List.length (goodL a1 (Int.toNat (↑(List.length (decL a0)) : Int))))) a0 == decV a0) = true then !ahead (goodL a1 (Int.toNat (↑(List.length (decL a0)) : Int)) ++ zs (List.length (decL a0) - List.length (goodL a1 (Int.toNat (↑(List.length (decL a0)) : Int))))) (decL a0) else false else false) = true) ∧
        True))))
theorem V_keep_ConvBest (a0 : (List Int)) (a1 : (List Int)) : awp E_keep_ConvBest (bodyOf Try.f9) 0 (fin Try.prog S_keep_ConvBest (a0, a1, ()) [(4, none)] 0) (initSt S_keep_ConvBest.par (a0, a1, ()) 80) = W_keep_ConvBest a0 a1 := by kernel_rfl
def B_keep_ConvBest_0 (t0 : (List Int)) (t6 : Int) (r0 : (List Int)) (r1 : (List Int)) (m : Nat) (K : AExit → St → Prop) : Prop := (
  condP (decide ((↑(List.length r1) : Int) < (↑(List.length r0) : Int)))
    (((List.length r1 + List.length [(0 : Int)]) * (1 : Nat) ≤ (140737488355328 : Nat)) ∧
    (p_keep_ConvBest_0 t0 t6 r0 (List.append r1 [(0 : Int)])) ∧
    (m_keep_ConvBest_0 t0 t6 r0 (List.append r1 [(0 : Int)]) < m) ∧
    o_keep_ConvBest_0 t0 t6 r0 (List.append r1 [(0 : Int)]) K)
    (X_keep_ConvBest_0_0 (t0) (t6) (r0) (r1) K))
theorem R_keep_ConvBest_0 (t0 : (List Int)) (t6 : Int) (r0 : (List Int)) (r1 : (List Int)) (m : Nat) (K : AExit → St → Prop) : awp E_keep_ConvBest (loopAt (bodyOf Try.f9) 0) 0 (roundP E_keep_ConvBest 0 L_keep_ConvBest_0 m K) (L_keep_ConvBest_0.abs (t0, t6, ()) (r0, r1, ())) = B_keep_ConvBest_0 t0 t6 r0 r1 m K := by kernel_rfl
theorem I_keep_ConvBest_0 (h : ∀ (t0 : (List Int)) (t6 : Int) (r0 : (List Int)) (r1 : (List Int)) (K : AExit → St → Prop), p_keep_ConvBest_0 t0 t6 r0 r1 → o_keep_ConvBest_0 t0 t6 r0 r1 K → B_keep_ConvBest_0 t0 t6 r0 r1 (m_keep_ConvBest_0 t0 t6 r0 r1) K) : LoopOK E_keep_ConvBest 0 (loopAt (bodyOf Try.f9) 0) L_keep_ConvBest_0 :=
  fun x y K hp ho => match x, y, hp, ho with | (t0, t6, ()), (r0, r1, ()), hp, ho => (R_keep_ConvBest_0 t0 t6 r0 r1 (m_keep_ConvBest_0 t0 t6 r0 r1) K).mpr (h t0 t6 r0 r1 K hp ho)
theorem G_keep_ConvBest : loopsAll E_keep_ConvBest (loopList (bodyOf Try.f9) 0) = (LoopOK E_keep_ConvBest 0 (loopAt (bodyOf Try.f9) 0) L_keep_ConvBest_0 ∧ True) := by kernel_rfl
theorem envok_keep_ConvBest (h_conv_Decode : SumOK Try.prog 48 S_conv_Decode) (h_conv_Score : SumOK Try.prog 49 S_conv_Score) (h_keep_good : SumOK Try.prog 25 S_keep_good) (h_R_Ahead : SumOK Try.prog 50 S_R_Ahead) : EnvOK E_keep_ConvBest := ⟨sumsOf_ok (List.forall_mem_cons.2 ⟨h_conv_Decode, (List.forall_mem_cons.2 ⟨h_conv_Score, (List.forall_mem_cons.2 ⟨h_keep_good, (List.forall_mem_cons.2 ⟨h_R_Ahead, (fun _ h => nomatch h)⟩)⟩)⟩)⟩), follows⟩
theorem whole_keep_ConvBest (h_conv_Decode : SumOK Try.prog 48 S_conv_Decode) (h_conv_Score : SumOK Try.prog 49 S_conv_Score) (h_keep_good : SumOK Try.prog 25 S_keep_good) (h_R_Ahead : SumOK Try.prog 50 S_R_Ahead) (l0 : LoopOK E_keep_ConvBest 0 (loopAt (bodyOf Try.f9) 0) L_keep_ConvBest_0) (main : ∀ (a0 : (List Int)) (a1 : (List Int)), ((↑(List.length a0) : Int) ≤ big ∧ (↑(List.length a1) : Int) ≤ big ∧ ∀ (y : Int), y ∈ a1 → (0 : Int) ≤ y) → W_keep_ConvBest a0 a1) : SumOK Try.prog 9 S_keep_ConvBest :=
  fun_sound (E := E_keep_ConvBest) (envok_keep_ConvBest h_conv_Decode h_conv_Score h_keep_good h_R_Ahead) (fn := Try.f9) (c := bodyOf Try.f9) (ts := [(4, none)]) S_keep_ConvBest Try.func9 (body_some (by kernel_rfl)) (by kernel_rfl) (by kernel_rfl) (by kernel_rfl) (G_keep_ConvBest.mpr ⟨l0, trivial⟩) (fun x hp => match x, hp with | (a0, a1, ()), hp => (V_keep_ConvBest a0 a1).mpr (main a0 a1 hp))
/-! ### keep_ConvBack -/
noncomputable def E_keep_ConvBack : Env := { P := Try.prog, sum := sumsOf [(25, S_keep_good), (51, S_conv_Encode), (44, S_keep_heard), (48, S_conv_Decode), (49, S_conv_Score), (23, S_R_SameBits)], nio := 0, head := fun b => ([], []), after := fun _ => none, leave := fun b => [], loops := fun b => none }
def W_keep_ConvBack (a0 : (List Int)) (a1 : (List Int)) : Prop := (
  ((↑(List.length a0) : Int) ≤ big ∧ (∀ (y : Int), y ∈ a0 → (0 : Int) ≤ y) ∧ (0 : Int) ≤ (400 : Int) ∧ (400 : Int) ≤ (100000 : Int)) ∧
  ((↑(List.length (goodL a0 (400 : Nat))) : Int) ≤ big ∧ ∀ (y : Int), y ∈ goodL a0 (400 : Nat) → (0 : Int) ≤ y) ∧
  condP (encErr (goodL a0 (400 : Nat)) != (0 : Int))
    ((false = true) ∧
    True)
    (((↑(List.length (encOf (goodL a0 (400 : Nat)))) : Int) ≤ (1000000 : Int) ∧ (↑(List.length a1) : Int) ≤ big) ∧
    ((↑(List.length (hrd (encOf (goodL a0 (400 : Nat))) a1)) : Int) ≤ big) ∧
    (((↑(List.length (goodL a0 (400 : Nat))) : Int) ≤ big ∧ ∀ (y : Int), y ∈ goodL a0 (400 : Nat) → (0 : Int) ≤ y) ∧ (↑(List.length (hrd (encOf (goodL a0 (400 : Nat))) a1)) : Int) ≤ big) ∧
    ((if (if (decErr (hrd (encOf (goodL a0 (400 : Nat))) a1) == (0 : Int)) = true then scoreErr (goodL a0 (400 : Nat)) (hrd (encOf (goodL a0 (400 : Nat))) a1) == (0 : Int) else false) = true then decV (hrd (encOf (goodL a0 (400 : Nat))) a1) == scoreOf (goodL a0 (400 : Nat)) (hrd (encOf (goodL a0 (400 : Nat))) a1) else false) = true → (↑(List.length (decL (hrd (encOf (goodL a0 (400 : Nat))) a1))) : Int) ≤ big) ∧
    ((if (if (if (decErr (hrd (encOf (goodL a0 (400 : Nat))) a1) == (0 : Int)) = true then scoreErr (goodL a0 (400 : Nat)) (hrd (encOf (goodL a0 (400 : Nat))) a1) == (0 : Int) else false) = true then decV (hrd (encOf (goodL a0 (400 : Nat))) a1) == scoreOf (goodL a0 (400 : Nat)) (hrd (encOf (goodL a0 (400 : Nat))) a1) else false) = true then decide (decL (hrd (encOf (goodL a0 (400 : Nat))) a1) = goodL a0 (400 : Nat)) else false) = true) ∧
    True))
theorem V_keep_ConvBack (a0 : (List Int)) (a1 : (List Int)) : awp E_keep_ConvBack (bodyOf Try.f10) 0 (fin Try.prog S_keep_ConvBack (a0, a1, ()) [(4, none)] 0) (initSt S_keep_ConvBack.par (a0, a1, ()) 57) = W_keep_ConvBack a0 a1 := by kernel_rfl
theorem G_keep_ConvBack : loopsAll E_keep_ConvBack (loopList (bodyOf Try.f10) 0) = (True) := by kernel_rfl
theorem envok_keep_ConvBack (h_keep_good : SumOK Try.prog 25 S_keep_good) (h_conv_Encode : SumOK Try.prog 51 S_conv_Encode) (h_keep_heard : SumOK Try.prog 44 S_keep_heard) (h_conv_Decode : SumOK Try.prog 48 S_conv_Decode) (h_conv_Score : SumOK Try.prog 49 S_conv_Score) (h_R_SameBits : SumOK Try.prog 23 S_R_SameBits) : EnvOK E_keep_ConvBack := ⟨sumsOf_ok (List.forall_mem_cons.2 ⟨h_keep_good, (List.forall_mem_cons.2 ⟨h_conv_Encode, (List.forall_mem_cons.2 ⟨h_keep_heard, (List.forall_mem_cons.2 ⟨h_conv_Decode, (List.forall_mem_cons.2 ⟨h_conv_Score, (List.forall_mem_cons.2 ⟨h_R_SameBits, (fun _ h => nomatch h)⟩)⟩)⟩)⟩)⟩)⟩), follows⟩
theorem whole_keep_ConvBack (h_keep_good : SumOK Try.prog 25 S_keep_good) (h_conv_Encode : SumOK Try.prog 51 S_conv_Encode) (h_keep_heard : SumOK Try.prog 44 S_keep_heard) (h_conv_Decode : SumOK Try.prog 48 S_conv_Decode) (h_conv_Score : SumOK Try.prog 49 S_conv_Score) (h_R_SameBits : SumOK Try.prog 23 S_R_SameBits)  (main : ∀ (a0 : (List Int)) (a1 : (List Int)), ((↑(List.length a0) : Int) ≤ big ∧ (∀ (y : Int), y ∈ a0 → (0 : Int) ≤ y) ∧ (↑(List.length a1) : Int) ≤ big) → W_keep_ConvBack a0 a1) : SumOK Try.prog 10 S_keep_ConvBack :=
  fun_sound (E := E_keep_ConvBack) (envok_keep_ConvBack h_keep_good h_conv_Encode h_keep_heard h_conv_Decode h_conv_Score h_R_SameBits) (fn := Try.f10) (c := bodyOf Try.f10) (ts := [(4, none)]) S_keep_ConvBack Try.func10 (body_some (by kernel_rfl)) (by kernel_rfl) (by kernel_rfl) (by kernel_rfl) (G_keep_ConvBack.mpr trivial) (fun x hp => match x, hp with | (a0, a1, ()), hp => (V_keep_ConvBack a0 a1).mpr (main a0 a1 hp))
end Go.Spec
