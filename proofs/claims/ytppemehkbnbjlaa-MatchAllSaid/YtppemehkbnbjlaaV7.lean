/- The runs of the functions, told. -/
import Derived.Test.YtppemehkbnbjlaaLF
import Derived.Test.YtppemehkbnbjlaaProg
import Derived.Test.YtppemehkbnbjlaaS7
import Derived.Test.YtppemehkbnbjlaaV1
set_option linter.unusedVariables false
set_option linter.unusedSimpArgs false
namespace Go.Spec
open Go Go.Lift Go.Proofs
attribute [local irreducible] Go.Lift.awp
/-! ### match_Order -/
noncomputable def E_match_Order : Env := { P := Try.prog, sum := sumsOf [(85, S_match_order)], nio := 0, head := fun b => ([], []), after := fun _ => none, leave := fun b => [], loops := fun b => none }
def W_match_Order (a0 : Int) : Prop := (
  condP (if decide (a0 < (0 : Int)) = true then true else decide (a0 > (4096 : Int)))
    ((@List.nil Int = orderOf a0) ∧
    ((1 : Int) = orderErr a0) ∧
    True)
    ((a0 ≤ (1000000 : Int)) ∧
    (turnL a0 = orderOf a0) ∧
    ((0 : Int) = orderErr a0) ∧
    True))
theorem V_match_Order (a0 : Int) : awp E_match_Order (bodyOf Try.f15) 0 (fin Try.prog S_match_Order (a0, ()) [(2, none), (3, none)] 0) (initSt S_match_Order.par (a0, ()) 12) = W_match_Order a0 := by kernel_rfl
theorem G_match_Order : loopsAll E_match_Order (loopList (bodyOf Try.f15) 0) = (True) := by kernel_rfl
theorem envok_match_Order (h_match_order : SumOK Try.prog 85 S_match_order) : EnvOK E_match_Order := ⟨sumsOf_ok (List.forall_mem_cons.2 ⟨h_match_order, (fun _ h => nomatch h)⟩), follows⟩
theorem whole_match_Order (h_match_order : SumOK Try.prog 85 S_match_order)  (main : ∀ (a0 : Int), (True) → W_match_Order a0) : SumOK Try.prog 15 S_match_Order :=
  fun_sound (E := E_match_Order) (envok_match_Order h_match_order) (fn := Try.f15) (c := bodyOf Try.f15) (ts := [(2, none), (3, none)]) S_match_Order Try.func15 (body_some (by kernel_rfl)) (by kernel_rfl) (Nat.le_of_ble_eq_true (by kernel_rfl)) (by kernel_rfl) (by kernel_rfl) (G_match_Order.mpr trivial) (fun x hp => match x, hp with | (a0, ()), hp => (V_match_Order a0).mpr (main a0 hp))
/-! ### R_Order -/
def L_R_Order_0 : Lift.Loop := Lift.Loop.mk 67 (.v (.int .i64) :: (u 2 ++ (.sl 0 :: (.v (.int .i64) :: (u 62))))) [(0, .row (.own (.int .i64)) [])] 1 (fun x y => p_R_Order_0 x.1 x.2.1 y.1) (fun x y => m_R_Order_0 x.1 x.2.1 y.1) (fun x y K => o_R_Order_0 x.1 x.2.1 y.1 K)
def L_R_Order_2 : Lift.Loop := Lift.Loop.mk 67 (u 3 ++ (.sl 0 :: (u 1 ++ (.sl 1 :: (.sl 2 :: (.v (.int .i64) :: (u 59))))))) [(0, .row (.own (.int .i64)) []), (1, .row (.int .i64) []), (2, .row (.int .i64) [])] 3 (fun x y => p_R_Order_2 x.1 y.1 y.2.1 y.2.2.1) (fun x y => m_R_Order_2 x.1 y.1 y.2.1 y.2.2.1) (fun x y K => o_R_Order_2 x.1 y.1 y.2.1 y.2.2.1 K)
def L_R_Order_4 : Lift.Loop := Lift.Loop.mk 67 (u 3 ++ (.sl 0 :: (u 1 ++ (.sl 1 :: (.sl 2 :: (.v (.int .i64) :: (.v (.int .i64) :: (u 58)))))))) [(0, .row (.own (.int .i64)) []), (1, .row (.int .i64) []), (2, .row (.int .i64) [])] 3 (fun x y => p_R_Order_4 x.1 x.2.1 y.1 y.2.1 y.2.2.1) (fun x y => m_R_Order_4 x.1 x.2.1 y.1 y.2.1 y.2.2.1) (fun x y K => o_R_Order_4 x.1 x.2.1 y.1 y.2.1 y.2.2.1 K)
noncomputable def E_R_Order : Env := { P := Try.prog, sum := sumsOf [], nio := 0, head := fun b => if b = 4 then ([3, 5, 6, 7, 8], []) else if b = 2 then ([3, 5, 6, 7], [(6, (.int .i64))]) else if b = 0 then ([0, 3, 4], [(3, (.own (.int .i64)))]) else ([], []), after := fun _ => none, leave := fun b => if b = 4 then [2, 3, 5, 6, 7] else if b = 2 then [2, 6] else if b = 0 then [2, 3] else [], loops := fun b => if b = 4 then some L_R_Order_4 else if b = 2 then some L_R_Order_2 else if b = 0 then some L_R_Order_0 else none }
def W_R_Order (a0 : Int) : Prop := (
  (p_R_Order_0 a0 (0 : Int) (@List.nil (List Int))) ∧
  (p_R_Order_2 (0 : Int) (tabL (Int.toNat a0)) [(0 : Int), (4 : Int), (2 : Int), (6 : Int), (1 : Int), (5 : Int), (3 : Int), (7 : Int)] (@List.nil Int)) ∧
  (@List.nil Int ++ List.flatMap (pickCol (tabL (Int.toNat a0))) (List.drop (0 : Nat) [(0 : Int), (4 : Int), (2 : Int), (6 : Int), (1 : Int), (5 : Int), (3 : Int), (7 : Int)]) = turnL a0) ∧
  True)
theorem V_R_Order (a0 : Int) : awp E_R_Order (bodyOf Try.f17) 0 (fin Try.prog S_R_Order (a0, ()) [(2, none)] 0) (initSt S_R_Order.par (a0, ()) 67) = W_R_Order a0 := by kernel_rfl
def B_R_Order_0 (t0 : Int) (t4 : Int) (r0 : (List (List Int))) (m : Nat) (K : AExit → St → Prop) : Prop := (
  condP (decide (t4 < t0))
    (((8 : Int) ≠ (0 : Int)) ∧
    condP (Int.tmod t4 (8 : Int) == (0 : Int))
      (((List.length r0 + List.length [@List.nil Int]) * (24 : Nat) ≤ (140737488355328 : Nat)) ∧
      ((8 : Int) ≠ (0 : Int)) ∧
      ((8 : Int) ≠ (0 : Int)) ∧
      ((0 : Int) ≤ IntKind.wrap IntKind.i64 (Int.tdiv t4 (8 : Int))) ∧
      (IntKind.wrap IntKind.i64 (Int.tdiv t4 (8 : Int)) < (↑(List.length (List.append r0 [@List.nil Int])) : Int)) ∧
      ((0 : Int) ≤ IntKind.wrap IntKind.i64 (Int.tdiv t4 (8 : Int))) ∧
      (IntKind.wrap IntKind.i64 (Int.tdiv t4 (8 : Int)) < (↑(List.length (List.append r0 [@List.nil Int])) : Int)) ∧
      (IntKind.wrap IntKind.i64 (Int.tdiv t4 (8 : Int)) = IntKind.wrap IntKind.i64 (Int.tdiv t4 (8 : Int))) ∧
      ((List.length (List.getD (List.append r0 [@List.nil Int]) (Int.toNat (IntKind.wrap IntKind.i64 (Int.tdiv t4 (8 : Int)))) (@List.nil Int)) + List.length [t4]) * (8 : Nat) ≤ (140737488355328 : Nat)) ∧
      ((0 : Int) ≤ IntKind.wrap IntKind.i64 (Int.tdiv t4 (8 : Int))) ∧
      (IntKind.wrap IntKind.i64 (Int.tdiv t4 (8 : Int)) < (↑(List.length (List.append r0 [@List.nil Int])) : Int)) ∧
      (IntKind.wrap IntKind.i64 (Int.tdiv t4 (8 : Int)) = IntKind.wrap IntKind.i64 (Int.tdiv t4 (8 : Int))) ∧
      (p_R_Order_0 t0 (IntKind.wrap IntKind.i64 (t4 + (1 : Int))) (List.set (List.set (List.append r0 [@List.nil Int]) (Int.toNat (IntKind.wrap IntKind.i64 (Int.tdiv t4 (8 : Int)))) (@List.nil Int)) (Int.toNat (IntKind.wrap IntKind.i64 (Int.tdiv t4 (8 : Int)))) (List.append (List.getD (List.append r0 [@List.nil Int]) (Int.toNat (IntKind.wrap IntKind.i64 (Int.tdiv t4 (8 : Int)))) (@List.nil Int)) [t4]))) ∧
      (m_R_Order_0 t0 (IntKind.wrap IntKind.i64 (t4 + (1 : Int))) (List.set (List.set (List.append r0 [@List.nil Int]) (Int.toNat (IntKind.wrap IntKind.i64 (Int.tdiv t4 (8 : Int)))) (@List.nil Int)) (Int.toNat (IntKind.wrap IntKind.i64 (Int.tdiv t4 (8 : Int)))) (List.append (List.getD (List.append r0 [@List.nil Int]) (Int.toNat (IntKind.wrap IntKind.i64 (Int.tdiv t4 (8 : Int)))) (@List.nil Int)) [t4])) < m) ∧
      o_R_Order_0 t0 (IntKind.wrap IntKind.i64 (t4 + (1 : Int))) (List.set (List.set (List.append r0 [@List.nil Int]) (Int.toNat (IntKind.wrap IntKind.i64 (Int.tdiv t4 (8 : Int)))) (@List.nil Int)) (Int.toNat (IntKind.wrap IntKind.i64 (Int.tdiv t4 (8 : Int)))) (List.append (List.getD (List.append r0 [@List.nil Int]) (Int.toNat (IntKind.wrap IntKind.i64 (Int.tdiv t4 (8 : Int)))) (@List.nil Int)) [t4])) K)
      (((8 : Int) ≠ (0 : Int)) ∧
      ((8 : Int) ≠ (0 : Int)) ∧
      ((0 : Int) ≤ IntKind.wrap IntKind.i64 (Int.tdiv t4 (8 : Int))) ∧
      (IntKind.wrap IntKind.i64 (Int.tdiv t4 (8 : Int)) < (↑(List.length r0) : Int)) ∧
      ((0 : Int) ≤ IntKind.wrap IntKind.i64 (Int.tdiv t4 (8 : Int))) ∧
      (IntKind.wrap IntKind.i64 (Int.tdiv t4 (8 : Int)) < (↑(List.length r0) : Int)) ∧
      (IntKind.wrap IntKind.i64 (Int.tdiv t4 (8 : Int)) = IntKind.wrap IntKind.i64 (Int.tdiv t4 (8 : Int))) ∧
      ((List.length (List.getD r0 (Int.toNat (IntKind.wrap IntKind.i64 (Int.tdiv t4 (8 : Int)))) (@List.nil Int)) + List.length [t4]) * (8 : Nat) ≤ (140737488355328 : Nat)) ∧
      ((0 : Int) ≤ IntKind.wrap IntKind.i64 (Int.tdiv t4 (8 : Int))) ∧
      (IntKind.wrap IntKind.i64 (Int.tdiv t4 (8 : Int)) < (↑(List.length r0) : Int)) ∧
      (IntKind.wrap IntKind.i64 (Int.tdiv t4 (8 : Int)) = IntKind.wrap IntKind.i64 (Int.tdiv t4 (8 : Int))) ∧
      (p_R_Order_0 t0 (IntKind.wrap IntKind.i64 (t4 + (1 : Int))) (List.set (List.set r0 (Int.toNat (IntKind.wrap IntKind.i64 (Int.tdiv t4 (8 : Int)))) (@List.nil Int)) (Int.toNat (IntKind.wrap IntKind.i64 (Int.tdiv t4 (8 : Int)))) (List.append (List.getD r0 (Int.toNat (IntKind.wrap IntKind.i64 (Int.tdiv t4 (8 : Int)))) (@List.nil Int)) [t4]))) ∧
      (m_R_Order_0 t0 (IntKind.wrap IntKind.i64 (t4 + (1 : Int))) (List.set (List.set r0 (Int.toNat (IntKind.wrap IntKind.i64 (Int.tdiv t4 (8 : Int)))) (@List.nil Int)) (Int.toNat (IntKind.wrap IntKind.i64 (Int.tdiv t4 (8 : Int)))) (List.append (List.getD r0 (Int.toNat (IntKind.wrap IntKind.i64 (Int.tdiv t4 (8 : Int)))) (@List.nil Int)) [t4])) < m) ∧
      o_R_Order_0 t0 (IntKind.wrap IntKind.i64 (t4 + (1 : Int))) (List.set (List.set r0 (Int.toNat (IntKind.wrap IntKind.i64 (Int.tdiv t4 (8 : Int)))) (@List.nil Int)) (Int.toNat (IntKind.wrap IntKind.i64 (Int.tdiv t4 (8 : Int)))) (List.append (List.getD r0 (Int.toNat (IntKind.wrap IntKind.i64 (Int.tdiv t4 (8 : Int)))) (@List.nil Int)) [t4])) K))
    (X_R_Order_0_0 (r0) K))
theorem R_R_Order_0 (t0 : Int) (t4 : Int) (r0 : (List (List Int))) (m : Nat) (K : AExit → St → Prop) : awp E_R_Order (loopAt (bodyOf Try.f17) 0) 0 (roundP E_R_Order 0 L_R_Order_0 m K) (L_R_Order_0.abs (t0, t4, ()) (r0, ())) = B_R_Order_0 t0 t4 r0 m K := by kernel_rfl
theorem I_R_Order_0 (h : ∀ (t0 : Int) (t4 : Int) (r0 : (List (List Int))) (K : AExit → St → Prop), p_R_Order_0 t0 t4 r0 → o_R_Order_0 t0 t4 r0 K → B_R_Order_0 t0 t4 r0 (m_R_Order_0 t0 t4 r0) K) : LoopOK E_R_Order 0 (loopAt (bodyOf Try.f17) 0) L_R_Order_0 :=
  fun x y K hp ho => match x, y, hp, ho with | (t0, t4, ()), (r0, ()), hp, ho => (R_R_Order_0 t0 t4 r0 (m_R_Order_0 t0 t4 r0) K).mpr (h t0 t4 r0 K hp ho)
def B_R_Order_2 (t7 : Int) (r0 : (List (List Int))) (r1 : (List Int)) (r2 : (List Int)) (m : Nat) (K : AExit → St → Prop) : Prop := (
  condP (decide (t7 < (8 : Int)))
    ((p_R_Order_4 t7 (0 : Int) r0 r1 r2) ∧
    (p_R_Order_2 (IntKind.wrap IntKind.i64 (t7 + (1 : Int))) r0 r1 (r2 ++ pickCol (List.drop (0 : Nat) r0) (List.getD r1 (Int.toNat t7) (0 : Int)))) ∧
    (m_R_Order_2 (IntKind.wrap IntKind.i64 (t7 + (1 : Int))) r0 r1 (r2 ++ pickCol (List.drop (0 : Nat) r0) (List.getD r1 (Int.toNat t7) (0 : Int))) < m) ∧
    o_R_Order_2 (IntKind.wrap IntKind.i64 (t7 + (1 : Int))) r0 r1 (r2 ++ pickCol (List.drop (0 : Nat) r0) (List.getD r1 (Int.toNat t7) (0 : Int))) K)
    (X_R_Order_2_0 (r2) K))
theorem R_R_Order_2 (t7 : Int) (r0 : (List (List Int))) (r1 : (List Int)) (r2 : (List Int)) (m : Nat) (K : AExit → St → Prop) : awp E_R_Order (loopAt (bodyOf Try.f17) 2) 2 (roundP E_R_Order 2 L_R_Order_2 m K) (L_R_Order_2.abs (t7, ()) (r0, r1, r2, ())) = B_R_Order_2 t7 r0 r1 r2 m K := by kernel_rfl
theorem I_R_Order_2 (h : ∀ (t7 : Int) (r0 : (List (List Int))) (r1 : (List Int)) (r2 : (List Int)) (K : AExit → St → Prop), p_R_Order_2 t7 r0 r1 r2 → o_R_Order_2 t7 r0 r1 r2 K → B_R_Order_2 t7 r0 r1 r2 (m_R_Order_2 t7 r0 r1 r2) K) : LoopOK E_R_Order 2 (loopAt (bodyOf Try.f17) 2) L_R_Order_2 :=
  fun x y K hp ho => match x, y, hp, ho with | (t7, ()), (r0, r1, r2, ()), hp, ho => (R_R_Order_2 t7 r0 r1 r2 (m_R_Order_2 t7 r0 r1 r2) K).mpr (h t7 r0 r1 r2 K hp ho)
def B_R_Order_4 (t7 : Int) (t8 : Int) (r0 : (List (List Int))) (r1 : (List Int)) (r2 : (List Int)) (m : Nat) (K : AExit → St → Prop) : Prop := (
  condP (decide (t8 < (↑(List.length r0) : Int)))
    (((0 : Int) ≤ t8) ∧
    (t8 < (↑(List.length r0) : Int)) ∧
    ((0 : Int) ≤ t7) ∧
    (t7 < (↑(List.length r1) : Int)) ∧
    ((0 : Int) ≤ t8) ∧
    (t8 < (↑(List.length r0) : Int)) ∧
    (t8 = t8) ∧
    condP (decide (List.getD r1 (Int.toNat t7) (0 : Int) < (↑(List.length (List.getD r0 (Int.toNat t8) (@List.nil Int))) : Int)))
      (((0 : Int) ≤ t8) ∧
      (t8 < (↑(List.length (List.set r0 (Int.toNat t8) (List.getD r0 (Int.toNat t8) (@List.nil Int)))) : Int)) ∧
      ((0 : Int) ≤ t8) ∧
      (t8 < (↑(List.length (List.set r0 (Int.toNat t8) (List.getD r0 (Int.toNat t8) (@List.nil Int)))) : Int)) ∧
      (t8 = t8) ∧
      ((0 : Int) ≤ t7) ∧
      (t7 < (↑(List.length r1) : Int)) ∧
      ((0 : Int) ≤ List.getD r1 (Int.toNat t7) (0 : Int)) ∧
      (List.getD r1 (Int.toNat t7) (0 : Int) < (↑(List.length (List.getD (List.set r0 (Int.toNat t8) (List.getD r0 (Int.toNat t8) (@List.nil Int))) (Int.toNat t8) (@List.nil Int))) : Int)) ∧
      ((List.length r2 + List.length [List.getD (List.getD (List.set r0 (Int.toNat t8) (List.getD r0 (Int.toNat t8) (@List.nil Int))) (Int.toNat t8) (@List.nil Int)) (Int.toNat (List.getD r1 (Int.toNat t7) (0 : Int))) (0 : Int)]) * (8 : Nat) ≤ (140737488355328 : Nat)) ∧
      (p_R_Order_4 t7 (IntKind.wrap IntKind.i64 (t8 + (1 : Int))) (List.set (List.set r0 (Int.toNat t8) (List.getD r0 (Int.toNat t8) (@List.nil Int))) (Int.toNat t8) (List.getD (List.set r0 (Int.toNat t8) (List.getD r0 (Int.toNat t8) (@List.nil Int))) (Int.toNat t8) (@List.nil Int))) r1 (List.append r2 [List.getD (List.getD (List.set r0 (Int.toNat t8) (List.getD r0 (Int.toNat t8) (@List.nil Int))) (Int.toNat t8) (@List.nil Int)) (Int.toNat (List.getD r1 (Int.toNat t7) (0 : Int))) (0 : Int)])) ∧
      (m_R_Order_4 t7 (IntKind.wrap IntKind.i64 (t8 + (1 : Int))) (List.set (List.set r0 (Int.toNat t8) (List.getD r0 (Int.toNat t8) (@List.nil Int))) (Int.toNat t8) (List.getD (List.set r0 (Int.toNat t8) (List.getD r0 (Int.toNat t8) (@List.nil Int))) (Int.toNat t8) (@List.nil Int))) r1 (List.append r2 [List.getD (List.getD (List.set r0 (Int.toNat t8) (List.getD r0 (Int.toNat t8) (@List.nil Int))) (Int.toNat t8) (@List.nil Int)) (Int.toNat (List.getD r1 (Int.toNat t7) (0 : Int))) (0 : Int)]) < m) ∧
      o_R_Order_4 t7 (IntKind.wrap IntKind.i64 (t8 + (1 : Int))) (List.set (List.set r0 (Int.toNat t8) (List.getD r0 (Int.toNat t8) (@List.nil Int))) (Int.toNat t8) (List.getD (List.set r0 (Int.toNat t8) (List.getD r0 (Int.toNat t8) (@List.nil Int))) (Int.toNat t8) (@List.nil Int))) r1 (List.append r2 [List.getD (List.getD (List.set r0 (Int.toNat t8) (List.getD r0 (Int.toNat t8) (@List.nil Int))) (Int.toNat t8) (@List.nil Int)) (Int.toNat (List.getD r1 (Int.toNat t7) (0 : Int))) (0 : Int)]) K)
      ((p_R_Order_4 t7 (IntKind.wrap IntKind.i64 (t8 + (1 : Int))) (List.set r0 (Int.toNat t8) (List.getD r0 (Int.toNat t8) (@List.nil Int))) r1 r2) ∧
      (m_R_Order_4 t7 (IntKind.wrap IntKind.i64 (t8 + (1 : Int))) (List.set r0 (Int.toNat t8) (List.getD r0 (Int.toNat t8) (@List.nil Int))) r1 r2 < m) ∧
      o_R_Order_4 t7 (IntKind.wrap IntKind.i64 (t8 + (1 : Int))) (List.set r0 (Int.toNat t8) (List.getD r0 (Int.toNat t8) (@List.nil Int))) r1 r2 K))
    (X_R_Order_4_0 (t7) (r0) (r1) (r2) K))
theorem R_R_Order_4 (t7 : Int) (t8 : Int) (r0 : (List (List Int))) (r1 : (List Int)) (r2 : (List Int)) (m : Nat) (K : AExit → St → Prop) : awp E_R_Order (loopAt (bodyOf Try.f17) 4) 4 (roundP E_R_Order 4 L_R_Order_4 m K) (L_R_Order_4.abs (t7, t8, ()) (r0, r1, r2, ())) = B_R_Order_4 t7 t8 r0 r1 r2 m K := by kernel_rfl
theorem I_R_Order_4 (h : ∀ (t7 : Int) (t8 : Int) (r0 : (List (List Int))) (r1 : (List Int)) (r2 : (List Int)) (K : AExit → St → Prop), p_R_Order_4 t7 t8 r0 r1 r2 → o_R_Order_4 t7 t8 r0 r1 r2 K → B_R_Order_4 t7 t8 r0 r1 r2 (m_R_Order_4 t7 t8 r0 r1 r2) K) : LoopOK E_R_Order 4 (loopAt (bodyOf Try.f17) 4) L_R_Order_4 :=
  fun x y K hp ho => match x, y, hp, ho with | (t7, t8, ()), (r0, r1, r2, ()), hp, ho => (R_R_Order_4 t7 t8 r0 r1 r2 (m_R_Order_4 t7 t8 r0 r1 r2) K).mpr (h t7 t8 r0 r1 r2 K hp ho)
theorem G_R_Order : loopsAll E_R_Order (loopList (bodyOf Try.f17) 0) = (LoopOK E_R_Order 0 (loopAt (bodyOf Try.f17) 0) L_R_Order_0 ∧ LoopOK E_R_Order 2 (loopAt (bodyOf Try.f17) 2) L_R_Order_2 ∧ LoopOK E_R_Order 4 (loopAt (bodyOf Try.f17) 4) L_R_Order_4 ∧ True) := by kernel_rfl
theorem envok_R_Order  : EnvOK E_R_Order := ⟨sumsOf_ok (fun _ h => nomatch h), follows⟩
theorem whole_R_Order  (l0 : LoopOK E_R_Order 0 (loopAt (bodyOf Try.f17) 0) L_R_Order_0) (l2 : LoopOK E_R_Order 2 (loopAt (bodyOf Try.f17) 2) L_R_Order_2) (l4 : LoopOK E_R_Order 4 (loopAt (bodyOf Try.f17) 4) L_R_Order_4) (main : ∀ (a0 : Int), (a0 ≤ (1000000 : Int)) → W_R_Order a0) : SumOK Try.prog 17 S_R_Order :=
  fun_sound (E := E_R_Order) (envok_R_Order ) (fn := Try.f17) (c := bodyOf Try.f17) (ts := [(2, none)]) S_R_Order Try.func17 (body_some (by kernel_rfl)) (by kernel_rfl) (Nat.le_of_ble_eq_true (by kernel_rfl)) (by kernel_rfl) (by kernel_rfl) (G_R_Order.mpr ⟨l0, l2, l4, trivial⟩) (fun x hp => match x, hp with | (a0, ()), hp => (V_R_Order a0).mpr (main a0 hp))
/-! ### match_Begin -/
noncomputable def E_match_Begin : Env := { P := Try.prog, sum := sumsOf [], nio := 0, head := fun b => ([], []), after := fun _ => none, leave := fun b => [], loops := fun b => none }
def W_match_Begin (a0 : Int) (a1 : Int) : Prop := (
  condP (if (if (if decide (a0 < (1 : Int)) = true then true else decide (a0 > (4096 : Int))) = true then true else decide (a1 < (0 : Int))) = true then true else decide (a1 > (3 : Int)))
    (((0 : Int) = Prod.fst (beginOf a0 a1)) ∧
    ((1 : Int) = Prod.snd (beginOf a0 a1)) ∧
    True)
    (((4 : Int) ≠ (0 : Int)) ∧
    (IntKind.wrap IntKind.i64 (Int.tdiv (IntKind.wrap IntKind.i64 (a1 * a0)) (4 : Int)) = Prod.fst (beginOf a0 a1)) ∧
    ((0 : Int) = Prod.snd (beginOf a0 a1)) ∧
    True))
theorem V_match_Begin (a0 : Int) (a1 : Int) : awp E_match_Begin (bodyOf Try.f18) 0 (fin Try.prog S_match_Begin (a0, a1, ()) [(4, none), (5, none)] 0) (initSt S_match_Begin.par (a0, a1, ()) 24) = W_match_Begin a0 a1 := by kernel_rfl
theorem G_match_Begin : loopsAll E_match_Begin (loopList (bodyOf Try.f18) 0) = (True) := by kernel_rfl
theorem envok_match_Begin  : EnvOK E_match_Begin := ⟨sumsOf_ok (fun _ h => nomatch h), follows⟩
theorem whole_match_Begin   (main : ∀ (a0 : Int) (a1 : Int), (True) → W_match_Begin a0 a1) : SumOK Try.prog 18 S_match_Begin :=
  fun_sound (E := E_match_Begin) (envok_match_Begin ) (fn := Try.f18) (c := bodyOf Try.f18) (ts := [(4, none), (5, none)]) S_match_Begin Try.func18 (body_some (by kernel_rfl)) (by kernel_rfl) (Nat.le_of_ble_eq_true (by kernel_rfl)) (by kernel_rfl) (by kernel_rfl) (G_match_Begin.mpr trivial) (fun x hp => match x, hp with | (a0, a1, ()), hp => (V_match_Begin a0 a1).mpr (main a0 a1 hp))
/-! ### R_Version -/
noncomputable def E_R_Version : Env := { P := Try.prog, sum := sumsOf [], nio := 0, head := fun b => ([], []), after := fun _ => none, leave := fun b => [], loops := fun b => none }
def W_R_Version (a0 : Int) : Prop := (
  ((if decide (a0 ≥ (0 : Int)) = true then decide (a0 ≤ (3 : Int)) else false) = versionB a0) ∧
  True)
theorem V_R_Version (a0 : Int) : awp E_R_Version (bodyOf Try.f19) 0 (fin Try.prog S_R_Version (a0, ()) [(2, none)] 0) (initSt S_R_Version.par (a0, ()) 9) = W_R_Version a0 := by kernel_rfl
theorem G_R_Version : loopsAll E_R_Version (loopList (bodyOf Try.f19) 0) = (True) := by kernel_rfl
theorem envok_R_Version  : EnvOK E_R_Version := ⟨sumsOf_ok (fun _ h => nomatch h), follows⟩
theorem whole_R_Version   (main : ∀ (a0 : Int), (True) → W_R_Version a0) : SumOK Try.prog 19 S_R_Version :=
  fun_sound (E := E_R_Version) (envok_R_Version ) (fn := Try.f19) (c := bodyOf Try.f19) (ts := [(2, none)]) S_R_Version Try.func19 (body_some (by kernel_rfl)) (by kernel_rfl) (Nat.le_of_ble_eq_true (by kernel_rfl)) (by kernel_rfl) (by kernel_rfl) (G_R_Version.mpr trivial) (fun x hp => match x, hp with | (a0, ()), hp => (V_R_Version a0).mpr (main a0 hp))
/-! ### match_Pick -/
def L_match_Pick_0 : Lift.Loop := Lift.Loop.mk 63 (.v (.ro (.int .u8)) :: (u 8 ++ (.v (.int .i64) :: (u 1 ++ (.sl 0 :: (.sl 1 :: (u 29 ++ (.v (.int .i64) :: (.v (.int .i64) :: (u 19)))))))))) [(0, .row (.int .i64) []), (1, .row (.int .u8) [])] 2 (fun x y => p_match_Pick_0 x.1 x.2.1 x.2.2.1 x.2.2.2.1 y.1 y.2.1) (fun x y => m_match_Pick_0 x.1 x.2.1 x.2.2.1 x.2.2.2.1 y.1 y.2.1) (fun x y K => o_match_Pick_0 x.1 x.2.1 x.2.2.1 x.2.2.2.1 y.1 y.2.1 K)
noncomputable def E_match_Pick : Env := { P := Try.prog, sum := sumsOf [(86, S_bits_Check), (18, S_match_Begin), (85, S_match_order)], nio := 0, head := fun b => if b = 0 then ([0, 9, 11, 12, 42, 43], []) else ([], []), after := fun _ => none, leave := fun b => if b = 0 then [6, 7, 12] else [], loops := fun b => if b = 0 then some L_match_Pick_0 else none }
def W_match_Pick (a0 : (List Int)) (a1 : Int) (a2 : Int) : Prop := (
  ((↑(List.length a0) : Int) ≤ big ∧ ∀ (y : Int), y ∈ a0 → (0 : Int) ≤ y) ∧
  condP (bitsErr a0 != (0 : Int))
    ((@List.nil Int = pickOf a0 a1 a2) ∧
    (bitsErr a0 = pickErr a0 a1 a2) ∧
    True)
    ((True) ∧
    condP (if (if (Prod.snd (beginOf (↑(List.length a0) : Int) a1) != (0 : Int)) = true then true else decide (a2 < (0 : Int))) = true then true else decide (a2 > (4096 : Int)))
      ((@List.nil Int = pickOf a0 a1 a2) ∧
      ((1 : Int) = pickErr a0 a1 a2) ∧
      True)
      (((↑(List.length a0) : Int) ≤ (1000000 : Int)) ∧
      ((0 : Int) ≤ a2) ∧
      (a2 ≤ a2) ∧
      ((↑(1 : Nat) : Int) * a2 ≤ (281474976710656 : Int)) ∧
      (p_match_Pick_0 a0 (Prod.fst (beginOf (↑(List.length a0) : Int) a1)) (↑(List.length (List.replicate (Int.toNat a2) (0 : Int))) : Int) (0 : Int) (turnL (↑(List.length a0) : Int)) (List.replicate (Int.toNat a2) (0 : Int))) ∧
      (List.take (0 : Nat) (List.replicate (Int.toNat a2) (0 : Int)) ++ List.drop (0 : Nat) (pickL a0 (Prod.fst (beginOf (↑(List.length a0) : Int) a1)) (Int.toNat (↑(List.length (List.replicate (Int.toNat a2) (0 : Int))) : Int))) = pickOf a0 a1 a2) ∧
      ((0 : Int) = pickErr a0 a1 a2) ∧
      True)))
theorem V_match_Pick (a0 : (List Int)) (a1 : Int) (a2 : Int) : awp E_match_Pick (bodyOf Try.f20) 0 (fin Try.prog S_match_Pick (a0, a1, a2, ()) [(6, none), (7, none)] 0) (initSt S_match_Pick.par (a0, a1, a2, ()) 63) = W_match_Pick a0 a1 a2 := by kernel_rfl
def B_match_Pick_0 (t0 : (List Int)) (t9 : Int) (t42 : Int) (t43 : Int) (r0 : (List Int)) (r1 : (List Int)) (m : Nat) (K : AExit → St → Prop) : Prop := (
  condP (decide (t43 < t42))
    (((↑(List.length r0) : Int) ≠ (0 : Int)) ∧
    ((0 : Int) ≤ Int.tmod (IntKind.wrap IntKind.i64 (t9 + t43)) (↑(List.length r0) : Int)) ∧
    (Int.tmod (IntKind.wrap IntKind.i64 (t9 + t43)) (↑(List.length r0) : Int) < (↑(List.length r0) : Int)) ∧
    ((0 : Int) ≤ List.getD r0 (Int.toNat (Int.tmod (IntKind.wrap IntKind.i64 (t9 + t43)) (↑(List.length r0) : Int))) (0 : Int)) ∧
    (List.getD r0 (Int.toNat (Int.tmod (IntKind.wrap IntKind.i64 (t9 + t43)) (↑(List.length r0) : Int))) (0 : Int) < (↑(List.length t0) : Int)) ∧
    ((0 : Int) ≤ t43) ∧
    (t43 < (↑(List.length r1) : Int)) ∧
    (p_match_Pick_0 t0 t9 t42 (IntKind.wrap IntKind.i64 (t43 + (1 : Int))) r0 (List.set r1 (Int.toNat t43) (List.getD t0 (Int.toNat (List.getD r0 (Int.toNat (Int.tmod (IntKind.wrap IntKind.i64 (t9 + t43)) (↑(List.length r0) : Int))) (0 : Int))) (0 : Int)))) ∧
    (m_match_Pick_0 t0 t9 t42 (IntKind.wrap IntKind.i64 (t43 + (1 : Int))) r0 (List.set r1 (Int.toNat t43) (List.getD t0 (Int.toNat (List.getD r0 (Int.toNat (Int.tmod (IntKind.wrap IntKind.i64 (t9 + t43)) (↑(List.length r0) : Int))) (0 : Int))) (0 : Int))) < m) ∧
    o_match_Pick_0 t0 t9 t42 (IntKind.wrap IntKind.i64 (t43 + (1 : Int))) r0 (List.set r1 (Int.toNat t43) (List.getD t0 (Int.toNat (List.getD r0 (Int.toNat (Int.tmod (IntKind.wrap IntKind.i64 (t9 + t43)) (↑(List.length r0) : Int))) (0 : Int))) (0 : Int))) K)
    (X_match_Pick_0_0 (r1) K))
theorem R_match_Pick_0 (t0 : (List Int)) (t9 : Int) (t42 : Int) (t43 : Int) (r0 : (List Int)) (r1 : (List Int)) (m : Nat) (K : AExit → St → Prop) : awp E_match_Pick (loopAt (bodyOf Try.f20) 0) 0 (roundP E_match_Pick 0 L_match_Pick_0 m K) (L_match_Pick_0.abs (t0, t9, t42, t43, ()) (r0, r1, ())) = B_match_Pick_0 t0 t9 t42 t43 r0 r1 m K := by kernel_rfl
theorem I_match_Pick_0 (h : ∀ (t0 : (List Int)) (t9 : Int) (t42 : Int) (t43 : Int) (r0 : (List Int)) (r1 : (List Int)) (K : AExit → St → Prop), p_match_Pick_0 t0 t9 t42 t43 r0 r1 → o_match_Pick_0 t0 t9 t42 t43 r0 r1 K → B_match_Pick_0 t0 t9 t42 t43 r0 r1 (m_match_Pick_0 t0 t9 t42 t43 r0 r1) K) : LoopOK E_match_Pick 0 (loopAt (bodyOf Try.f20) 0) L_match_Pick_0 :=
  fun x y K hp ho => match x, y, hp, ho with | (t0, t9, t42, t43, ()), (r0, r1, ()), hp, ho => (R_match_Pick_0 t0 t9 t42 t43 r0 r1 (m_match_Pick_0 t0 t9 t42 t43 r0 r1) K).mpr (h t0 t9 t42 t43 r0 r1 K hp ho)
theorem G_match_Pick : loopsAll E_match_Pick (loopList (bodyOf Try.f20) 0) = (LoopOK E_match_Pick 0 (loopAt (bodyOf Try.f20) 0) L_match_Pick_0 ∧ True) := by kernel_rfl
theorem envok_match_Pick (h_bits_Check : SumOK Try.prog 86 S_bits_Check) (h_match_Begin : SumOK Try.prog 18 S_match_Begin) (h_match_order : SumOK Try.prog 85 S_match_order) : EnvOK E_match_Pick := ⟨sumsOf_ok (List.forall_mem_cons.2 ⟨h_bits_Check, (List.forall_mem_cons.2 ⟨h_match_Begin, (List.forall_mem_cons.2 ⟨h_match_order, (fun _ h => nomatch h)⟩)⟩)⟩), follows⟩
theorem whole_match_Pick (h_bits_Check : SumOK Try.prog 86 S_bits_Check) (h_match_Begin : SumOK Try.prog 18 S_match_Begin) (h_match_order : SumOK Try.prog 85 S_match_order) (l0 : LoopOK E_match_Pick 0 (loopAt (bodyOf Try.f20) 0) L_match_Pick_0) (main : ∀ (a0 : (List Int)) (a1 : Int) (a2 : Int), ((↑(List.length a0) : Int) ≤ big ∧ ∀ (y : Int), y ∈ a0 → (0 : Int) ≤ y) → W_match_Pick a0 a1 a2) : SumOK Try.prog 20 S_match_Pick :=
  fun_sound (E := E_match_Pick) (envok_match_Pick h_bits_Check h_match_Begin h_match_order) (fn := Try.f20) (c := bodyOf Try.f20) (ts := [(6, none), (7, none)]) S_match_Pick Try.func20 (body_some (by kernel_rfl)) (by kernel_rfl) (Nat.le_of_ble_eq_true (by kernel_rfl)) (by kernel_rfl) (by kernel_rfl) (G_match_Pick.mpr ⟨l0, trivial⟩) (fun x hp => match x, hp with | (a0, a1, a2, ()), hp => (V_match_Pick a0 a1 a2).mpr (main a0 a1 a2 hp))
/-! ### R_Bits -/
def L_R_Bits_0 : Lift.Loop := Lift.Loop.mk 25 (.v (.ro (.int .u8)) :: (u 2 ++ (.v (.int .i64) :: (u 21)))) [] 0 (fun x y => p_R_Bits_0 x.1 x.2.1) (fun x y => m_R_Bits_0 x.1 x.2.1) (fun x y K => o_R_Bits_0 x.1 x.2.1 K)
noncomputable def E_R_Bits : Env := { P := Try.prog, sum := sumsOf [], nio := 0, head := fun b => if b = 0 then ([0, 3, 16, 17, 18, 19, 20], []) else ([], []), after := fun _ => none, leave := fun b => if b = 0 then [0, 2] else [], loops := fun b => if b = 0 then some L_R_Bits_0 else none }
def W_R_Bits (a0 : (List Int)) : Prop := (
  (p_R_Bits_0 a0 (0 : Int)) ∧
  condP (List.any (List.drop (0 : Nat) a0) badBit)
    (((1 : Int) = bitsErr a0) ∧
    True)
    (condP (decide ((↑(List.length a0) : Int) > (4096 : Int)))
      (((2 : Int) = bitsErr a0) ∧
      True)
      (((0 : Int) = bitsErr a0) ∧
      True)))
theorem V_R_Bits (a0 : (List Int)) : awp E_R_Bits (bodyOf Try.f21) 0 (fin Try.prog S_R_Bits (a0, ()) [(2, none)] 0) (initSt S_R_Bits.par (a0, ()) 25) = W_R_Bits a0 := by kernel_rfl
def B_R_Bits_0 (t0 : (List Int)) (t3 : Int) (m : Nat) (K : AExit → St → Prop) : Prop := (
  condP (decide (t3 < (↑(List.length t0) : Int)))
    (((0 : Int) ≤ t3) ∧
    (t3 < (↑(List.length t0) : Int)) ∧
    ((List.getD t0 (Int.toNat t3) (0 : Int) != (0 : Int)) = true → (0 : Int) ≤ t3) ∧
    ((List.getD t0 (Int.toNat t3) (0 : Int) != (0 : Int)) = true → t3 < (↑(List.length t0) : Int)) ∧
    condP (if (List.getD t0 (Int.toNat t3) (0 : Int) != (0 : Int)) = true then List.getD t0 (Int.toNat t3) (0 : Int) != (1 : Int) else false)
      (X_R_Bits_0_0 (t0) ((1 : Int)) K)
      ((p_R_Bits_0 t0 (IntKind.wrap IntKind.i64 (t3 + (1 : Int)))) ∧
      (m_R_Bits_0 t0 (IntKind.wrap IntKind.i64 (t3 + (1 : Int))) < m) ∧
      o_R_Bits_0 t0 (IntKind.wrap IntKind.i64 (t3 + (1 : Int))) K))
    (X_R_Bits_0_1 (t0) K))
theorem R_R_Bits_0 (t0 : (List Int)) (t3 : Int) (m : Nat) (K : AExit → St → Prop) : awp E_R_Bits (loopAt (bodyOf Try.f21) 0) 0 (roundP E_R_Bits 0 L_R_Bits_0 m K) (L_R_Bits_0.abs (t0, t3, ()) (())) = B_R_Bits_0 t0 t3 m K := by kernel_rfl
theorem I_R_Bits_0 (h : ∀ (t0 : (List Int)) (t3 : Int) (K : AExit → St → Prop), p_R_Bits_0 t0 t3 → o_R_Bits_0 t0 t3 K → B_R_Bits_0 t0 t3 (m_R_Bits_0 t0 t3) K) : LoopOK E_R_Bits 0 (loopAt (bodyOf Try.f21) 0) L_R_Bits_0 :=
  fun x y K hp ho => match x, y, hp, ho with | (t0, t3, ()), (), hp, ho => (R_R_Bits_0 t0 t3 (m_R_Bits_0 t0 t3) K).mpr (h t0 t3 K hp ho)
theorem G_R_Bits : loopsAll E_R_Bits (loopList (bodyOf Try.f21) 0) = (LoopOK E_R_Bits 0 (loopAt (bodyOf Try.f21) 0) L_R_Bits_0 ∧ True) := by kernel_rfl
theorem envok_R_Bits  : EnvOK E_R_Bits := ⟨sumsOf_ok (fun _ h => nomatch h), follows⟩
theorem whole_R_Bits  (l0 : LoopOK E_R_Bits 0 (loopAt (bodyOf Try.f21) 0) L_R_Bits_0) (main : ∀ (a0 : (List Int)), ((↑(List.length a0) : Int) ≤ big) → W_R_Bits a0) : SumOK Try.prog 21 S_R_Bits :=
  fun_sound (E := E_R_Bits) (envok_R_Bits ) (fn := Try.f21) (c := bodyOf Try.f21) (ts := [(2, none)]) S_R_Bits Try.func21 (body_some (by kernel_rfl)) (by kernel_rfl) (Nat.le_of_ble_eq_true (by kernel_rfl)) (by kernel_rfl) (by kernel_rfl) (G_R_Bits.mpr ⟨l0, trivial⟩) (fun x hp => match x, hp with | (a0, ()), hp => (V_R_Bits a0).mpr (main a0 hp))
/-! ### R_Picked -/
def L_R_Picked_0 : Lift.Loop := Lift.Loop.mk 35 (.v (.int .i64) :: (u 1 ++ (.v (.int .i64) :: (u 4 ++ (.sl 0 :: (.sl 1 :: (.v (.int .i64) :: (.v (.int .i64) :: (u 24))))))))) [(0, .row (.int .i64) []), (1, .row (.int .i64) [])] 2 (fun x y => p_R_Picked_0 x.1 x.2.1 x.2.2.1 x.2.2.2.1 y.1 y.2.1) (fun x y => m_R_Picked_0 x.1 x.2.1 x.2.2.1 x.2.2.2.1 y.1 y.2.1) (fun x y K => o_R_Picked_0 x.1 x.2.1 x.2.2.1 x.2.2.2.1 y.1 y.2.1 K)
noncomputable def E_R_Picked : Env := { P := Try.prog, sum := sumsOf [(17, S_R_Order)], nio := 0, head := fun b => if b = 0 then ([0, 2, 7, 8, 9, 10], [(8, (.int .i64))]) else ([], []), after := fun _ => none, leave := fun b => if b = 0 then [6, 8] else [], loops := fun b => if b = 0 then some L_R_Picked_0 else none }
def W_R_Picked (a0 : Int) (a1 : Int) (a2 : Int) : Prop := (
  (a0 ≤ (1000000 : Int)) ∧
  ((4 : Int) ≠ (0 : Int)) ∧
  (p_R_Picked_0 a0 a2 (IntKind.wrap IntKind.i64 (Int.tdiv (IntKind.wrap IntKind.i64 (a0 * a1)) (4 : Int))) (0 : Int) (turnL a0) (@List.nil Int)) ∧
  (@List.nil Int ++ pickedL a0 (IntKind.wrap IntKind.i64 (Int.tdiv (IntKind.wrap IntKind.i64 (a0 * a1)) (4 : Int))) (Int.toNat (a2 - (0 : Int))) = pickedL a0 (Prod.fst (beginOf a0 a1)) (Int.toNat a2)) ∧
  True)
theorem V_R_Picked (a0 : Int) (a1 : Int) (a2 : Int) : awp E_R_Picked (bodyOf Try.f22) 0 (fin Try.prog S_R_Picked (a0, a1, a2, ()) [(6, none)] 0) (initSt S_R_Picked.par (a0, a1, a2, ()) 35) = W_R_Picked a0 a1 a2 := by kernel_rfl
def B_R_Picked_0 (t0 : Int) (t2 : Int) (t9 : Int) (t10 : Int) (r0 : (List Int)) (r1 : (List Int)) (m : Nat) (K : AExit → St → Prop) : Prop := (
  condP (decide (t10 < t2))
    (((0 : Int) ≤ t9) ∧
    (t9 < (↑(List.length r0) : Int)) ∧
    ((List.length r1 + List.length [List.getD r0 (Int.toNat t9) (0 : Int)]) * (8 : Nat) ≤ (140737488355328 : Nat)) ∧
    condP (IntKind.wrap IntKind.i64 (t9 + (1 : Int)) == t0)
      ((p_R_Picked_0 t0 t2 (0 : Int) (IntKind.wrap IntKind.i64 (t10 + (1 : Int))) r0 (List.append r1 [List.getD r0 (Int.toNat t9) (0 : Int)])) ∧
      (m_R_Picked_0 t0 t2 (0 : Int) (IntKind.wrap IntKind.i64 (t10 + (1 : Int))) r0 (List.append r1 [List.getD r0 (Int.toNat t9) (0 : Int)]) < m) ∧
      o_R_Picked_0 t0 t2 (0 : Int) (IntKind.wrap IntKind.i64 (t10 + (1 : Int))) r0 (List.append r1 [List.getD r0 (Int.toNat t9) (0 : Int)]) K)
      ((p_R_Picked_0 t0 t2 (IntKind.wrap IntKind.i64 (t9 + (1 : Int))) (IntKind.wrap IntKind.i64 (t10 + (1 : Int))) r0 (List.append r1 [List.getD r0 (Int.toNat t9) (0 : Int)])) ∧
      (m_R_Picked_0 t0 t2 (IntKind.wrap IntKind.i64 (t9 + (1 : Int))) (IntKind.wrap IntKind.i64 (t10 + (1 : Int))) r0 (List.append r1 [List.getD r0 (Int.toNat t9) (0 : Int)]) < m) ∧
      o_R_Picked_0 t0 t2 (IntKind.wrap IntKind.i64 (t9 + (1 : Int))) (IntKind.wrap IntKind.i64 (t10 + (1 : Int))) r0 (List.append r1 [List.getD r0 (Int.toNat t9) (0 : Int)]) K))
    (X_R_Picked_0_0 (r1) K))
theorem R_R_Picked_0 (t0 : Int) (t2 : Int) (t9 : Int) (t10 : Int) (r0 : (List Int)) (r1 : (List Int)) (m : Nat) (K : AExit → St → Prop) : awp E_R_Picked (loopAt (bodyOf Try.f22) 0) 0 (roundP E_R_Picked 0 L_R_Picked_0 m K) (L_R_Picked_0.abs (t0, t2, t9, t10, ()) (r0, r1, ())) = B_R_Picked_0 t0 t2 t9 t10 r0 r1 m K := by kernel_rfl
theorem I_R_Picked_0 (h : ∀ (t0 : Int) (t2 : Int) (t9 : Int) (t10 : Int) (r0 : (List Int)) (r1 : (List Int)) (K : AExit → St → Prop), p_R_Picked_0 t0 t2 t9 t10 r0 r1 → o_R_Picked_0 t0 t2 t9 t10 r0 r1 K → B_R_Picked_0 t0 t2 t9 t10 r0 r1 (m_R_Picked_0 t0 t2 t9 t10 r0 r1) K) : LoopOK E_R_Picked 0 (loopAt (bodyOf Try.f22) 0) L_R_Picked_0 :=
  fun x y K hp ho => match x, y, hp, ho with | (t0, t2, t9, t10, ()), (r0, r1, ()), hp, ho => (R_R_Picked_0 t0 t2 t9 t10 r0 r1 (m_R_Picked_0 t0 t2 t9 t10 r0 r1) K).mpr (h t0 t2 t9 t10 r0 r1 K hp ho)
theorem G_R_Picked : loopsAll E_R_Picked (loopList (bodyOf Try.f22) 0) = (LoopOK E_R_Picked 0 (loopAt (bodyOf Try.f22) 0) L_R_Picked_0 ∧ True) := by kernel_rfl
theorem envok_R_Picked (h_R_Order : SumOK Try.prog 17 S_R_Order) : EnvOK E_R_Picked := ⟨sumsOf_ok (List.forall_mem_cons.2 ⟨h_R_Order, (fun _ h => nomatch h)⟩), follows⟩
theorem whole_R_Picked (h_R_Order : SumOK Try.prog 17 S_R_Order) (l0 : LoopOK E_R_Picked 0 (loopAt (bodyOf Try.f22) 0) L_R_Picked_0) (main : ∀ (a0 : Int) (a1 : Int) (a2 : Int), ((1 : Int) ≤ a0 ∧ a0 ≤ (4096 : Int) ∧ (0 : Int) ≤ a1 ∧ a1 ≤ (3 : Int) ∧ (0 : Int) ≤ a2 ∧ a2 ≤ (4096 : Int)) → W_R_Picked a0 a1 a2) : SumOK Try.prog 22 S_R_Picked :=
  fun_sound (E := E_R_Picked) (envok_R_Picked h_R_Order) (fn := Try.f22) (c := bodyOf Try.f22) (ts := [(6, none)]) S_R_Picked Try.func22 (body_some (by kernel_rfl)) (by kernel_rfl) (Nat.le_of_ble_eq_true (by kernel_rfl)) (by kernel_rfl) (by kernel_rfl) (G_R_Picked.mpr ⟨l0, trivial⟩) (fun x hp => match x, hp with | (a0, a1, a2, ()), hp => (V_R_Picked a0 a1 a2).mpr (main a0 a1 a2 hp))
/-! ### bits_Check -/
def L_bits_Check_0 : Lift.Loop := Lift.Loop.mk 17 (.v (.ro (.int .u8)) :: (u 4 ++ (.v (.ro (.int .u8)) :: (.v (.int .i64) :: (.v (.int .i64) :: (u 9)))))) [] 0 (fun x y => p_bits_Check_0 x.1 x.2.1 x.2.2.1 x.2.2.2.1) (fun x y => m_bits_Check_0 x.1 x.2.1 x.2.2.1 x.2.2.2.1) (fun x y K => o_bits_Check_0 x.1 x.2.1 x.2.2.1 x.2.2.2.1 K)
noncomputable def E_bits_Check : Env := { P := Try.prog, sum := sumsOf [], nio := 0, head := fun b => if b = 0 then ([0, 5, 6, 7], []) else ([], []), after := fun _ => none, leave := fun b => if b = 0 then [0, 2] else [], loops := fun b => if b = 0 then some L_bits_Check_0 else none }
def W_bits_Check (a0 : (List Int)) : Prop := (
  (p_bits_Check_0 a0 a0 (↑(List.length a0) : Int) (0 : Int)) ∧
  condP (List.any (List.drop (0 : Nat) a0) fun (x : Int) => decide (x > (1 : Int)))
    (((1 : Int) = bitsErr a0) ∧
    True)
    (condP (decide ((↑(List.length a0) : Int) > (4096 : Int)))
      (((2 : Int) = bitsErr a0) ∧
      True)
      (((0 : Int) = bitsErr a0) ∧
      True)))
theorem V_bits_Check (a0 : (List Int)) : awp E_bits_Check (bodyOf Try.f86) 0 (fin Try.prog S_bits_Check (a0, ()) [(2, none)] 0) (initSt S_bits_Check.par (a0, ()) 17) = W_bits_Check a0 := by kernel_rfl
def B_bits_Check_0 (t0 : (List Int)) (t5 : (List Int)) (t6 : Int) (t7 : Int) (m : Nat) (K : AExit → St → Prop) : Prop := (
  condP (decide (t7 < t6))
    (((0 : Int) ≤ t7) ∧
    (t7 < (↑(List.length t5) : Int)) ∧
    condP (decide (List.getD t5 (Int.toNat t7) (0 : Int) > (1 : Int)))
      (X_bits_Check_0_0 (t0) ((1 : Int)) K)
      ((p_bits_Check_0 t0 t5 t6 (IntKind.wrap IntKind.i64 (t7 + (1 : Int)))) ∧
      (m_bits_Check_0 t0 t5 t6 (IntKind.wrap IntKind.i64 (t7 + (1 : Int))) < m) ∧
      o_bits_Check_0 t0 t5 t6 (IntKind.wrap IntKind.i64 (t7 + (1 : Int))) K))
    (X_bits_Check_0_1 (t0) K))
theorem R_bits_Check_0 (t0 : (List Int)) (t5 : (List Int)) (t6 : Int) (t7 : Int) (m : Nat) (K : AExit → St → Prop) : awp E_bits_Check (loopAt (bodyOf Try.f86) 0) 0 (roundP E_bits_Check 0 L_bits_Check_0 m K) (L_bits_Check_0.abs (t0, t5, t6, t7, ()) (())) = B_bits_Check_0 t0 t5 t6 t7 m K := by kernel_rfl
theorem I_bits_Check_0 (h : ∀ (t0 : (List Int)) (t5 : (List Int)) (t6 : Int) (t7 : Int) (K : AExit → St → Prop), p_bits_Check_0 t0 t5 t6 t7 → o_bits_Check_0 t0 t5 t6 t7 K → B_bits_Check_0 t0 t5 t6 t7 (m_bits_Check_0 t0 t5 t6 t7) K) : LoopOK E_bits_Check 0 (loopAt (bodyOf Try.f86) 0) L_bits_Check_0 :=
  fun x y K hp ho => match x, y, hp, ho with | (t0, t5, t6, t7, ()), (), hp, ho => (R_bits_Check_0 t0 t5 t6 t7 (m_bits_Check_0 t0 t5 t6 t7) K).mpr (h t0 t5 t6 t7 K hp ho)
theorem G_bits_Check : loopsAll E_bits_Check (loopList (bodyOf Try.f86) 0) = (LoopOK E_bits_Check 0 (loopAt (bodyOf Try.f86) 0) L_bits_Check_0 ∧ True) := by kernel_rfl
theorem envok_bits_Check  : EnvOK E_bits_Check := ⟨sumsOf_ok (fun _ h => nomatch h), follows⟩
theorem whole_bits_Check  (l0 : LoopOK E_bits_Check 0 (loopAt (bodyOf Try.f86) 0) L_bits_Check_0) (main : ∀ (a0 : (List Int)), ((↑(List.length a0) : Int) ≤ big ∧ ∀ (y : Int), y ∈ a0 → (0 : Int) ≤ y) → W_bits_Check a0) : SumOK Try.prog 86 S_bits_Check :=
  fun_sound (E := E_bits_Check) (envok_bits_Check ) (fn := Try.f86) (c := bodyOf Try.f86) (ts := [(2, none)]) S_bits_Check Try.func86 (body_some (by kernel_rfl)) (by kernel_rfl) (Nat.le_of_ble_eq_true (by kernel_rfl)) (by kernel_rfl) (by kernel_rfl) (G_bits_Check.mpr ⟨l0, trivial⟩) (fun x hp => match x, hp with | (a0, ()), hp => (V_bits_Check a0).mpr (main a0 hp))
/-! ### match_New -/
noncomputable def E_match_New : Env := { P := Try.prog, sum := sumsOf [], nio := 0, head := fun b => ([], []), after := fun _ => none, leave := fun b => [], loops := fun b => none }
def W_match_New (a0 : Int) : Prop := (
  condP (if decide (a0 < (1 : Int)) = true then true else decide (a0 > (4096 : Int)))
    ((none = if (1 : Int) ≤ a0 ∧ a0 ≤ (4096 : Int) then some (List.replicate (Int.toNat a0) (0 : Int), ()) else none) ∧
    ((1 : Int) = if (1 : Int) ≤ a0 ∧ a0 ≤ (4096 : Int) then (0 : Int) else (1 : Int)) ∧
    True)
    (((0 : Int) ≤ a0) ∧
    (a0 ≤ a0) ∧
    ((↑(8 : Nat) : Int) * a0 ≤ (281474976710656 : Int)) ∧
    (some (List.replicate (Int.toNat a0) (0 : Int), ()) = if (1 : Int) ≤ a0 ∧ a0 ≤ (4096 : Int) then some (List.replicate (Int.toNat a0) (0 : Int), ()) else none) ∧
    ((0 : Int) = if (1 : Int) ≤ a0 ∧ a0 ≤ (4096 : Int) then (0 : Int) else (1 : Int)) ∧
    True))
theorem V_match_New (a0 : Int) : awp E_match_New (bodyOf Try.f23) 0 (fin Try.prog S_match_New (a0, ()) [(2, none), (3, none)] 0) (initSt S_match_New.par (a0, ()) 14) = W_match_New a0 := by kernel_rfl
theorem G_match_New : loopsAll E_match_New (loopList (bodyOf Try.f23) 0) = (True) := by kernel_rfl
theorem envok_match_New  : EnvOK E_match_New := ⟨sumsOf_ok (fun _ h => nomatch h), follows⟩
theorem whole_match_New   (main : ∀ (a0 : Int), (True) → W_match_New a0) : SumOK Try.prog 23 S_match_New :=
  fun_sound (E := E_match_New) (envok_match_New ) (fn := Try.f23) (c := bodyOf Try.f23) (ts := [(2, none), (3, none)]) S_match_New Try.func23 (body_some (by kernel_rfl)) (by kernel_rfl) (Nat.le_of_ble_eq_true (by kernel_rfl)) (by kernel_rfl) (by kernel_rfl) (G_match_New.mpr trivial) (fun x hp => match x, hp with | (a0, ()), hp => (V_match_New a0).mpr (main a0 hp))
/-! ### R_Soft -/
def L_R_Soft_0 : Lift.Loop := Lift.Loop.mk 22 (.v (.ro (.int .i64)) :: (u 2 ++ (.v (.int .i64) :: (u 18)))) [] 0 (fun x y => p_R_Soft_0 x.1 x.2.1) (fun x y => m_R_Soft_0 x.1 x.2.1) (fun x y K => o_R_Soft_0 x.1 x.2.1 K)
noncomputable def E_R_Soft : Env := { P := Try.prog, sum := sumsOf [], nio := 0, head := fun b => if b = 0 then ([0, 3, 16, 17, 18, 19, 20], []) else ([], []), after := fun _ => none, leave := fun b => if b = 0 then [2] else [], loops := fun b => if b = 0 then some L_R_Soft_0 else none }
def W_R_Soft (a0 : (List Int)) : Prop := (
  (p_R_Soft_0 a0 (0 : Int)) ∧
  condP (softB (List.drop (0 : Nat) a0))
    ((true = softB a0) ∧
    True)
    ((false = softB a0) ∧
    True))
theorem V_R_Soft (a0 : (List Int)) : awp E_R_Soft (bodyOf Try.f24) 0 (fin Try.prog S_R_Soft (a0, ()) [(2, none)] 0) (initSt S_R_Soft.par (a0, ()) 22) = W_R_Soft a0 := by kernel_rfl
def B_R_Soft_0 (t0 : (List Int)) (t3 : Int) (m : Nat) (K : AExit → St → Prop) : Prop := (
  condP (decide (t3 < (↑(List.length t0) : Int)))
    (((0 : Int) ≤ t3) ∧
    (t3 < (↑(List.length t0) : Int)) ∧
    (decide (List.getD t0 (Int.toNat t3) (0 : Int) > (100000 : Int)) = false → (0 : Int) ≤ t3) ∧
    (decide (List.getD t0 (Int.toNat t3) (0 : Int) > (100000 : Int)) = false → t3 < (↑(List.length t0) : Int)) ∧
    condP (if decide (List.getD t0 (Int.toNat t3) (0 : Int) > (100000 : Int)) = true then true else decide (List.getD t0 (Int.toNat t3) (0 : Int) < (-100000 : Int)))
      (X_R_Soft_0_0 (false) K)
      ((p_R_Soft_0 t0 (IntKind.wrap IntKind.i64 (t3 + (1 : Int)))) ∧
      (m_R_Soft_0 t0 (IntKind.wrap IntKind.i64 (t3 + (1 : Int))) < m) ∧
      o_R_Soft_0 t0 (IntKind.wrap IntKind.i64 (t3 + (1 : Int))) K))
    (X_R_Soft_0_1  K))
theorem R_R_Soft_0 (t0 : (List Int)) (t3 : Int) (m : Nat) (K : AExit → St → Prop) : awp E_R_Soft (loopAt (bodyOf Try.f24) 0) 0 (roundP E_R_Soft 0 L_R_Soft_0 m K) (L_R_Soft_0.abs (t0, t3, ()) (())) = B_R_Soft_0 t0 t3 m K := by kernel_rfl
theorem I_R_Soft_0 (h : ∀ (t0 : (List Int)) (t3 : Int) (K : AExit → St → Prop), p_R_Soft_0 t0 t3 → o_R_Soft_0 t0 t3 K → B_R_Soft_0 t0 t3 (m_R_Soft_0 t0 t3) K) : LoopOK E_R_Soft 0 (loopAt (bodyOf Try.f24) 0) L_R_Soft_0 :=
  fun x y K hp ho => match x, y, hp, ho with | (t0, t3, ()), (), hp, ho => (R_R_Soft_0 t0 t3 (m_R_Soft_0 t0 t3) K).mpr (h t0 t3 K hp ho)
theorem G_R_Soft : loopsAll E_R_Soft (loopList (bodyOf Try.f24) 0) = (LoopOK E_R_Soft 0 (loopAt (bodyOf Try.f24) 0) L_R_Soft_0 ∧ True) := by kernel_rfl
theorem envok_R_Soft  : EnvOK E_R_Soft := ⟨sumsOf_ok (fun _ h => nomatch h), follows⟩
theorem whole_R_Soft  (l0 : LoopOK E_R_Soft 0 (loopAt (bodyOf Try.f24) 0) L_R_Soft_0) (main : ∀ (a0 : (List Int)), ((↑(List.length a0) : Int) ≤ big) → W_R_Soft a0) : SumOK Try.prog 24 S_R_Soft :=
  fun_sound (E := E_R_Soft) (envok_R_Soft ) (fn := Try.f24) (c := bodyOf Try.f24) (ts := [(2, none)]) S_R_Soft Try.func24 (body_some (by kernel_rfl)) (by kernel_rfl) (Nat.le_of_ble_eq_true (by kernel_rfl)) (by kernel_rfl) (by kernel_rfl) (G_R_Soft.mpr ⟨l0, trivial⟩) (fun x hp => match x, hp with | (a0, ()), hp => (V_R_Soft a0).mpr (main a0 hp))
/-! ### conv_Soft -/
def L_conv_Soft_0 : Lift.Loop := Lift.Loop.mk 18 (u 5 ++ (.v (.ro (.int .i64)) :: (.v (.int .i64) :: (.v (.int .i64) :: (u 10))))) [] 0 (fun x y => p_conv_Soft_0 x.1 x.2.1 x.2.2.1) (fun x y => m_conv_Soft_0 x.1 x.2.1 x.2.2.1) (fun x y K => o_conv_Soft_0 x.1 x.2.1 x.2.2.1 K)
noncomputable def E_conv_Soft : Env := { P := Try.prog, sum := sumsOf [], nio := 0, head := fun b => if b = 0 then ([5, 6, 7, 14, 15], []) else ([], []), after := fun _ => none, leave := fun b => if b = 0 then [2] else [], loops := fun b => if b = 0 then some L_conv_Soft_0 else none }
def W_conv_Soft (a0 : (List Int)) : Prop := (
  (p_conv_Soft_0 a0 (↑(List.length a0) : Int) (0 : Int)) ∧
  condP (softB (List.drop (0 : Nat) a0))
    ((true = softB a0) ∧
    True)
    ((false = softB a0) ∧
    True))
theorem V_conv_Soft (a0 : (List Int)) : awp E_conv_Soft (bodyOf Try.f87) 0 (fin Try.prog S_conv_Soft (a0, ()) [(2, none)] 0) (initSt S_conv_Soft.par (a0, ()) 18) = W_conv_Soft a0 := by kernel_rfl
def B_conv_Soft_0 (t5 : (List Int)) (t6 : Int) (t7 : Int) (m : Nat) (K : AExit → St → Prop) : Prop := (
  condP (decide (t7 < t6))
    (((0 : Int) ≤ t7) ∧
    (t7 < (↑(List.length t5) : Int)) ∧
    condP (if decide (List.getD t5 (Int.toNat t7) (0 : Int) < (-100000 : Int)) = true then true else decide (List.getD t5 (Int.toNat t7) (0 : Int) > (100000 : Int)))
      (X_conv_Soft_0_0 (false) K)
      ((p_conv_Soft_0 t5 t6 (IntKind.wrap IntKind.i64 (t7 + (1 : Int)))) ∧
      (m_conv_Soft_0 t5 t6 (IntKind.wrap IntKind.i64 (t7 + (1 : Int))) < m) ∧
      o_conv_Soft_0 t5 t6 (IntKind.wrap IntKind.i64 (t7 + (1 : Int))) K))
    (X_conv_Soft_0_1  K))
theorem R_conv_Soft_0 (t5 : (List Int)) (t6 : Int) (t7 : Int) (m : Nat) (K : AExit → St → Prop) : awp E_conv_Soft (loopAt (bodyOf Try.f87) 0) 0 (roundP E_conv_Soft 0 L_conv_Soft_0 m K) (L_conv_Soft_0.abs (t5, t6, t7, ()) (())) = B_conv_Soft_0 t5 t6 t7 m K := by kernel_rfl
theorem I_conv_Soft_0 (h : ∀ (t5 : (List Int)) (t6 : Int) (t7 : Int) (K : AExit → St → Prop), p_conv_Soft_0 t5 t6 t7 → o_conv_Soft_0 t5 t6 t7 K → B_conv_Soft_0 t5 t6 t7 (m_conv_Soft_0 t5 t6 t7) K) : LoopOK E_conv_Soft 0 (loopAt (bodyOf Try.f87) 0) L_conv_Soft_0 :=
  fun x y K hp ho => match x, y, hp, ho with | (t5, t6, t7, ()), (), hp, ho => (R_conv_Soft_0 t5 t6 t7 (m_conv_Soft_0 t5 t6 t7) K).mpr (h t5 t6 t7 K hp ho)
theorem G_conv_Soft : loopsAll E_conv_Soft (loopList (bodyOf Try.f87) 0) = (LoopOK E_conv_Soft 0 (loopAt (bodyOf Try.f87) 0) L_conv_Soft_0 ∧ True) := by kernel_rfl
theorem envok_conv_Soft  : EnvOK E_conv_Soft := ⟨sumsOf_ok (fun _ h => nomatch h), follows⟩
theorem whole_conv_Soft  (l0 : LoopOK E_conv_Soft 0 (loopAt (bodyOf Try.f87) 0) L_conv_Soft_0) (main : ∀ (a0 : (List Int)), ((↑(List.length a0) : Int) ≤ big) → W_conv_Soft a0) : SumOK Try.prog 87 S_conv_Soft :=
  fun_sound (E := E_conv_Soft) (envok_conv_Soft ) (fn := Try.f87) (c := bodyOf Try.f87) (ts := [(2, none)]) S_conv_Soft Try.func87 (body_some (by kernel_rfl)) (by kernel_rfl) (Nat.le_of_ble_eq_true (by kernel_rfl)) (by kernel_rfl) (by kernel_rfl) (G_conv_Soft.mpr ⟨l0, trivial⟩) (fun x hp => match x, hp with | (a0, ()), hp => (V_conv_Soft a0).mpr (main a0 hp))
/-! ### slices_Clone_int_int -/
noncomputable def E_slices_Clone_int_int : Env := { P := Try.prog, sum := sumsOf [], nio := 0, head := fun b => ([], []), after := fun _ => none, leave := fun b => [], loops := fun b => none }
def W_slices_Clone_int_int (a0 : (List Int)) : Prop := (
  condQ (List.isEmpty a0) false
    ((@List.nil Int = a0) ∧
    True)
    (((List.length (List.replicate (0 : Nat) (0 : Int)) + List.length a0) * (8 : Nat) ≤ (140737488355328 : Nat)) ∧
    (List.append (List.replicate (0 : Nat) (0 : Int)) a0 = a0) ∧
    True))
theorem V_slices_Clone_int_int (a0 : (List Int)) : awp E_slices_Clone_int_int (bodyOf Try.f88) 0 (fin Try.prog S_slices_Clone_int_int (a0, ()) [(2, none)] 0) (initSt S_slices_Clone_int_int.par (a0, ()) 8) = W_slices_Clone_int_int a0 := by kernel_rfl
theorem G_slices_Clone_int_int : loopsAll E_slices_Clone_int_int (loopList (bodyOf Try.f88) 0) = (True) := by kernel_rfl
theorem envok_slices_Clone_int_int  : EnvOK E_slices_Clone_int_int := ⟨sumsOf_ok (fun _ h => nomatch h), follows⟩
theorem whole_slices_Clone_int_int   (main : ∀ (a0 : (List Int)), (List.length a0 ≤ (1000000000 : Nat)) → W_slices_Clone_int_int a0) : SumOK Try.prog 88 S_slices_Clone_int_int :=
  fun_sound (E := E_slices_Clone_int_int) (envok_slices_Clone_int_int ) (fn := Try.f88) (c := bodyOf Try.f88) (ts := [(2, none)]) S_slices_Clone_int_int Try.func88 (body_some (by kernel_rfl)) (by kernel_rfl) (Nat.le_of_ble_eq_true (by kernel_rfl)) (by kernel_rfl) (by kernel_rfl) (G_slices_Clone_int_int.mpr trivial) (fun x hp => match x, hp with | (a0, ()), hp => (V_slices_Clone_int_int a0).mpr (main a0 hp))
/-! ### match_Buffer_Soft -/
noncomputable def E_match_Buffer_Soft : Env := { P := Try.prog, sum := sumsOf [(88, S_slices_Clone_int_int)], nio := 1, head := fun b => ([], []), after := fun _ => none, leave := fun b => [], loops := fun b => none }
def W_match_Buffer_Soft (a0 : ((List Int) × Unit)) : Prop := (
  (List.length (Prod.fst a0) ≤ (1000000000 : Nat)) ∧
  (Prod.fst a0 = Prod.fst a0) ∧
  ((Prod.fst a0, Prod.snd a0) = a0) ∧
  True)
theorem V_match_Buffer_Soft (a0 : ((List Int) × Unit)) : awp E_match_Buffer_Soft (bodyOf Try.f26) 0 (fin Try.prog S_match_Buffer_Soft (a0, ()) [(2, none)] 1) (initSt S_match_Buffer_Soft.par (a0, ()) 8) = W_match_Buffer_Soft a0 := by kernel_rfl
theorem G_match_Buffer_Soft : loopsAll E_match_Buffer_Soft (loopList (bodyOf Try.f26) 0) = (True) := by kernel_rfl
theorem envok_match_Buffer_Soft (h_slices_Clone_int_int : SumOK Try.prog 88 S_slices_Clone_int_int) : EnvOK E_match_Buffer_Soft := ⟨sumsOf_ok (List.forall_mem_cons.2 ⟨h_slices_Clone_int_int, (fun _ h => nomatch h)⟩), follows⟩
theorem whole_match_Buffer_Soft (h_slices_Clone_int_int : SumOK Try.prog 88 S_slices_Clone_int_int)  (main : ∀ (a0 : ((List Int) × Unit)), (List.length (Prod.fst a0) ≤ (4096 : Nat)) → W_match_Buffer_Soft a0) : SumOK Try.prog 26 S_match_Buffer_Soft :=
  fun_sound (E := E_match_Buffer_Soft) (envok_match_Buffer_Soft h_slices_Clone_int_int) (fn := Try.f26) (c := bodyOf Try.f26) (ts := [(2, none)]) S_match_Buffer_Soft Try.func26 (body_some (by kernel_rfl)) (by kernel_rfl) (Nat.le_of_ble_eq_true (by kernel_rfl)) (by kernel_rfl) (by kernel_rfl) (G_match_Buffer_Soft.mpr trivial) (fun x hp => match x, hp with | (a0, ()), hp => (V_match_Buffer_Soft a0).mpr (main a0 hp))
/-! ### match_Buffer_Add -/
def L_match_Buffer_Add_0 : Lift.Loop := Lift.Loop.mk 76 (.addr 0 :: (u 6 ++ (.v (.int .i64) :: (u 1 ++ (.sl 1 :: (.sl 2 :: (u 35 ++ (.v (.ro (.int .i64)) :: (.v (.int .i64) :: (.v (.int .i64) :: (u 27))))))))))) [(0, .box (.pair (.own (.int .i64)) .unit) []), (1, .row (.int .i64) []), (2, .row (.int .i64) [])] 4 (fun x y => p_match_Buffer_Add_0 x.1 x.2.1 x.2.2.1 x.2.2.2.1 y.1 y.2.1 y.2.2.1) (fun x y => m_match_Buffer_Add_0 x.1 x.2.1 x.2.2.1 x.2.2.2.1 y.1 y.2.1 y.2.2.1) (fun x y K => o_match_Buffer_Add_0 x.1 x.2.1 x.2.2.1 x.2.2.2.1 y.1 y.2.1 y.2.2.1 K)
noncomputable def E_match_Buffer_Add : Env := { P := Try.prog, sum := sumsOf [(18, S_match_Begin), (87, S_conv_Soft), (85, S_match_order), (88, S_slices_Clone_int_int)], nio := 1, head := fun b => if b = 0 then ([0, 7, 9, 10, 46, 47, 48], []) else ([], []), after := fun _ => none, leave := fun b => if b = 0 then [0, 6, 10] else [], loops := fun b => if b = 0 then some L_match_Buffer_Add_0 else none }
def W_match_Buffer_Add (a0 : ((List Int) × Unit)) (a1 : (List Int)) (a2 : Int) : Prop := (
  (True) ∧
  ((Prod.snd (beginOf (↑(List.length (Prod.fst a0)) : Int) a2) != (0 : Int)) = false → (↑(List.length a1) : Int) ≤ big) ∧
  condP (if (if (Prod.snd (beginOf (↑(List.length (Prod.fst a0)) : Int) a2) != (0 : Int)) = true then true else !softB a1) = true then true else decide ((↑(List.length a1) : Int) > (4096 : Int)))
    (((1 : Int) = addErr (Prod.fst a0) a1 a2) ∧
    ((Prod.fst a0, Prod.snd a0) = (addOf (Prod.fst a0) a1 a2, ())) ∧
    True)
    (((↑(List.length (Prod.fst a0)) : Int) ≤ (1000000 : Int)) ∧
    (List.length (Prod.fst a0) ≤ (1000000000 : Nat)) ∧
    (p_match_Buffer_Add_0 (Prod.fst (beginOf (↑(List.length (Prod.fst a0)) : Int) a2)) a1 (↑(List.length a1) : Int) (0 : Int) (Prod.fst a0, Prod.snd a0) (turnL (↑(List.length (Prod.fst a0)) : Int)) (Prod.fst a0)) ∧
    ((↑(List.length (addP (Prod.fst a0) (List.drop (0 : Nat) (pickedL (↑(List.length (Prod.fst a0)) : Int) (Prod.fst (beginOf (↑(List.length (Prod.fst a0)) : Int) a2)) (Int.toNat (↑(List.length a1) : Int)))) (List.drop (0 : Nat) a1))) : Int) ≤ big) ∧
    condP (!softB (addP (Prod.fst a0) (List.drop (0 : Nat) (pickedL (↑(List.length (Prod.fst a0)) : Int) (Prod.fst (beginOf (↑(List.length (Prod.fst a0)) : Int) a2)) (Int.toNat (↑(List.length a1) : Int)))) (List.drop (0 : Nat) a1)))
      (((2 : Int) = addErr (Prod.fst a0) a1 a2) ∧
      ((Prod.fst a0, Prod.snd a0) = (addOf (Prod.fst a0) a1 a2, ())) ∧
      True)
      (((0 : Int) = addErr (Prod.fst a0) a1 a2) ∧
      ((addP (Prod.fst a0) (List.drop (0 : Nat) (pickedL (↑(List.length (Prod.fst a0)) : Int) (Prod.fst (beginOf (↑(List.length (Prod.fst a0)) : Int) a2)) (Int.toNat (↑(List.length a1) : Int)))) (List.drop (0 : Nat) a1), Prod.snd a0) = (addOf (Prod.fst a0) a1 a2, ())) ∧
      True)))
theorem V_match_Buffer_Add (a0 : ((List Int) × Unit)) (a1 : (List Int)) (a2 : Int) : awp E_match_Buffer_Add (bodyOf Try.f25) 0 (fin Try.prog S_match_Buffer_Add (a0, a1, a2, ()) [(6, none)] 1) (initSt S_match_Buffer_Add.par (a0, a1, a2, ()) 76) = W_match_Buffer_Add a0 a1 a2 := by kernel_rfl
def B_match_Buffer_Add_0 (t7 : Int) (t46 : (List Int)) (t47 : Int) (t48 : Int) (r0 : ((List Int) × Unit)) (r1 : (List Int)) (r2 : (List Int)) (m : Nat) (K : AExit → St → Prop) : Prop := (
  condP (decide (t48 < t47))
    (((0 : Int) ≤ t48) ∧
    (t48 < (↑(List.length t46) : Int)) ∧
    ((↑(List.length r1) : Int) ≠ (0 : Int)) ∧
    ((0 : Int) ≤ Int.tmod (IntKind.wrap IntKind.i64 (t7 + t48)) (↑(List.length r1) : Int)) ∧
    (Int.tmod (IntKind.wrap IntKind.i64 (t7 + t48)) (↑(List.length r1) : Int) < (↑(List.length r1) : Int)) ∧
    ((0 : Int) ≤ List.getD r1 (Int.toNat (Int.tmod (IntKind.wrap IntKind.i64 (t7 + t48)) (↑(List.length r1) : Int))) (0 : Int)) ∧
    (List.getD r1 (Int.toNat (Int.tmod (IntKind.wrap IntKind.i64 (t7 + t48)) (↑(List.length r1) : Int))) (0 : Int) < (↑(List.length r2) : Int)) ∧
    ((0 : Int) ≤ List.getD r1 (Int.toNat (Int.tmod (IntKind.wrap IntKind.i64 (t7 + t48)) (↑(List.length r1) : Int))) (0 : Int)) ∧
    (List.getD r1 (Int.toNat (Int.tmod (IntKind.wrap IntKind.i64 (t7 + t48)) (↑(List.length r1) : Int))) (0 : Int) < (↑(List.length r2) : Int)) ∧
    (p_match_Buffer_Add_0 t7 t46 t47 (IntKind.wrap IntKind.i64 (t48 + (1 : Int))) r0 r1 (List.set r2 (Int.toNat (List.getD r1 (Int.toNat (Int.tmod (IntKind.wrap IntKind.i64 (t7 + t48)) (↑(List.length r1) : Int))) (0 : Int))) (IntKind.wrap IntKind.i64 (List.getD r2 (Int.toNat (List.getD r1 (Int.toNat (Int.tmod (IntKind.wrap IntKind.i64 (t7 + t48)) (↑(List.length r1) : Int))) (0 : Int))) (0 : Int) + List.getD t46 (Int.toNat t48) (0 : Int))))) ∧
    (m_match_Buffer_Add_0 t7 t46 t47 (IntKind.wrap IntKind.i64 (t48 + (1 : Int))) r0 r1 (List.set r2 (Int.toNat (List.getD r1 (Int.toNat (Int.tmod (IntKind.wrap IntKind.i64 (t7 + t48)) (↑(List.length r1) : Int))) (0 : Int))) (IntKind.wrap IntKind.i64 (List.getD r2 (Int.toNat (List.getD r1 (Int.toNat (Int.tmod (IntKind.wrap IntKind.i64 (t7 + t48)) (↑(List.length r1) : Int))) (0 : Int))) (0 : Int) + List.getD t46 (Int.toNat t48) (0 : Int)))) < m) ∧
    o_match_Buffer_Add_0 t7 t46 t47 (IntKind.wrap IntKind.i64 (t48 + (1 : Int))) r0 r1 (List.set r2 (Int.toNat (List.getD r1 (Int.toNat (Int.tmod (IntKind.wrap IntKind.i64 (t7 + t48)) (↑(List.length r1) : Int))) (0 : Int))) (IntKind.wrap IntKind.i64 (List.getD r2 (Int.toNat (List.getD r1 (Int.toNat (Int.tmod (IntKind.wrap IntKind.i64 (t7 + t48)) (↑(List.length r1) : Int))) (0 : Int))) (0 : Int) + List.getD t46 (Int.toNat t48) (0 : Int)))) K)
    (X_match_Buffer_Add_0_0 (r0) (r2) K))
theorem R_match_Buffer_Add_0 (t7 : Int) (t46 : (List Int)) (t47 : Int) (t48 : Int) (r0 : ((List Int) × Unit)) (r1 : (List Int)) (r2 : (List Int)) (m : Nat) (K : AExit → St → Prop) : awp E_match_Buffer_Add (loopAt (bodyOf Try.f25) 0) 0 (roundP E_match_Buffer_Add 0 L_match_Buffer_Add_0 m K) (L_match_Buffer_Add_0.abs (t7, t46, t47, t48, ()) (r0, r1, r2, ())) = B_match_Buffer_Add_0 t7 t46 t47 t48 r0 r1 r2 m K := by kernel_rfl
theorem I_match_Buffer_Add_0 (h : ∀ (t7 : Int) (t46 : (List Int)) (t47 : Int) (t48 : Int) (r0 : ((List Int) × Unit)) (r1 : (List Int)) (r2 : (List Int)) (K : AExit → St → Prop), p_match_Buffer_Add_0 t7 t46 t47 t48 r0 r1 r2 → o_match_Buffer_Add_0 t7 t46 t47 t48 r0 r1 r2 K → B_match_Buffer_Add_0 t7 t46 t47 t48 r0 r1 r2 (m_match_Buffer_Add_0 t7 t46 t47 t48 r0 r1 r2) K) : LoopOK E_match_Buffer_Add 0 (loopAt (bodyOf Try.f25) 0) L_match_Buffer_Add_0 :=
  fun x y K hp ho => match x, y, hp, ho with | (t7, t46, t47, t48, ()), (r0, r1, r2, ()), hp, ho => (R_match_Buffer_Add_0 t7 t46 t47 t48 r0 r1 r2 (m_match_Buffer_Add_0 t7 t46 t47 t48 r0 r1 r2) K).mpr (h t7 t46 t47 t48 r0 r1 r2 K hp ho)
theorem G_match_Buffer_Add : loopsAll E_match_Buffer_Add (loopList (bodyOf Try.f25) 0) = (LoopOK E_match_Buffer_Add 0 (loopAt (bodyOf Try.f25) 0) L_match_Buffer_Add_0 ∧ True) := by kernel_rfl
theorem envok_match_Buffer_Add (h_match_Begin : SumOK Try.prog 18 S_match_Begin) (h_conv_Soft : SumOK Try.prog 87 S_conv_Soft) (h_match_order : SumOK Try.prog 85 S_match_order) (h_slices_Clone_int_int : SumOK Try.prog 88 S_slices_Clone_int_int) : EnvOK E_match_Buffer_Add := ⟨sumsOf_ok (List.forall_mem_cons.2 ⟨h_match_Begin, (List.forall_mem_cons.2 ⟨h_conv_Soft, (List.forall_mem_cons.2 ⟨h_match_order, (List.forall_mem_cons.2 ⟨h_slices_Clone_int_int, (fun _ h => nomatch h)⟩)⟩)⟩)⟩), follows⟩
theorem whole_match_Buffer_Add (h_match_Begin : SumOK Try.prog 18 S_match_Begin) (h_conv_Soft : SumOK Try.prog 87 S_conv_Soft) (h_match_order : SumOK Try.prog 85 S_match_order) (h_slices_Clone_int_int : SumOK Try.prog 88 S_slices_Clone_int_int) (l0 : LoopOK E_match_Buffer_Add 0 (loopAt (bodyOf Try.f25) 0) L_match_Buffer_Add_0) (main : ∀ (a0 : ((List Int) × Unit)) (a1 : (List Int)) (a2 : Int), (List.length (Prod.fst a0) ≤ (4096 : Nat) ∧ (↑(List.length a1) : Int) ≤ big) → W_match_Buffer_Add a0 a1 a2) : SumOK Try.prog 25 S_match_Buffer_Add :=
  fun_sound (E := E_match_Buffer_Add) (envok_match_Buffer_Add h_match_Begin h_conv_Soft h_match_order h_slices_Clone_int_int) (fn := Try.f25) (c := bodyOf Try.f25) (ts := [(6, none)]) S_match_Buffer_Add Try.func25 (body_some (by kernel_rfl)) (by kernel_rfl) (Nat.le_of_ble_eq_true (by kernel_rfl)) (by kernel_rfl) (by kernel_rfl) (G_match_Buffer_Add.mpr ⟨l0, trivial⟩) (fun x hp => match x, hp with | (a0, a1, a2, ()), hp => (V_match_Buffer_Add a0 a1 a2).mpr (main a0 a1 a2 hp))
end Go.Spec
