/- The runs of the functions, told. -/
import Derived.Test.YtppemehkbnbjlaaLF
import Derived.Test.YtppemehkbnbjlaaProg
import Derived.Test.YtppemehkbnbjlaaS12
set_option linter.unusedVariables false
set_option linter.unusedSimpArgs false
namespace Go.Spec
open Go Go.Lift Go.Proofs
attribute [local irreducible] Go.Lift.awp
theorem follows : Try.prog.follows .mixedOrders = true := by kernel_rfl
/-! ### grid_Lay -/
def L_grid_Lay_0 : Lift.Loop := Lift.Loop.mk 118 (u 1 ++ (.v (.ro (.pair (.int .i64) (.pair (.ro (.pair (.int .i64) (.pair (.int .i64) .unit))) .unit))) :: (.addr 0 :: (u 4 ++ (.mp 1 :: (u 16 ++ (.v (.ro (.pair (.int .i64) (.pair (.ro (.pair (.int .i64) (.pair (.int .i64) .unit))) .unit))) :: (.v (.int .i64) :: (.v (.int .i64) :: (u 91)))))))))) [(0, .box (.pair (.int .i64) (.pair (.ro (.pair (.int .i64) (.pair (.int .i64) (.pair (.int .i64) (.pair (.int .i64) (.pair (.int .i64) .unit)))))) .unit)) []), (1, .mp (.int .i64) (.int .i64) [])] 2 (fun x y => p_grid_Lay_0 x.1 x.2.1 x.2.2.1 x.2.2.2.1 y.1 y.2.1) (fun x y => m_grid_Lay_0 x.1 x.2.1 x.2.2.1 x.2.2.2.1 y.1 y.2.1) (fun x y K => o_grid_Lay_0 x.1 x.2.1 x.2.2.1 x.2.2.2.1 y.1 y.2.1 K)
def L_grid_Lay_2 : Lift.Loop := Lift.Loop.mk 118 (u 1 ++ (.v (.ro (.pair (.int .i64) (.pair (.ro (.pair (.int .i64) (.pair (.int .i64) .unit))) .unit))) :: (.addr 0 :: (u 7 ++ (.sl 1 :: (u 32 ++ (.v (.int .i64) :: (.v (.int .i64) :: (u 73))))))))) [(0, .box (.pair (.int .i64) (.pair (.ro (.pair (.int .i64) (.pair (.int .i64) (.pair (.int .i64) (.pair (.int .i64) (.pair (.int .i64) .unit)))))) .unit)) []), (1, .row (.own (.pair (.int .i64) (.pair (.int .i64) .unit))) [])] 2 (fun x y => p_grid_Lay_2 x.1 x.2.1 x.2.2.1 y.1 y.2.1) (fun x y => m_grid_Lay_2 x.1 x.2.1 x.2.2.1 y.1 y.2.1) (fun x y K => o_grid_Lay_2 x.1 x.2.1 x.2.2.1 y.1 y.2.1 K)
def L_grid_Lay_4 : Lift.Loop := Lift.Loop.mk 118 (u 1 ++ (.v (.ro (.pair (.int .i64) (.pair (.ro (.pair (.int .i64) (.pair (.int .i64) .unit))) .unit))) :: (.addr 0 :: (u 7 ++ (.sl 1 :: (.v (.int .i64) :: (u 31 ++ (.v (.int .i64) :: (.v (.int .i64) :: (u 13 ++ (.v (.int .i64) :: (.v (.int .i64) :: (u 58))))))))))))) [(0, .box (.pair (.int .i64) (.pair (.ro (.pair (.int .i64) (.pair (.int .i64) (.pair (.int .i64) (.pair (.int .i64) (.pair (.int .i64) .unit)))))) .unit)) []), (1, .row (.own (.pair (.int .i64) (.pair (.int .i64) .unit))) [])] 2 (fun x y => p_grid_Lay_4 x.1 x.2.1 x.2.2.1 x.2.2.2.1 x.2.2.2.2.1 x.2.2.2.2.2.1 y.1 y.2.1) (fun x y => m_grid_Lay_4 x.1 x.2.1 x.2.2.1 x.2.2.2.1 x.2.2.2.2.1 x.2.2.2.2.2.1 y.1 y.2.1) (fun x y K => o_grid_Lay_4 x.1 x.2.1 x.2.2.1 x.2.2.2.1 x.2.2.2.2.1 x.2.2.2.2.2.1 y.1 y.2.1 K)
def L_grid_Lay_6 : Lift.Loop := Lift.Loop.mk 118 (u 2 ++ (.addr 0 :: (u 7 ++ (.sl 1 :: (u 68 ++ (.v (.ro (.pair (.int .i64) (.pair (.ro (.pair (.int .i64) (.pair (.int .i64) .unit))) .unit))) :: (.v (.int .i64) :: (.v (.int .i64) :: (u 36))))))))) [(0, .box (.pair (.int .i64) (.pair (.ro (.pair (.int .i64) (.pair (.int .i64) (.pair (.int .i64) (.pair (.int .i64) (.pair (.int .i64) .unit)))))) .unit)) []), (1, .row (.own (.pair (.int .i64) (.pair (.int .i64) .unit))) [])] 2 (fun x y => p_grid_Lay_6 x.1 x.2.1 x.2.2.1 y.1 y.2.1) (fun x y => m_grid_Lay_6 x.1 x.2.1 x.2.2.1 y.1 y.2.1) (fun x y K => o_grid_Lay_6 x.1 x.2.1 x.2.2.1 y.1 y.2.1 K)
def L_grid_Lay_8 : Lift.Loop := Lift.Loop.mk 118 (u 2 ++ (.addr 0 :: (u 7 ++ (.sl 1 :: (u 3 ++ (.addr 2 :: (u 64 ++ (.v (.ro (.pair (.int .i64) (.pair (.ro (.pair (.int .i64) (.pair (.int .i64) .unit))) .unit))) :: (.v (.int .i64) :: (.v (.int .i64) :: (u 13 ++ (.sl 3 :: (.v (.int .i64) :: (.v (.int .i64) :: (u 20))))))))))))))) [(0, .box (.pair (.int .i64) (.pair (.ro (.pair (.int .i64) (.pair (.int .i64) (.pair (.int .i64) (.pair (.int .i64) (.pair (.int .i64) .unit)))))) .unit)) []), (1, .row (.own (.pair (.int .i64) (.pair (.int .i64) .unit))) []), (2, .box (.pair (.int .i64) (.pair (.ro (.pair (.int .i64) (.pair (.int .i64) .unit))) .unit)) []), (3, .row (.pair (.int .i64) (.pair (.int .i64) .unit)) [])] 4 (fun x y => p_grid_Lay_8 x.1 x.2.1 x.2.2.1 x.2.2.2.1 x.2.2.2.2.1 y.1 y.2.1 y.2.2.1 y.2.2.2.1) (fun x y => m_grid_Lay_8 x.1 x.2.1 x.2.2.1 x.2.2.2.1 x.2.2.2.2.1 y.1 y.2.1 y.2.2.1 y.2.2.2.1) (fun x y K => o_grid_Lay_8 x.1 x.2.1 x.2.2.1 x.2.2.2.1 x.2.2.2.2.1 y.1 y.2.1 y.2.2.1 y.2.2.2.1 K)
noncomputable def E_grid_Lay : Env := { P := Try.prog, sum := sumsOf [(32, S_grid_Check), (93, S_grid_pilot), (90, S_grid_places)], nio := 0, head := fun b => if b = 8 then ([2, 10, 14, 79, 80, 81, 95, 96, 97], []) else if b = 6 then ([2, 10, 79, 80, 81], []) else if b = 4 then ([1, 2, 10, 11, 43, 44, 58, 59], []) else if b = 2 then ([1, 2, 10, 43, 44], []) else if b = 0 then ([1, 2, 7, 24, 25, 26], []) else ([], []), after := fun _ => none, leave := fun b => if b = 8 then [2, 4, 5, 10, 79, 80, 81] else if b = 6 then [4, 5, 10] else if b = 4 then [1, 2, 4, 5, 10, 43, 44] else if b = 2 then [1, 2, 4, 5, 10] else if b = 0 then [1, 2, 4, 5] else [], loops := fun b => if b = 8 then some L_grid_Lay_8 else if b = 6 then some L_grid_Lay_6 else if b = 4 then some L_grid_Lay_4 else if b = 2 then some L_grid_Lay_2 else if b = 0 then some L_grid_Lay_0 else none }
def W_grid_Lay (a0 : (Int × ((List (Int × (Int × (Int × (Int × (Int × Unit)))))) × Unit))) (a1 : (List (Int × ((List (Int × (Int × Unit))) × Unit)))) : Prop := (
  (True) ∧
  condP (gridErr a0 != (0 : Int))
    ((@List.nil (List (Int × Int × Unit)) = Prod.fst (layG a0 a1)) ∧
    (gridErr a0 = Prod.snd (layG a0 a1)) ∧
    True)
    ((p_grid_Lay_0 a1 a1 (↑(List.length a1) : Int) (0 : Int) a0 (some (@List.nil (Int × Int)))) ∧
    condP (dupB a1)
      ((@List.nil (List (Int × Int × Unit)) = Prod.fst (layG a0 a1)) ∧
      ((1 : Int) = Prod.snd (layG a0 a1)) ∧
      True)
      (((0 : Int) ≤ (14 : Int)) ∧
      ((14 : Int) ≤ (14 : Int)) ∧
      ((↑(24 : Nat) : Int) * (14 : Int) ≤ (281474976710656 : Int)) ∧
      (p_grid_Lay_2 a1 (↑(List.length (List.replicate (14 : Nat) (@List.nil (Int × Int × Unit)))) : Int) (0 : Int) a0 (List.replicate (14 : Nat) (@List.nil (Int × Int × Unit)))) ∧
      (p_grid_Lay_6 a1 (↑(List.length a1) : Int) (0 : Int) a0 (baseF (tones a0) (List.replicate (14 : Nat) (@List.nil (Int × Int × Unit))) (0 : Int) (Int.toNat ((14 : Int) - (0 : Int))))) ∧
      condP (Prod.fst (layF a0 (baseF (tones a0) (List.replicate (14 : Nat) (@List.nil (Int × Int × Unit))) (0 : Int) (Int.toNat ((14 : Int) - (0 : Int)))) (List.drop (0 : Nat) a1)))
        ((Prod.snd (layF a0 (baseF (tones a0) (List.replicate (14 : Nat) (@List.nil (Int × Int × Unit))) (0 : Int) (Int.toNat ((14 : Int) - (0 : Int)))) (List.drop (0 : Nat) a1)) = Prod.fst (layG a0 a1)) ∧
        ((0 : Int) = Prod.snd (layG a0 a1)) ∧
        True)
        ((@List.nil (List (Int × Int × Unit)) = Prod.fst (layG a0 a1)) ∧
        ((3 : Int) = Prod.snd (layG a0 a1)) ∧
        True))))
theorem V_grid_Lay (a0 : (Int × ((List (Int × (Int × (Int × (Int × (Int × Unit)))))) × Unit))) (a1 : (List (Int × ((List (Int × (Int × Unit))) × Unit)))) : awp E_grid_Lay (bodyOf Try.f33) 0 (fin Try.prog S_grid_Lay (a0, a1, ()) [(4, none), (5, none)] 0) (initSt S_grid_Lay.par (a0, a1, ()) 118) = W_grid_Lay a0 a1 := by kernel_rfl
def B_grid_Lay_0 (t1 : (List (Int × ((List (Int × (Int × Unit))) × Unit)))) (t24 : (List (Int × ((List (Int × (Int × Unit))) × Unit)))) (t25 : Int) (t26 : Int) (r0 : (Int × ((List (Int × (Int × (Int × (Int × (Int × Unit)))))) × Unit))) (r1 : (Option (List (Int × Int)))) (m : Nat) (K : AExit → St → Prop) : Prop := (
  condP (decide (t26 < t25))
    (((0 : Int) ≤ t26) ∧
    (t26 < (↑(List.length t24) : Int)) ∧
    (Option.isSome r1 = true) ∧
    condP (decide (Option.getD (getO (putO r1 (Prod.fst (List.getD t24 (Int.toNat t26) ((0 : Int), @List.nil (Int × Int × Unit), ()))) (IntKind.wrap IntKind.i64 (Option.getD (getO r1 (Prod.fst (List.getD t24 (Int.toNat t26) ((0 : Int), @List.nil (Int × Int × Unit), ())))) (0 : Int) + (1 : Int)))) (Prod.fst (List.getD t24 (Int.toNat t26) ((0 : Int), @List.nil (Int × Int × Unit), ())))) (0 : Int) > (1 : Int)))
      (X_grid_Lay_0_0 (t1) ((1 : Int)) (r0) K)
      ((p_grid_Lay_0 t1 t24 t25 (IntKind.wrap IntKind.i64 (t26 + (1 : Int))) r0 (putO r1 (Prod.fst (List.getD t24 (Int.toNat t26) ((0 : Int), @List.nil (Int × Int × Unit), ()))) (IntKind.wrap IntKind.i64 (Option.getD (getO r1 (Prod.fst (List.getD t24 (Int.toNat t26) ((0 : Int), @List.nil (Int × Int × Unit), ())))) (0 : Int) + (1 : Int))))) ∧
      (m_grid_Lay_0 t1 t24 t25 (IntKind.wrap IntKind.i64 (t26 + (1 : Int))) r0 (putO r1 (Prod.fst (List.getD t24 (Int.toNat t26) ((0 : Int), @List.nil (Int × Int × Unit), ()))) (IntKind.wrap IntKind.i64 (Option.getD (getO r1 (Prod.fst (List.getD t24 (Int.toNat t26) ((0 : Int), @List.nil (Int × Int × Unit), ())))) (0 : Int) + (1 : Int)))) < m) ∧
      o_grid_Lay_0 t1 t24 t25 (IntKind.wrap IntKind.i64 (t26 + (1 : Int))) r0 (putO r1 (Prod.fst (List.getD t24 (Int.toNat t26) ((0 : Int), @List.nil (Int × Int × Unit), ()))) (IntKind.wrap IntKind.i64 (Option.getD (getO r1 (Prod.fst (List.getD t24 (Int.toNat t26) ((0 : Int), @List.nil (Int × Int × Unit), ())))) (0 : Int) + (1 : Int)))) K))
    (X_grid_Lay_0_1 (t1) (r0) K))
theorem R_grid_Lay_0 (t1 : (List (Int × ((List (Int × (Int × Unit))) × Unit)))) (t24 : (List (Int × ((List (Int × (Int × Unit))) × Unit)))) (t25 : Int) (t26 : Int) (r0 : (Int × ((List (Int × (Int × (Int × (Int × (Int × Unit)))))) × Unit))) (r1 : (Option (List (Int × Int)))) (m : Nat) (K : AExit → St → Prop) : awp E_grid_Lay (loopAt (bodyOf Try.f33) 0) 0 (roundP E_grid_Lay 0 L_grid_Lay_0 m K) (L_grid_Lay_0.abs (t1, t24, t25, t26, ()) (r0, r1, ())) = B_grid_Lay_0 t1 t24 t25 t26 r0 r1 m K := by kernel_rfl
theorem I_grid_Lay_0 (h : ∀ (t1 : (List (Int × ((List (Int × (Int × Unit))) × Unit)))) (t24 : (List (Int × ((List (Int × (Int × Unit))) × Unit)))) (t25 : Int) (t26 : Int) (r0 : (Int × ((List (Int × (Int × (Int × (Int × (Int × Unit)))))) × Unit))) (r1 : (Option (List (Int × Int)))) (K : AExit → St → Prop), p_grid_Lay_0 t1 t24 t25 t26 r0 r1 → o_grid_Lay_0 t1 t24 t25 t26 r0 r1 K → B_grid_Lay_0 t1 t24 t25 t26 r0 r1 (m_grid_Lay_0 t1 t24 t25 t26 r0 r1) K) : LoopOK E_grid_Lay 0 (loopAt (bodyOf Try.f33) 0) L_grid_Lay_0 :=
  fun x y K hp ho => match x, y, hp, ho with | (t1, t24, t25, t26, ()), (r0, r1, ()), hp, ho => (R_grid_Lay_0 t1 t24 t25 t26 r0 r1 (m_grid_Lay_0 t1 t24 t25 t26 r0 r1) K).mpr (h t1 t24 t25 t26 r0 r1 K hp ho)
def B_grid_Lay_2 (t1 : (List (Int × ((List (Int × (Int × Unit))) × Unit)))) (t43 : Int) (t44 : Int) (r0 : (Int × ((List (Int × (Int × (Int × (Int × (Int × Unit)))))) × Unit))) (r1 : (List (List (Int × (Int × Unit))))) (m : Nat) (K : AExit → St → Prop) : Prop := (
  condP (decide (t44 < t43))
    (((0 : Int) ≤ IntKind.wrap IntKind.i64 ((12 : Int) * Prod.fst r0)) ∧
    (IntKind.wrap IntKind.i64 ((12 : Int) * Prod.fst r0) ≤ IntKind.wrap IntKind.i64 ((12 : Int) * Prod.fst r0)) ∧
    ((↑(16 : Nat) : Int) * IntKind.wrap IntKind.i64 ((12 : Int) * Prod.fst r0) ≤ (281474976710656 : Int)) ∧
    ((0 : Int) ≤ t44) ∧
    (t44 < (↑(List.length r1) : Int)) ∧
    ((0 : Int) ≤ t44) ∧
    (t44 < (↑(List.length (List.set r1 (Int.toNat t44) (@List.nil (Int × Int × Unit)))) : Int)) ∧
    ((0 : Int) ≤ t44) ∧
    (t44 < (↑(List.length (List.set (List.set r1 (Int.toNat t44) (@List.nil (Int × Int × Unit))) (Int.toNat t44) (List.replicate (Int.toNat (IntKind.wrap IntKind.i64 ((12 : Int) * Prod.fst r0))) ((0 : Int), (0 : Int), ())))) : Int)) ∧
    (t44 = t44) ∧
    (p_grid_Lay_4 t1 t44 t43 t44 (↑(List.length (List.getD (List.set (List.set r1 (Int.toNat t44) (@List.nil (Int × Int × Unit))) (Int.toNat t44) (List.replicate (Int.toNat (IntKind.wrap IntKind.i64 ((12 : Int) * Prod.fst r0))) ((0 : Int), (0 : Int), ()))) (Int.toNat t44) (@List.nil (Int × Int × Unit)))) : Int) (0 : Int) r0 (List.set (List.set (List.set r1 (Int.toNat t44) (@List.nil (Int × Int × Unit))) (Int.toNat t44) (List.replicate (Int.toNat (IntKind.wrap IntKind.i64 ((12 : Int) * Prod.fst r0))) ((0 : Int), (0 : Int), ()))) (Int.toNat t44) (List.getD (List.set (List.set r1 (Int.toNat t44) (@List.nil (Int × Int × Unit))) (Int.toNat t44) (List.replicate (Int.toNat (IntKind.wrap IntKind.i64 ((12 : Int) * Prod.fst r0))) ((0 : Int), (0 : Int), ()))) (Int.toNat t44) (@List.nil (Int × Int × Unit))))) ∧
    (p_grid_Lay_2 t1 t43 (IntKind.wrap IntKind.i64 (t44 + (1 : Int))) r0 (fillRow t44 (List.set (List.set (List.set r1 (Int.toNat t44) (@List.nil (Int × Int × Unit))) (Int.toNat t44) (List.replicate (Int.toNat (IntKind.wrap IntKind.i64 ((12 : Int) * Prod.fst r0))) ((0 : Int), (0 : Int), ()))) (Int.toNat t44) (List.getD (List.set (List.set r1 (Int.toNat t44) (@List.nil (Int × Int × Unit))) (Int.toNat t44) (List.replicate (Int.toNat (IntKind.wrap IntKind.i64 ((12 : Int) * Prod.fst r0))) ((0 : Int), (0 : Int), ()))) (Int.toNat t44) (@List.nil (Int × Int × Unit)))) (0 : Int) (Int.toNat ((↑(List.length (List.getD (List.set (List.set r1 (Int.toNat t44) (@List.nil (Int × Int × Unit))) (Int.toNat t44) (List.replicate (Int.toNat (IntKind.wrap IntKind.i64 ((12 : Int) * Prod.fst r0))) ((0 : Int), (0 : Int), ()))) (Int.toNat t44) (@List.nil (Int × Int × Unit)))) : Int) - (0 : Int))))) ∧
    (m_grid_Lay_2 t1 t43 (IntKind.wrap IntKind.i64 (t44 + (1 : Int))) r0 (fillRow t44 (List.set (List.set (List.set r1 (Int.toNat t44) (@List.nil (Int × Int × Unit))) (Int.toNat t44) (List.replicate (Int.toNat (IntKind.wrap IntKind.i64 ((12 : Int) * Prod.fst r0))) ((0 : Int), (0 : Int), ()))) (Int.toNat t44) (List.getD (List.set (List.set r1 (Int.toNat t44) (@List.nil (Int × Int × Unit))) (Int.toNat t44) (List.replicate (Int.toNat (IntKind.wrap IntKind.i64 ((12 : Int) * Prod.fst r0))) ((0 : Int), (0 : Int), ()))) (Int.toNat t44) (@List.nil (Int × Int × Unit)))) (0 : Int) (Int.toNat ((↑(List.length (List.getD (List.set (List.set r1 (Int.toNat t44) (@List.nil (Int × Int × Unit))) (Int.toNat t44) (List.replicate (Int.toNat (IntKind.wrap IntKind.i64 ((12 : Int) * Prod.fst r0))) ((0 : Int), (0 : Int), ()))) (Int.toNat t44) (@List.nil (Int × Int × Unit)))) : Int) - (0 : Int)))) < m) ∧
    o_grid_Lay_2 t1 t43 (IntKind.wrap IntKind.i64 (t44 + (1 : Int))) r0 (fillRow t44 (List.set (List.set (List.set r1 (Int.toNat t44) (@List.nil (Int × Int × Unit))) (Int.toNat t44) (List.replicate (Int.toNat (IntKind.wrap IntKind.i64 ((12 : Int) * Prod.fst r0))) ((0 : Int), (0 : Int), ()))) (Int.toNat t44) (List.getD (List.set (List.set r1 (Int.toNat t44) (@List.nil (Int × Int × Unit))) (Int.toNat t44) (List.replicate (Int.toNat (IntKind.wrap IntKind.i64 ((12 : Int) * Prod.fst r0))) ((0 : Int), (0 : Int), ()))) (Int.toNat t44) (@List.nil (Int × Int × Unit)))) (0 : Int) (Int.toNat ((↑(List.length (List.getD (List.set (List.set r1 (Int.toNat t44) (@List.nil (Int × Int × Unit))) (Int.toNat t44) (List.replicate (Int.toNat (IntKind.wrap IntKind.i64 ((12 : Int) * Prod.fst r0))) ((0 : Int), (0 : Int), ()))) (Int.toNat t44) (@List.nil (Int × Int × Unit)))) : Int) - (0 : Int)))) K)
    (X_grid_Lay_2_0 (t1) (r0) (r1) K))
theorem R_grid_Lay_2 (t1 : (List (Int × ((List (Int × (Int × Unit))) × Unit)))) (t43 : Int) (t44 : Int) (r0 : (Int × ((List (Int × (Int × (Int × (Int × (Int × Unit)))))) × Unit))) (r1 : (List (List (Int × (Int × Unit))))) (m : Nat) (K : AExit → St → Prop) : awp E_grid_Lay (loopAt (bodyOf Try.f33) 2) 2 (roundP E_grid_Lay 2 L_grid_Lay_2 m K) (L_grid_Lay_2.abs (t1, t43, t44, ()) (r0, r1, ())) = B_grid_Lay_2 t1 t43 t44 r0 r1 m K := by kernel_rfl
theorem I_grid_Lay_2 (h : ∀ (t1 : (List (Int × ((List (Int × (Int × Unit))) × Unit)))) (t43 : Int) (t44 : Int) (r0 : (Int × ((List (Int × (Int × (Int × (Int × (Int × Unit)))))) × Unit))) (r1 : (List (List (Int × (Int × Unit))))) (K : AExit → St → Prop), p_grid_Lay_2 t1 t43 t44 r0 r1 → o_grid_Lay_2 t1 t43 t44 r0 r1 K → B_grid_Lay_2 t1 t43 t44 r0 r1 (m_grid_Lay_2 t1 t43 t44 r0 r1) K) : LoopOK E_grid_Lay 2 (loopAt (bodyOf Try.f33) 2) L_grid_Lay_2 :=
  fun x y K hp ho => match x, y, hp, ho with | (t1, t43, t44, ()), (r0, r1, ()), hp, ho => (R_grid_Lay_2 t1 t43 t44 r0 r1 (m_grid_Lay_2 t1 t43 t44 r0 r1) K).mpr (h t1 t43 t44 r0 r1 K hp ho)
def B_grid_Lay_4 (t1 : (List (Int × ((List (Int × (Int × Unit))) × Unit)))) (t11 : Int) (t43 : Int) (t44 : Int) (t58 : Int) (t59 : Int) (r0 : (Int × ((List (Int × (Int × (Int × (Int × (Int × Unit)))))) × Unit))) (r1 : (List (List (Int × (Int × Unit))))) (m : Nat) (K : AExit → St → Prop) : Prop := (
  condP (decide (t59 < t58))
    ((True) ∧
    condP (pilotB t59 t11)
      (((0 : Int) ≤ t11) ∧
      (t11 < (↑(List.length r1) : Int)) ∧
      ((0 : Int) ≤ t11) ∧
      (t11 < (↑(List.length r1) : Int)) ∧
      (t11 = t11) ∧
      ((0 : Int) ≤ t59) ∧
      (t59 < (↑(List.length (List.getD r1 (Int.toNat t11) (@List.nil (Int × Int × Unit)))) : Int)) ∧
      (p_grid_Lay_4 t1 t11 t43 t44 t58 (IntKind.wrap IntKind.i64 (t59 + (1 : Int))) r0 (List.set r1 (Int.toNat t11) (List.set (List.getD r1 (Int.toNat t11) (@List.nil (Int × Int × Unit))) (Int.toNat t59) ((1 : Int), IntKind.wrap IntKind.i64 ((1 : Int) - IntKind.wrap IntKind.i64 ((2 : Int) * bits BinOp.and IntKind.i64 t11 (1 : Int))), ())))) ∧
      (m_grid_Lay_4 t1 t11 t43 t44 t58 (IntKind.wrap IntKind.i64 (t59 + (1 : Int))) r0 (List.set r1 (Int.toNat t11) (List.set (List.getD r1 (Int.toNat t11) (@List.nil (Int × Int × Unit))) (Int.toNat t59) ((1 : Int), IntKind.wrap IntKind.i64 ((1 : Int) - IntKind.wrap IntKind.i64 ((2 : Int) * bits BinOp.and IntKind.i64 t11 (1 : Int))), ()))) < m) ∧
      o_grid_Lay_4 t1 t11 t43 t44 t58 (IntKind.wrap IntKind.i64 (t59 + (1 : Int))) r0 (List.set r1 (Int.toNat t11) (List.set (List.getD r1 (Int.toNat t11) (@List.nil (Int × Int × Unit))) (Int.toNat t59) ((1 : Int), IntKind.wrap IntKind.i64 ((1 : Int) - IntKind.wrap IntKind.i64 ((2 : Int) * bits BinOp.and IntKind.i64 t11 (1 : Int))), ()))) K)
      ((p_grid_Lay_4 t1 t11 t43 t44 t58 (IntKind.wrap IntKind.i64 (t59 + (1 : Int))) r0 r1) ∧
      (m_grid_Lay_4 t1 t11 t43 t44 t58 (IntKind.wrap IntKind.i64 (t59 + (1 : Int))) r0 r1 < m) ∧
      o_grid_Lay_4 t1 t11 t43 t44 t58 (IntKind.wrap IntKind.i64 (t59 + (1 : Int))) r0 r1 K))
    (X_grid_Lay_4_0 (t1) (t43) (t44) (r0) (r1) K))
theorem R_grid_Lay_4 (t1 : (List (Int × ((List (Int × (Int × Unit))) × Unit)))) (t11 : Int) (t43 : Int) (t44 : Int) (t58 : Int) (t59 : Int) (r0 : (Int × ((List (Int × (Int × (Int × (Int × (Int × Unit)))))) × Unit))) (r1 : (List (List (Int × (Int × Unit))))) (m : Nat) (K : AExit → St → Prop) : awp E_grid_Lay (loopAt (bodyOf Try.f33) 4) 4 (roundP E_grid_Lay 4 L_grid_Lay_4 m K) (L_grid_Lay_4.abs (t1, t11, t43, t44, t58, t59, ()) (r0, r1, ())) = B_grid_Lay_4 t1 t11 t43 t44 t58 t59 r0 r1 m K := by kernel_rfl
theorem I_grid_Lay_4 (h : ∀ (t1 : (List (Int × ((List (Int × (Int × Unit))) × Unit)))) (t11 : Int) (t43 : Int) (t44 : Int) (t58 : Int) (t59 : Int) (r0 : (Int × ((List (Int × (Int × (Int × (Int × (Int × Unit)))))) × Unit))) (r1 : (List (List (Int × (Int × Unit))))) (K : AExit → St → Prop), p_grid_Lay_4 t1 t11 t43 t44 t58 t59 r0 r1 → o_grid_Lay_4 t1 t11 t43 t44 t58 t59 r0 r1 K → B_grid_Lay_4 t1 t11 t43 t44 t58 t59 r0 r1 (m_grid_Lay_4 t1 t11 t43 t44 t58 t59 r0 r1) K) : LoopOK E_grid_Lay 4 (loopAt (bodyOf Try.f33) 4) L_grid_Lay_4 :=
  fun x y K hp ho => match x, y, hp, ho with | (t1, t11, t43, t44, t58, t59, ()), (r0, r1, ()), hp, ho => (R_grid_Lay_4 t1 t11 t43 t44 t58 t59 r0 r1 (m_grid_Lay_4 t1 t11 t43 t44 t58 t59 r0 r1) K).mpr (h t1 t11 t43 t44 t58 t59 r0 r1 K hp ho)
def B_grid_Lay_6 (t79 : (List (Int × ((List (Int × (Int × Unit))) × Unit)))) (t80 : Int) (t81 : Int) (r0 : (Int × ((List (Int × (Int × (Int × (Int × (Int × Unit)))))) × Unit))) (r1 : (List (List (Int × (Int × Unit))))) (m : Nat) (K : AExit → St → Prop) : Prop := (
  condP (decide (t81 < t80))
    (((0 : Int) ≤ t81) ∧
    (t81 < (↑(List.length t79) : Int)) ∧
    (gok r0) ∧
    condP ((↑(List.length (placesI r0 (Prod.fst (List.getD t79 (Int.toNat t81) ((0 : Int), @List.nil (Int × Int × Unit), ()))))) : Int) != (↑(List.length (Prod.fst (Prod.snd (List.getD t79 (Int.toNat t81) ((0 : Int), @List.nil (Int × Int × Unit), ()))))) : Int))
      (X_grid_Lay_6_0 ((3 : Int)) (r1) K)
      ((p_grid_Lay_8 t79 t80 t81 (↑(List.length (placesI r0 (Prod.fst (List.getD t79 (Int.toNat t81) ((0 : Int), @List.nil (Int × Int × Unit), ()))))) : Int) (0 : Int) r0 r1 (List.getD t79 (Int.toNat t81) ((0 : Int), @List.nil (Int × Int × Unit), ())) (placesI r0 (Prod.fst (List.getD t79 (Int.toNat t81) ((0 : Int), @List.nil (Int × Int × Unit), ()))))) ∧
      (p_grid_Lay_6 t79 t80 (IntKind.wrap IntKind.i64 (t81 + (1 : Int))) r0 (putAll r1 (List.drop (0 : Nat) (List.zip (placesI r0 (Prod.fst (List.getD t79 (Int.toNat t81) ((0 : Int), @List.nil (Int × Int × Unit), ())))) (Prod.fst (Prod.snd (List.getD t79 (Int.toNat t81) ((0 : Int), @List.nil (Int × Int × Unit), ())))))))) ∧
      (m_grid_Lay_6 t79 t80 (IntKind.wrap IntKind.i64 (t81 + (1 : Int))) r0 (putAll r1 (List.drop (0 : Nat) (List.zip (placesI r0 (Prod.fst (List.getD t79 (Int.toNat t81) ((0 : Int), @List.nil (Int × Int × Unit), ())))) (Prod.fst (Prod.snd (List.getD t79 (Int.toNat t81) ((0 : Int), @List.nil (Int × Int × Unit), ()))))))) < m) ∧
      o_grid_Lay_6 t79 t80 (IntKind.wrap IntKind.i64 (t81 + (1 : Int))) r0 (putAll r1 (List.drop (0 : Nat) (List.zip (placesI r0 (Prod.fst (List.getD t79 (Int.toNat t81) ((0 : Int), @List.nil (Int × Int × Unit), ())))) (Prod.fst (Prod.snd (List.getD t79 (Int.toNat t81) ((0 : Int), @List.nil (Int × Int × Unit), ()))))))) K))
    (X_grid_Lay_6_1 (r1) K))
theorem R_grid_Lay_6 (t79 : (List (Int × ((List (Int × (Int × Unit))) × Unit)))) (t80 : Int) (t81 : Int) (r0 : (Int × ((List (Int × (Int × (Int × (Int × (Int × Unit)))))) × Unit))) (r1 : (List (List (Int × (Int × Unit))))) (m : Nat) (K : AExit → St → Prop) : awp E_grid_Lay (loopAt (bodyOf Try.f33) 6) 6 (roundP E_grid_Lay 6 L_grid_Lay_6 m K) (L_grid_Lay_6.abs (t79, t80, t81, ()) (r0, r1, ())) = B_grid_Lay_6 t79 t80 t81 r0 r1 m K := by kernel_rfl
theorem I_grid_Lay_6 (h : ∀ (t79 : (List (Int × ((List (Int × (Int × Unit))) × Unit)))) (t80 : Int) (t81 : Int) (r0 : (Int × ((List (Int × (Int × (Int × (Int × (Int × Unit)))))) × Unit))) (r1 : (List (List (Int × (Int × Unit))))) (K : AExit → St → Prop), p_grid_Lay_6 t79 t80 t81 r0 r1 → o_grid_Lay_6 t79 t80 t81 r0 r1 K → B_grid_Lay_6 t79 t80 t81 r0 r1 (m_grid_Lay_6 t79 t80 t81 r0 r1) K) : LoopOK E_grid_Lay 6 (loopAt (bodyOf Try.f33) 6) L_grid_Lay_6 :=
  fun x y K hp ho => match x, y, hp, ho with | (t79, t80, t81, ()), (r0, r1, ()), hp, ho => (R_grid_Lay_6 t79 t80 t81 r0 r1 (m_grid_Lay_6 t79 t80 t81 r0 r1) K).mpr (h t79 t80 t81 r0 r1 K hp ho)
def B_grid_Lay_8 (t79 : (List (Int × ((List (Int × (Int × Unit))) × Unit)))) (t80 : Int) (t81 : Int) (t96 : Int) (t97 : Int) (r0 : (Int × ((List (Int × (Int × (Int × (Int × (Int × Unit)))))) × Unit))) (r1 : (List (List (Int × (Int × Unit))))) (r2 : (Int × ((List (Int × (Int × Unit))) × Unit))) (r3 : (List (Int × (Int × Unit)))) (m : Nat) (K : AExit → St → Prop) : Prop := (
  condP (decide (t97 < t96))
    (((0 : Int) ≤ t97) ∧
    (t97 < (↑(List.length r3) : Int)) ∧
    ((0 : Int) ≤ Prod.fst (Prod.snd (List.getD r3 (Int.toNat t97) ((0 : Int), (0 : Int), ())))) ∧
    (Prod.fst (Prod.snd (List.getD r3 (Int.toNat t97) ((0 : Int), (0 : Int), ()))) < (↑(List.length r1) : Int)) ∧
    ((0 : Int) ≤ Prod.fst (Prod.snd (List.getD r3 (Int.toNat t97) ((0 : Int), (0 : Int), ())))) ∧
    (Prod.fst (Prod.snd (List.getD r3 (Int.toNat t97) ((0 : Int), (0 : Int), ()))) < (↑(List.length r1) : Int)) ∧
    (Prod.fst (Prod.snd (List.getD r3 (Int.toNat t97) ((0 : Int), (0 : Int), ()))) = Prod.fst (Prod.snd (List.getD r3 (Int.toNat t97) ((0 : Int), (0 : Int), ())))) ∧
    ((0 : Int) ≤ t97) ∧
    (t97 < (↑(List.length (Prod.fst (Prod.snd r2))) : Int)) ∧
    ((0 : Int) ≤ Prod.fst (List.getD r3 (Int.toNat t97) ((0 : Int), (0 : Int), ()))) ∧
    (Prod.fst (List.getD r3 (Int.toNat t97) ((0 : Int), (0 : Int), ())) < (↑(List.length (List.getD r1 (Int.toNat (Prod.fst (Prod.snd (List.getD r3 (Int.toNat t97) ((0 : Int), (0 : Int), ()))))) (@List.nil (Int × Int × Unit)))) : Int)) ∧
    (p_grid_Lay_8 t79 t80 t81 t96 (IntKind.wrap IntKind.i64 (t97 + (1 : Int))) r0 (List.set r1 (Int.toNat (Prod.fst (Prod.snd (List.getD r3 (Int.toNat t97) ((0 : Int), (0 : Int), ()))))) (List.set (List.getD r1 (Int.toNat (Prod.fst (Prod.snd (List.getD r3 (Int.toNat t97) ((0 : Int), (0 : Int), ()))))) (@List.nil (Int × Int × Unit))) (Int.toNat (Prod.fst (List.getD r3 (Int.toNat t97) ((0 : Int), (0 : Int), ())))) (List.getD (Prod.fst (Prod.snd r2)) (Int.toNat t97) ((0 : Int), (0 : Int), ())))) r2 r3) ∧
    (m_grid_Lay_8 t79 t80 t81 t96 (IntKind.wrap IntKind.i64 (t97 + (1 : Int))) r0 (List.set r1 (Int.toNat (Prod.fst (Prod.snd (List.getD r3 (Int.toNat t97) ((0 : Int), (0 : Int), ()))))) (List.set (List.getD r1 (Int.toNat (Prod.fst (Prod.snd (List.getD r3 (Int.toNat t97) ((0 : Int), (0 : Int), ()))))) (@List.nil (Int × Int × Unit))) (Int.toNat (Prod.fst (List.getD r3 (Int.toNat t97) ((0 : Int), (0 : Int), ())))) (List.getD (Prod.fst (Prod.snd r2)) (Int.toNat t97) ((0 : Int), (0 : Int), ())))) r2 r3 < m) ∧
    o_grid_Lay_8 t79 t80 t81 t96 (IntKind.wrap IntKind.i64 (t97 + (1 : Int))) r0 (List.set r1 (Int.toNat (Prod.fst (Prod.snd (List.getD r3 (Int.toNat t97) ((0 : Int), (0 : Int), ()))))) (List.set (List.getD r1 (Int.toNat (Prod.fst (Prod.snd (List.getD r3 (Int.toNat t97) ((0 : Int), (0 : Int), ()))))) (@List.nil (Int × Int × Unit))) (Int.toNat (Prod.fst (List.getD r3 (Int.toNat t97) ((0 : Int), (0 : Int), ())))) (List.getD (Prod.fst (Prod.snd r2)) (Int.toNat t97) ((0 : Int), (0 : Int), ())))) r2 r3 K)
    (X_grid_Lay_8_0 (t79) (t80) (t81) (r0) (r1) K))
theorem R_grid_Lay_8 (t79 : (List (Int × ((List (Int × (Int × Unit))) × Unit)))) (t80 : Int) (t81 : Int) (t96 : Int) (t97 : Int) (r0 : (Int × ((List (Int × (Int × (Int × (Int × (Int × Unit)))))) × Unit))) (r1 : (List (List (Int × (Int × Unit))))) (r2 : (Int × ((List (Int × (Int × Unit))) × Unit))) (r3 : (List (Int × (Int × Unit)))) (m : Nat) (K : AExit → St → Prop) : awp E_grid_Lay (loopAt (bodyOf Try.f33) 8) 8 (roundP E_grid_Lay 8 L_grid_Lay_8 m K) (L_grid_Lay_8.abs (t79, t80, t81, t96, t97, ()) (r0, r1, r2, r3, ())) = B_grid_Lay_8 t79 t80 t81 t96 t97 r0 r1 r2 r3 m K := by kernel_rfl
theorem I_grid_Lay_8 (h : ∀ (t79 : (List (Int × ((List (Int × (Int × Unit))) × Unit)))) (t80 : Int) (t81 : Int) (t96 : Int) (t97 : Int) (r0 : (Int × ((List (Int × (Int × (Int × (Int × (Int × Unit)))))) × Unit))) (r1 : (List (List (Int × (Int × Unit))))) (r2 : (Int × ((List (Int × (Int × Unit))) × Unit))) (r3 : (List (Int × (Int × Unit)))) (K : AExit → St → Prop), p_grid_Lay_8 t79 t80 t81 t96 t97 r0 r1 r2 r3 → o_grid_Lay_8 t79 t80 t81 t96 t97 r0 r1 r2 r3 K → B_grid_Lay_8 t79 t80 t81 t96 t97 r0 r1 r2 r3 (m_grid_Lay_8 t79 t80 t81 t96 t97 r0 r1 r2 r3) K) : LoopOK E_grid_Lay 8 (loopAt (bodyOf Try.f33) 8) L_grid_Lay_8 :=
  fun x y K hp ho => match x, y, hp, ho with | (t79, t80, t81, t96, t97, ()), (r0, r1, r2, r3, ()), hp, ho => (R_grid_Lay_8 t79 t80 t81 t96 t97 r0 r1 r2 r3 (m_grid_Lay_8 t79 t80 t81 t96 t97 r0 r1 r2 r3) K).mpr (h t79 t80 t81 t96 t97 r0 r1 r2 r3 K hp ho)
theorem G_grid_Lay : loopsAll E_grid_Lay (loopList (bodyOf Try.f33) 0) = (LoopOK E_grid_Lay 0 (loopAt (bodyOf Try.f33) 0) L_grid_Lay_0 ∧ LoopOK E_grid_Lay 2 (loopAt (bodyOf Try.f33) 2) L_grid_Lay_2 ∧ LoopOK E_grid_Lay 4 (loopAt (bodyOf Try.f33) 4) L_grid_Lay_4 ∧ LoopOK E_grid_Lay 6 (loopAt (bodyOf Try.f33) 6) L_grid_Lay_6 ∧ LoopOK E_grid_Lay 8 (loopAt (bodyOf Try.f33) 8) L_grid_Lay_8 ∧ True) := by kernel_rfl
theorem envok_grid_Lay (h_grid_Check : SumOK Try.prog 32 S_grid_Check) (h_grid_pilot : SumOK Try.prog 93 S_grid_pilot) (h_grid_places : SumOK Try.prog 90 S_grid_places) : EnvOK E_grid_Lay := ⟨sumsOf_ok (List.forall_mem_cons.2 ⟨h_grid_Check, (List.forall_mem_cons.2 ⟨h_grid_pilot, (List.forall_mem_cons.2 ⟨h_grid_places, (fun _ h => nomatch h)⟩)⟩)⟩), follows⟩
theorem whole_grid_Lay (h_grid_Check : SumOK Try.prog 32 S_grid_Check) (h_grid_pilot : SumOK Try.prog 93 S_grid_pilot) (h_grid_places : SumOK Try.prog 90 S_grid_places) (l0 : LoopOK E_grid_Lay 0 (loopAt (bodyOf Try.f33) 0) L_grid_Lay_0) (l2 : LoopOK E_grid_Lay 2 (loopAt (bodyOf Try.f33) 2) L_grid_Lay_2) (l4 : LoopOK E_grid_Lay 4 (loopAt (bodyOf Try.f33) 4) L_grid_Lay_4) (l6 : LoopOK E_grid_Lay 6 (loopAt (bodyOf Try.f33) 6) L_grid_Lay_6) (l8 : LoopOK E_grid_Lay 8 (loopAt (bodyOf Try.f33) 8) L_grid_Lay_8) (main : ∀ (a0 : (Int × ((List (Int × (Int × (Int × (Int × (Int × Unit)))))) × Unit))) (a1 : (List (Int × ((List (Int × (Int × Unit))) × Unit)))), ((↑(List.length a1) : Int) ≤ big) → W_grid_Lay a0 a1) : SumOK Try.prog 33 S_grid_Lay :=
  fun_sound (E := E_grid_Lay) (envok_grid_Lay h_grid_Check h_grid_pilot h_grid_places) (fn := Try.f33) (c := bodyOf Try.f33) (ts := [(4, none), (5, none)]) S_grid_Lay Try.func33 (body_some (by kernel_rfl)) (by kernel_rfl) (Nat.le_of_ble_eq_true (by kernel_rfl)) (by kernel_rfl) (by kernel_rfl) (G_grid_Lay.mpr ⟨l0, l2, l4, l6, l8, trivial⟩) (fun x hp => match x, hp with | (a0, a1, ()), hp => (V_grid_Lay a0 a1).mpr (main a0 a1 hp))
/-! ### grid_Check -/
def L_grid_Check_0 : Lift.Loop := Lift.Loop.mk 80 (u 1 ++ (.addr 0 :: (u 25 ++ (.v (.ro (.pair (.int .i64) (.pair (.int .i64) (.pair (.int .i64) (.pair (.int .i64) (.pair (.int .i64) .unit)))))) :: (.v (.int .i64) :: (.v (.int .i64) :: (u 50))))))) [(0, .box (.pair (.int .i64) (.pair (.ro (.pair (.int .i64) (.pair (.int .i64) (.pair (.int .i64) (.pair (.int .i64) (.pair (.int .i64) .unit)))))) .unit)) [])] 1 (fun x y => p_grid_Check_0 x.1 x.2.1 x.2.2.1 y.1) (fun x y => m_grid_Check_0 x.1 x.2.1 x.2.2.1 y.1) (fun x y K => o_grid_Check_0 x.1 x.2.1 x.2.2.1 y.1 K)
def L_grid_Check_2 : Lift.Loop := Lift.Loop.mk 80 (u 5 ++ (.addr 0 :: (u 34 ++ (.v (.ro (.pair (.int .i64) (.pair (.int .i64) (.pair (.int .i64) (.pair (.int .i64) (.pair (.int .i64) .unit)))))) :: (.v (.int .i64) :: (.v (.int .i64) :: (u 37))))))) [(0, .box (.arr 12 (.arr 14 (.int .i64))) [])] 1 (fun x y => p_grid_Check_2 x.1 x.2.1 x.2.2.1 y.1) (fun x y => m_grid_Check_2 x.1 x.2.1 x.2.2.1 y.1) (fun x y K => o_grid_Check_2 x.1 x.2.1 x.2.2.1 y.1 K)
def L_grid_Check_4 : Lift.Loop := Lift.Loop.mk 80 (u 5 ++ (.addr 0 :: (u 1 ++ (.addr 1 :: (u 32 ++ (.v (.ro (.pair (.int .i64) (.pair (.int .i64) (.pair (.int .i64) (.pair (.int .i64) (.pair (.int .i64) .unit)))))) :: (.v (.int .i64) :: (.v (.int .i64) :: (u 4 ++ (.v (.int .i64) :: (.v (.int .i64) :: (u 31)))))))))))) [(0, .box (.arr 12 (.arr 14 (.int .i64))) []), (1, .box (.pair (.int .i64) (.pair (.int .i64) (.pair (.int .i64) (.pair (.int .i64) (.pair (.int .i64) .unit))))) [])] 2 (fun x y => p_grid_Check_4 x.1 x.2.1 x.2.2.1 x.2.2.2.1 x.2.2.2.2.1 y.1 y.2.1) (fun x y => m_grid_Check_4 x.1 x.2.1 x.2.2.1 x.2.2.2.1 x.2.2.2.2.1 y.1 y.2.1) (fun x y K => o_grid_Check_4 x.1 x.2.1 x.2.2.1 x.2.2.2.1 x.2.2.2.2.1 y.1 y.2.1 K)
def L_grid_Check_6 : Lift.Loop := Lift.Loop.mk 80 (u 5 ++ (.addr 0 :: (u 1 ++ (.addr 1 :: (.v (.int .i64) :: (.v (.int .i64) :: (u 30 ++ (.v (.ro (.pair (.int .i64) (.pair (.int .i64) (.pair (.int .i64) (.pair (.int .i64) (.pair (.int .i64) .unit)))))) :: (.v (.int .i64) :: (.v (.int .i64) :: (u 4 ++ (.v (.int .i64) :: (.v (.int .i64) :: (u 31)))))))))))))) [(0, .box (.arr 12 (.arr 14 (.int .i64))) []), (1, .box (.pair (.int .i64) (.pair (.int .i64) (.pair (.int .i64) (.pair (.int .i64) (.pair (.int .i64) .unit))))) [])] 2 (fun x y => p_grid_Check_6 x.1 x.2.1 x.2.2.1 x.2.2.2.1 x.2.2.2.2.1 x.2.2.2.2.2.1 x.2.2.2.2.2.2.1 y.1 y.2.1) (fun x y => m_grid_Check_6 x.1 x.2.1 x.2.2.1 x.2.2.2.1 x.2.2.2.2.1 x.2.2.2.2.2.1 x.2.2.2.2.2.2.1 y.1 y.2.1) (fun x y K => o_grid_Check_6 x.1 x.2.1 x.2.2.1 x.2.2.2.1 x.2.2.2.2.1 x.2.2.2.2.2.1 x.2.2.2.2.2.2.1 y.1 y.2.1 K)
def L_grid_Check_8 : Lift.Loop := Lift.Loop.mk 80 (u 72 ++ (.v (.arr 12 (.arr 14 (.int .i64))) :: (.v (.int .i64) :: (u 6)))) [] 0 (fun x y => p_grid_Check_8 x.1 x.2.1) (fun x y => m_grid_Check_8 x.1 x.2.1) (fun x y K => o_grid_Check_8 x.1 x.2.1 K)
noncomputable def E_grid_Check : Env := { P := Try.prog, sum := sumsOf [(91, S_grid_formed), (92, S_slices_Max_int_int)], nio := 0, head := fun b => if b = 8 then ([72, 73], []) else if b = 6 then ([5, 7, 8, 9, 40, 41, 42, 47, 48], []) else if b = 4 then ([5, 7, 40, 41, 42, 47, 48], []) else if b = 2 then ([5, 40, 41, 42], []) else if b = 0 then ([1, 27, 28, 29], []) else ([], []), after := fun _ => none, leave := fun b => if b = 8 then [2] else if b = 6 then [2, 5, 7, 40, 41, 42, 47, 48] else if b = 4 then [2, 5, 40, 41, 42] else if b = 2 then [2, 5] else if b = 0 then [1, 2] else [], loops := fun b => if b = 8 then some L_grid_Check_8 else if b = 6 then some L_grid_Check_6 else if b = 4 then some L_grid_Check_4 else if b = 2 then some L_grid_Check_2 else if b = 0 then some L_grid_Check_0 else none }
def W_grid_Check (a0 : (Int × ((List (Int × (Int × (Int × (Int × (Int × Unit)))))) × Unit))) : Prop := (
  condP (if (if decide (Prod.fst a0 < (1 : Int)) = true then true else decide (Prod.fst a0 > (12 : Int))) = true then true else decide ((↑(List.length (Prod.fst (Prod.snd a0))) : Int) > (100 : Int)))
    (((1 : Int) = gridErr a0) ∧
    True)
    ((p_grid_Check_0 (Prod.fst (Prod.snd a0)) (↑(List.length (Prod.fst (Prod.snd a0))) : Int) (0 : Int) a0) ∧
    condP (List.all (List.drop (0 : Nat) (Prod.fst (Prod.snd a0))) fun (s : Int × Int × Int × Int × Int × Unit) => formedB s (Prod.fst a0))
      ((p_grid_Check_2 (Prod.fst (Prod.snd a0)) (↑(List.length (Prod.fst (Prod.snd a0))) : Int) (0 : Int) (List.replicate (12 : Nat) (List.replicate (14 : Nat) (0 : Int)))) ∧
      (p_grid_Check_8 (incAll (List.drop (0 : Nat) (Prod.fst (Prod.snd a0))) (List.replicate (12 : Nat) (List.replicate (14 : Nat) (0 : Int)))) (0 : Int)) ∧
      condP (over1 (incAll (List.drop (0 : Nat) (Prod.fst (Prod.snd a0))) (List.replicate (12 : Nat) (List.replicate (14 : Nat) (0 : Int)))) (0 : Int) (Int.toNat ((12 : Int) - (0 : Int))))
        (((5 : Int) = gridErr a0) ∧
        True)
        (((0 : Int) = gridErr a0) ∧
        True))
      (((1 : Int) = gridErr a0) ∧
      True)))
theorem V_grid_Check (a0 : (Int × ((List (Int × (Int × (Int × (Int × (Int × Unit)))))) × Unit))) : awp E_grid_Check (bodyOf Try.f32) 0 (fin Try.prog S_grid_Check (a0, ()) [(2, none)] 0) (initSt S_grid_Check.par (a0, ()) 80) = W_grid_Check a0 := by kernel_rfl
def B_grid_Check_0 (t27 : (List (Int × (Int × (Int × (Int × (Int × Unit))))))) (t28 : Int) (t29 : Int) (r0 : (Int × ((List (Int × (Int × (Int × (Int × (Int × Unit)))))) × Unit))) (m : Nat) (K : AExit → St → Prop) : Prop := (
  condP (decide (t29 < t28))
    (((0 : Int) ≤ t29) ∧
    (t29 < (↑(List.length t27) : Int)) ∧
    ((1 : Int) ≤ Prod.fst r0 ∧ Prod.fst r0 ≤ (12 : Int)) ∧
    condP (!formedB (List.getD t27 (Int.toNat t29) ((0 : Int), (0 : Int), (0 : Int), (0 : Int), (0 : Int), ())) (Prod.fst r0))
      (X_grid_Check_0_0 ((1 : Int)) (r0) K)
      ((p_grid_Check_0 t27 t28 (IntKind.wrap IntKind.i64 (t29 + (1 : Int))) r0) ∧
      (m_grid_Check_0 t27 t28 (IntKind.wrap IntKind.i64 (t29 + (1 : Int))) r0 < m) ∧
      o_grid_Check_0 t27 t28 (IntKind.wrap IntKind.i64 (t29 + (1 : Int))) r0 K))
    (X_grid_Check_0_1 (r0) K))
theorem R_grid_Check_0 (t27 : (List (Int × (Int × (Int × (Int × (Int × Unit))))))) (t28 : Int) (t29 : Int) (r0 : (Int × ((List (Int × (Int × (Int × (Int × (Int × Unit)))))) × Unit))) (m : Nat) (K : AExit → St → Prop) : awp E_grid_Check (loopAt (bodyOf Try.f32) 0) 0 (roundP E_grid_Check 0 L_grid_Check_0 m K) (L_grid_Check_0.abs (t27, t28, t29, ()) (r0, ())) = B_grid_Check_0 t27 t28 t29 r0 m K := by kernel_rfl
theorem I_grid_Check_0 (h : ∀ (t27 : (List (Int × (Int × (Int × (Int × (Int × Unit))))))) (t28 : Int) (t29 : Int) (r0 : (Int × ((List (Int × (Int × (Int × (Int × (Int × Unit)))))) × Unit))) (K : AExit → St → Prop), p_grid_Check_0 t27 t28 t29 r0 → o_grid_Check_0 t27 t28 t29 r0 K → B_grid_Check_0 t27 t28 t29 r0 (m_grid_Check_0 t27 t28 t29 r0) K) : LoopOK E_grid_Check 0 (loopAt (bodyOf Try.f32) 0) L_grid_Check_0 :=
  fun x y K hp ho => match x, y, hp, ho with | (t27, t28, t29, ()), (r0, ()), hp, ho => (R_grid_Check_0 t27 t28 t29 r0 (m_grid_Check_0 t27 t28 t29 r0) K).mpr (h t27 t28 t29 r0 K hp ho)
def B_grid_Check_2 (t40 : (List (Int × (Int × (Int × (Int × (Int × Unit))))))) (t41 : Int) (t42 : Int) (r0 : (List (List Int))) (m : Nat) (K : AExit → St → Prop) : Prop := (
  condP (decide (t42 < t41))
    (((0 : Int) ≤ t42) ∧
    (t42 < (↑(List.length t40) : Int)) ∧
    (p_grid_Check_4 t40 t41 t42 (Prod.fst (Prod.snd (Prod.snd (List.getD t40 (Int.toNat t42) ((0 : Int), (0 : Int), (0 : Int), (0 : Int), (0 : Int), ()))))) (0 : Int) r0 (List.getD t40 (Int.toNat t42) ((0 : Int), (0 : Int), (0 : Int), (0 : Int), (0 : Int), ()))) ∧
    (p_grid_Check_2 t40 t41 (IntKind.wrap IntKind.i64 (t42 + (1 : Int))) (incCols (List.getD t40 (Int.toNat t42) ((0 : Int), (0 : Int), (0 : Int), (0 : Int), (0 : Int), ())) r0 (0 : Int) (Int.toNat (Prod.fst (Prod.snd (Prod.snd (List.getD t40 (Int.toNat t42) ((0 : Int), (0 : Int), (0 : Int), (0 : Int), (0 : Int), ())))) - (0 : Int))))) ∧
    (m_grid_Check_2 t40 t41 (IntKind.wrap IntKind.i64 (t42 + (1 : Int))) (incCols (List.getD t40 (Int.toNat t42) ((0 : Int), (0 : Int), (0 : Int), (0 : Int), (0 : Int), ())) r0 (0 : Int) (Int.toNat (Prod.fst (Prod.snd (Prod.snd (List.getD t40 (Int.toNat t42) ((0 : Int), (0 : Int), (0 : Int), (0 : Int), (0 : Int), ())))) - (0 : Int)))) < m) ∧
    o_grid_Check_2 t40 t41 (IntKind.wrap IntKind.i64 (t42 + (1 : Int))) (incCols (List.getD t40 (Int.toNat t42) ((0 : Int), (0 : Int), (0 : Int), (0 : Int), (0 : Int), ())) r0 (0 : Int) (Int.toNat (Prod.fst (Prod.snd (Prod.snd (List.getD t40 (Int.toNat t42) ((0 : Int), (0 : Int), (0 : Int), (0 : Int), (0 : Int), ())))) - (0 : Int)))) K)
    (X_grid_Check_2_0 (r0) K))
theorem R_grid_Check_2 (t40 : (List (Int × (Int × (Int × (Int × (Int × Unit))))))) (t41 : Int) (t42 : Int) (r0 : (List (List Int))) (m : Nat) (K : AExit → St → Prop) : awp E_grid_Check (loopAt (bodyOf Try.f32) 2) 2 (roundP E_grid_Check 2 L_grid_Check_2 m K) (L_grid_Check_2.abs (t40, t41, t42, ()) (r0, ())) = B_grid_Check_2 t40 t41 t42 r0 m K := by kernel_rfl
theorem I_grid_Check_2 (h : ∀ (t40 : (List (Int × (Int × (Int × (Int × (Int × Unit))))))) (t41 : Int) (t42 : Int) (r0 : (List (List Int))) (K : AExit → St → Prop), p_grid_Check_2 t40 t41 t42 r0 → o_grid_Check_2 t40 t41 t42 r0 K → B_grid_Check_2 t40 t41 t42 r0 (m_grid_Check_2 t40 t41 t42 r0) K) : LoopOK E_grid_Check 2 (loopAt (bodyOf Try.f32) 2) L_grid_Check_2 :=
  fun x y K hp ho => match x, y, hp, ho with | (t40, t41, t42, ()), (r0, ()), hp, ho => (R_grid_Check_2 t40 t41 t42 r0 (m_grid_Check_2 t40 t41 t42 r0) K).mpr (h t40 t41 t42 r0 K hp ho)
def B_grid_Check_4 (t40 : (List (Int × (Int × (Int × (Int × (Int × Unit))))))) (t41 : Int) (t42 : Int) (t47 : Int) (t48 : Int) (r0 : (List (List Int))) (r1 : (Int × (Int × (Int × (Int × (Int × Unit)))))) (m : Nat) (K : AExit → St → Prop) : Prop := (
  condP (decide (t48 < t47))
    ((p_grid_Check_6 t48 (Prod.fst (Prod.snd (Prod.snd (Prod.snd r1)))) t40 t41 t42 t47 t48 r0 r1) ∧
    (p_grid_Check_4 t40 t41 t42 t47 (IntKind.wrap IntKind.i64 (t48 + (1 : Int))) (incRow (Prod.fst (Prod.snd r1) + t48) r0 (Prod.fst (Prod.snd (Prod.snd (Prod.snd r1)))) (Int.toNat (Prod.fst (Prod.snd (Prod.snd (Prod.snd (Prod.snd r1)))) - Prod.fst (Prod.snd (Prod.snd (Prod.snd r1)))))) r1) ∧
    (m_grid_Check_4 t40 t41 t42 t47 (IntKind.wrap IntKind.i64 (t48 + (1 : Int))) (incRow (Prod.fst (Prod.snd r1) + t48) r0 (Prod.fst (Prod.snd (Prod.snd (Prod.snd r1)))) (Int.toNat (Prod.fst (Prod.snd (Prod.snd (Prod.snd (Prod.snd r1)))) - Prod.fst (Prod.snd (Prod.snd (Prod.snd r1)))))) r1 < m) ∧
    o_grid_Check_4 t40 t41 t42 t47 (IntKind.wrap IntKind.i64 (t48 + (1 : Int))) (incRow (Prod.fst (Prod.snd r1) + t48) r0 (Prod.fst (Prod.snd (Prod.snd (Prod.snd r1)))) (Int.toNat (Prod.fst (Prod.snd (Prod.snd (Prod.snd (Prod.snd r1)))) - Prod.fst (Prod.snd (Prod.snd (Prod.snd r1)))))) r1 K)
    (X_grid_Check_4_0 (t40) (t41) (t42) (r0) K))
theorem R_grid_Check_4 (t40 : (List (Int × (Int × (Int × (Int × (Int × Unit))))))) (t41 : Int) (t42 : Int) (t47 : Int) (t48 : Int) (r0 : (List (List Int))) (r1 : (Int × (Int × (Int × (Int × (Int × Unit)))))) (m : Nat) (K : AExit → St → Prop) : awp E_grid_Check (loopAt (bodyOf Try.f32) 4) 4 (roundP E_grid_Check 4 L_grid_Check_4 m K) (L_grid_Check_4.abs (t40, t41, t42, t47, t48, ()) (r0, r1, ())) = B_grid_Check_4 t40 t41 t42 t47 t48 r0 r1 m K := by kernel_rfl
theorem I_grid_Check_4 (h : ∀ (t40 : (List (Int × (Int × (Int × (Int × (Int × Unit))))))) (t41 : Int) (t42 : Int) (t47 : Int) (t48 : Int) (r0 : (List (List Int))) (r1 : (Int × (Int × (Int × (Int × (Int × Unit)))))) (K : AExit → St → Prop), p_grid_Check_4 t40 t41 t42 t47 t48 r0 r1 → o_grid_Check_4 t40 t41 t42 t47 t48 r0 r1 K → B_grid_Check_4 t40 t41 t42 t47 t48 r0 r1 (m_grid_Check_4 t40 t41 t42 t47 t48 r0 r1) K) : LoopOK E_grid_Check 4 (loopAt (bodyOf Try.f32) 4) L_grid_Check_4 :=
  fun x y K hp ho => match x, y, hp, ho with | (t40, t41, t42, t47, t48, ()), (r0, r1, ()), hp, ho => (R_grid_Check_4 t40 t41 t42 t47 t48 r0 r1 (m_grid_Check_4 t40 t41 t42 t47 t48 r0 r1) K).mpr (h t40 t41 t42 t47 t48 r0 r1 K hp ho)
def B_grid_Check_6 (t8 : Int) (t9 : Int) (t40 : (List (Int × (Int × (Int × (Int × (Int × Unit))))))) (t41 : Int) (t42 : Int) (t47 : Int) (t48 : Int) (r0 : (List (List Int))) (r1 : (Int × (Int × (Int × (Int × (Int × Unit)))))) (m : Nat) (K : AExit → St → Prop) : Prop := (
  condP (decide (t9 < Prod.fst (Prod.snd (Prod.snd (Prod.snd (Prod.snd r1))))))
    (((0 : Int) ≤ IntKind.wrap IntKind.i64 (Prod.fst (Prod.snd r1) + t8)) ∧
    (IntKind.wrap IntKind.i64 (Prod.fst (Prod.snd r1) + t8) < (↑(12 : Nat) : Int)) ∧
    ((0 : Int) ≤ t9) ∧
    (t9 < (↑(14 : Nat) : Int)) ∧
    ((0 : Int) ≤ IntKind.wrap IntKind.i64 (Prod.fst (Prod.snd r1) + t8)) ∧
    (IntKind.wrap IntKind.i64 (Prod.fst (Prod.snd r1) + t8) < (↑(12 : Nat) : Int)) ∧
    ((0 : Int) ≤ t9) ∧
    (t9 < (↑(14 : Nat) : Int)) ∧
    (p_grid_Check_6 t8 (IntKind.wrap IntKind.i64 (t9 + (1 : Int))) t40 t41 t42 t47 t48 (List.set r0 (Int.toNat (IntKind.wrap IntKind.i64 (Prod.fst (Prod.snd r1) + t8))) (List.set (List.getD r0 (Int.toNat (IntKind.wrap IntKind.i64 (Prod.fst (Prod.snd r1) + t8))) (List.replicate (14 : Nat) (0 : Int))) (Int.toNat t9) (IntKind.wrap IntKind.i64 (List.getD (List.getD r0 (Int.toNat (IntKind.wrap IntKind.i64 (Prod.fst (Prod.snd r1) + t8))) (List.replicate (14 : Nat) (0 : Int))) (Int.toNat t9) (0 : Int) + (1 : Int))))) r1) ∧
    (m_grid_Check_6 t8 (IntKind.wrap IntKind.i64 (t9 + (1 : Int))) t40 t41 t42 t47 t48 (List.set r0 (Int.toNat (IntKind.wrap IntKind.i64 (Prod.fst (Prod.snd r1) + t8))) (List.set (List.getD r0 (Int.toNat (IntKind.wrap IntKind.i64 (Prod.fst (Prod.snd r1) + t8))) (List.replicate (14 : Nat) (0 : Int))) (Int.toNat t9) (IntKind.wrap IntKind.i64 (List.getD (List.getD r0 (Int.toNat (IntKind.wrap IntKind.i64 (Prod.fst (Prod.snd r1) + t8))) (List.replicate (14 : Nat) (0 : Int))) (Int.toNat t9) (0 : Int) + (1 : Int))))) r1 < m) ∧
    o_grid_Check_6 t8 (IntKind.wrap IntKind.i64 (t9 + (1 : Int))) t40 t41 t42 t47 t48 (List.set r0 (Int.toNat (IntKind.wrap IntKind.i64 (Prod.fst (Prod.snd r1) + t8))) (List.set (List.getD r0 (Int.toNat (IntKind.wrap IntKind.i64 (Prod.fst (Prod.snd r1) + t8))) (List.replicate (14 : Nat) (0 : Int))) (Int.toNat t9) (IntKind.wrap IntKind.i64 (List.getD (List.getD r0 (Int.toNat (IntKind.wrap IntKind.i64 (Prod.fst (Prod.snd r1) + t8))) (List.replicate (14 : Nat) (0 : Int))) (Int.toNat t9) (0 : Int) + (1 : Int))))) r1 K)
    (X_grid_Check_6_0 (t40) (t41) (t42) (t47) (t48) (r0) (r1) K))
theorem R_grid_Check_6 (t8 : Int) (t9 : Int) (t40 : (List (Int × (Int × (Int × (Int × (Int × Unit))))))) (t41 : Int) (t42 : Int) (t47 : Int) (t48 : Int) (r0 : (List (List Int))) (r1 : (Int × (Int × (Int × (Int × (Int × Unit)))))) (m : Nat) (K : AExit → St → Prop) : awp E_grid_Check (loopAt (bodyOf Try.f32) 6) 6 (roundP E_grid_Check 6 L_grid_Check_6 m K) (L_grid_Check_6.abs (t8, t9, t40, t41, t42, t47, t48, ()) (r0, r1, ())) = B_grid_Check_6 t8 t9 t40 t41 t42 t47 t48 r0 r1 m K := by kernel_rfl
theorem I_grid_Check_6 (h : ∀ (t8 : Int) (t9 : Int) (t40 : (List (Int × (Int × (Int × (Int × (Int × Unit))))))) (t41 : Int) (t42 : Int) (t47 : Int) (t48 : Int) (r0 : (List (List Int))) (r1 : (Int × (Int × (Int × (Int × (Int × Unit)))))) (K : AExit → St → Prop), p_grid_Check_6 t8 t9 t40 t41 t42 t47 t48 r0 r1 → o_grid_Check_6 t8 t9 t40 t41 t42 t47 t48 r0 r1 K → B_grid_Check_6 t8 t9 t40 t41 t42 t47 t48 r0 r1 (m_grid_Check_6 t8 t9 t40 t41 t42 t47 t48 r0 r1) K) : LoopOK E_grid_Check 6 (loopAt (bodyOf Try.f32) 6) L_grid_Check_6 :=
  fun x y K hp ho => match x, y, hp, ho with | (t8, t9, t40, t41, t42, t47, t48, ()), (r0, r1, ()), hp, ho => (R_grid_Check_6 t8 t9 t40 t41 t42 t47 t48 r0 r1 (m_grid_Check_6 t8 t9 t40 t41 t42 t47 t48 r0 r1) K).mpr (h t8 t9 t40 t41 t42 t47 t48 r0 r1 K hp ho)
def B_grid_Check_8 (t72 : (List (List Int))) (t73 : Int) (m : Nat) (K : AExit → St → Prop) : Prop := (
  condP (decide (t73 < (12 : Int)))
    (((0 : Int) ≤ t73) ∧
    (t73 < (↑(12 : Nat) : Int)) ∧
    ((0 : Int) ≤ (0 : Int)) ∧
    ((0 : Int) ≤ (↑(14 : Nat) : Int)) ∧
    ((↑(14 : Nat) : Int) ≤ (↑(14 : Nat) : Int)) ∧
    ((1 : Nat) ≤ List.length (cutL (List.getD t72 (Int.toNat t73) (List.replicate (14 : Nat) (0 : Int))) none none) ∧ (↑(List.length (cutL (List.getD t72 (Int.toNat t73) (List.replicate (14 : Nat) (0 : Int))) none none)) : Int) ≤ big) ∧
    condP (decide (maxL (cutL (List.getD t72 (Int.toNat t73) (List.replicate (14 : Nat) (0 : Int))) none none) > (1 : Int)))
      (X_grid_Check_8_0 ((5 : Int)) K)
      ((p_grid_Check_8 t72 (IntKind.wrap IntKind.i64 (t73 + (1 : Int)))) ∧
      (m_grid_Check_8 t72 (IntKind.wrap IntKind.i64 (t73 + (1 : Int))) < m) ∧
      o_grid_Check_8 t72 (IntKind.wrap IntKind.i64 (t73 + (1 : Int))) K))
    (X_grid_Check_8_1  K))
theorem R_grid_Check_8 (t72 : (List (List Int))) (t73 : Int) (m : Nat) (K : AExit → St → Prop) : awp E_grid_Check (loopAt (bodyOf Try.f32) 8) 8 (roundP E_grid_Check 8 L_grid_Check_8 m K) (L_grid_Check_8.abs (t72, t73, ()) (())) = B_grid_Check_8 t72 t73 m K := by kernel_rfl
theorem I_grid_Check_8 (h : ∀ (t72 : (List (List Int))) (t73 : Int) (K : AExit → St → Prop), p_grid_Check_8 t72 t73 → o_grid_Check_8 t72 t73 K → B_grid_Check_8 t72 t73 (m_grid_Check_8 t72 t73) K) : LoopOK E_grid_Check 8 (loopAt (bodyOf Try.f32) 8) L_grid_Check_8 :=
  fun x y K hp ho => match x, y, hp, ho with | (t72, t73, ()), (), hp, ho => (R_grid_Check_8 t72 t73 (m_grid_Check_8 t72 t73) K).mpr (h t72 t73 K hp ho)
theorem G_grid_Check : loopsAll E_grid_Check (loopList (bodyOf Try.f32) 0) = (LoopOK E_grid_Check 0 (loopAt (bodyOf Try.f32) 0) L_grid_Check_0 ∧ LoopOK E_grid_Check 2 (loopAt (bodyOf Try.f32) 2) L_grid_Check_2 ∧ LoopOK E_grid_Check 4 (loopAt (bodyOf Try.f32) 4) L_grid_Check_4 ∧ LoopOK E_grid_Check 6 (loopAt (bodyOf Try.f32) 6) L_grid_Check_6 ∧ LoopOK E_grid_Check 8 (loopAt (bodyOf Try.f32) 8) L_grid_Check_8 ∧ True) := by kernel_rfl
theorem envok_grid_Check (h_grid_formed : SumOK Try.prog 91 S_grid_formed) (h_slices_Max_int_int : SumOK Try.prog 92 S_slices_Max_int_int) : EnvOK E_grid_Check := ⟨sumsOf_ok (List.forall_mem_cons.2 ⟨h_grid_formed, (List.forall_mem_cons.2 ⟨h_slices_Max_int_int, (fun _ h => nomatch h)⟩)⟩), follows⟩
theorem whole_grid_Check (h_grid_formed : SumOK Try.prog 91 S_grid_formed) (h_slices_Max_int_int : SumOK Try.prog 92 S_slices_Max_int_int) (l0 : LoopOK E_grid_Check 0 (loopAt (bodyOf Try.f32) 0) L_grid_Check_0) (l2 : LoopOK E_grid_Check 2 (loopAt (bodyOf Try.f32) 2) L_grid_Check_2) (l4 : LoopOK E_grid_Check 4 (loopAt (bodyOf Try.f32) 4) L_grid_Check_4) (l6 : LoopOK E_grid_Check 6 (loopAt (bodyOf Try.f32) 6) L_grid_Check_6) (l8 : LoopOK E_grid_Check 8 (loopAt (bodyOf Try.f32) 8) L_grid_Check_8) (main : ∀ (a0 : (Int × ((List (Int × (Int × (Int × (Int × (Int × Unit)))))) × Unit))), (True) → W_grid_Check a0) : SumOK Try.prog 32 S_grid_Check :=
  fun_sound (E := E_grid_Check) (envok_grid_Check h_grid_formed h_slices_Max_int_int) (fn := Try.f32) (c := bodyOf Try.f32) (ts := [(2, none)]) S_grid_Check Try.func32 (body_some (by kernel_rfl)) (by kernel_rfl) (Nat.le_of_ble_eq_true (by kernel_rfl)) (by kernel_rfl) (by kernel_rfl) (G_grid_Check.mpr ⟨l0, l2, l4, l6, l8, trivial⟩) (fun x hp => match x, hp with | (a0, ()), hp => (V_grid_Check a0).mpr (main a0 hp))
/-! ### R_GridError -/
def L_R_GridError_0 : Lift.Loop := Lift.Loop.mk 108 (u 1 ++ (.addr 0 :: (u 1 ++ (.v (.int .i64) :: (u 104))))) [(0, .box (.pair (.int .i64) (.pair (.ro (.pair (.int .i64) (.pair (.int .i64) (.pair (.int .i64) (.pair (.int .i64) (.pair (.int .i64) .unit)))))) .unit)) [])] 1 (fun x y => p_R_GridError_0 x.1 y.1) (fun x y => m_R_GridError_0 x.1 y.1) (fun x y K => o_R_GridError_0 x.1 y.1 K)
def L_R_GridError_2 : Lift.Loop := Lift.Loop.mk 108 (u 1 ++ (.addr 0 :: (u 3 ++ (.v (.int .i64) :: (u 102))))) [(0, .box (.pair (.int .i64) (.pair (.ro (.pair (.int .i64) (.pair (.int .i64) (.pair (.int .i64) (.pair (.int .i64) (.pair (.int .i64) .unit)))))) .unit)) [])] 1 (fun x y => p_R_GridError_2 x.1 y.1) (fun x y => m_R_GridError_2 x.1 y.1) (fun x y K => o_R_GridError_2 x.1 y.1 K)
def L_R_GridError_4 : Lift.Loop := Lift.Loop.mk 108 (u 1 ++ (.addr 0 :: (u 3 ++ (.v (.int .i64) :: (.v (.int .i64) :: (u 101)))))) [(0, .box (.pair (.int .i64) (.pair (.ro (.pair (.int .i64) (.pair (.int .i64) (.pair (.int .i64) (.pair (.int .i64) (.pair (.int .i64) .unit)))))) .unit)) [])] 1 (fun x y => p_R_GridError_4 x.1 x.2.1 y.1) (fun x y => m_R_GridError_4 x.1 x.2.1 y.1) (fun x y K => o_R_GridError_4 x.1 x.2.1 y.1 K)
noncomputable def E_R_GridError : Env := { P := Try.prog, sum := sumsOf [(89, S_R_Owner)], nio := 0, head := fun b => if b = 4 then ([1, 5, 6], []) else if b = 2 then ([1, 5], []) else if b = 0 then ([1, 3, 39, 40, 41, 44, 45, 46, 49, 50, 51, 54, 55, 56, 57, 58, 61, 62, 63, 64, 65, 66, 67, 68, 71, 72, 73, 76, 77, 78, 81, 82, 83, 84, 85], []) else ([], []), after := fun _ => none, leave := fun b => if b = 4 then [1, 2, 5] else if b = 2 then [2] else if b = 0 then [1, 2] else [], loops := fun b => if b = 4 then some L_R_GridError_4 else if b = 2 then some L_R_GridError_2 else if b = 0 then some L_R_GridError_0 else none }
def W_R_GridError (a0 : (Int × ((List (Int × (Int × (Int × (Int × (Int × Unit)))))) × Unit))) : Prop := (
  condP (if (if decide (Prod.fst a0 < (1 : Int)) = true then true else decide (Prod.fst a0 > (12 : Int))) = true then true else decide ((↑(List.length (Prod.fst (Prod.snd a0))) : Int) > (100 : Int)))
    (((1 : Int) = gridErr a0) ∧
    True)
    ((p_R_GridError_0 (0 : Int) a0) ∧
    condP (List.all (List.drop (0 : Nat) (Prod.fst (Prod.snd a0))) fun (s : Int × Int × Int × Int × Int × Unit) => formedB s (Prod.fst a0))
      ((p_R_GridError_2 (0 : Int) a0) ∧
      condP (clashF a0 (0 : Int) (Int.toNat (((12 : Int) * Prod.fst a0 - (0 : Int)) / (12 : Int))))
        (((5 : Int) = gridErr a0) ∧
        True)
        (((0 : Int) = gridErr a0) ∧
        True))
      (((1 : Int) = gridErr a0) ∧
      True)))
theorem V_R_GridError (a0 : (Int × ((List (Int × (Int × (Int × (Int × (Int × Unit)))))) × Unit))) : awp E_R_GridError (bodyOf Try.f30) 0 (fin Try.prog S_R_GridError (a0, ()) [(2, none)] 0) (initSt S_R_GridError.par (a0, ()) 108) = W_R_GridError a0 := by kernel_rfl
def B_R_GridError_0 (t3 : Int) (r0 : (Int × ((List (Int × (Int × (Int × (Int × (Int × Unit)))))) × Unit))) (m : Nat) (K : AExit → St → Prop) : Prop := (
  condP (decide (t3 < (↑(List.length (Prod.fst (Prod.snd r0))) : Int)))
    (((0 : Int) ≤ t3) ∧
    (t3 < (↑(List.length (Prod.fst (Prod.snd r0))) : Int)) ∧
    condP (if (if (if (if (if (if (if (if decide (Prod.fst (List.getD (Prod.fst (Prod.snd r0)) (Int.toNat t3) ((0 : Int), (0 : Int), (0 : Int), (0 : Int), (0 : Int), ())) < (1 : Int)) = true then true else decide (Prod.fst (List.getD (Prod.fst (Prod.snd r0)) (Int.toNat t3) ((0 : Int), (0 : Int), (0 : Int), (0 : Int), (0 : Int), ())) > (16 : Int))) = true then true else decide (Prod.fst (Prod.snd (List.getD (Prod.fst (Prod.snd r0)) (Int.toNat t3) ((0 : Int), (0 : Int), (0 : Int), (0 : Int), (0 : Int), ()))) < (0 : Int))) = true then true else decide (Prod.fst (Prod.snd (Prod.snd (List.getD (Prod.fst (Prod.snd r0)) (Int.toNat t3) ((0 : Int), (0 : Int), (0 : Int), (0 : Int), (0 : Int), ())))) < (1 : Int))) = true then true else decide (Prod.fst (Prod.snd (List.getD (Prod.fst (Prod.snd r0)) (Int.toNat t3) ((0 : Int), (0 : Int), (0 : Int), (0 : Int), (0 : Int), ()))) ≥ Prod.fst r0)) = true then true else decide (Prod.fst (Prod.snd (Prod.snd (List.getD (Prod.fst (Prod.snd r0)) (Int.toNat t3) ((0 : Int), (0 : Int), (0 : Int), (0 : Int), (0 : Int), ())))) > IntKind.wrap IntKind.i64 (Prod.fst r0 - Prod.fst (Prod.snd (List.getD (Prod.fst (Prod.snd r0)) (Int.toNat t3) ((0 : Int), (0 : Int), (0 : Int), (0 : Int), (0 : Int), ())))))) = true then true else decide (Prod.fst (Prod.snd (Prod.snd (Prod.snd (List.getD (Prod.fst (Prod.snd r0)) (Int.toNat t3) ((0 : Int), (0 : Int), (0 : Int), (0 : Int), (0 : Int), ()))))) < (0 : Int))) = true then true else decide (Prod.fst (Prod.snd (Prod.snd (Prod.snd (Prod.snd (List.getD (Prod.fst (Prod.snd r0)) (Int.toNat t3) ((0 : Int), (0 : Int), (0 : Int), (0 : Int), (0 : Int), ())))))) > (14 : Int))) = true then true else decide (Prod.fst (Prod.snd (Prod.snd (Prod.snd (List.getD (Prod.fst (Prod.snd r0)) (Int.toNat t3) ((0 : Int), (0 : Int), (0 : Int), (0 : Int), (0 : Int), ()))))) ≥ Prod.fst (Prod.snd (Prod.snd (Prod.snd (Prod.snd (List.getD (Prod.fst (Prod.snd r0)) (Int.toNat t3) ((0 : Int), (0 : Int), (0 : Int), (0 : Int), (0 : Int), ()))))))))
      (X_R_GridError_0_0 ((1 : Int)) (r0) K)
      ((p_R_GridError_0 (IntKind.wrap IntKind.i64 (t3 + (1 : Int))) r0) ∧
      (m_R_GridError_0 (IntKind.wrap IntKind.i64 (t3 + (1 : Int))) r0 < m) ∧
      o_R_GridError_0 (IntKind.wrap IntKind.i64 (t3 + (1 : Int))) r0 K))
    (X_R_GridError_0_1 (r0) K))
theorem R_R_GridError_0 (t3 : Int) (r0 : (Int × ((List (Int × (Int × (Int × (Int × (Int × Unit)))))) × Unit))) (m : Nat) (K : AExit → St → Prop) : awp E_R_GridError (loopAt (bodyOf Try.f30) 0) 0 (roundP E_R_GridError 0 L_R_GridError_0 m K) (L_R_GridError_0.abs (t3, ()) (r0, ())) = B_R_GridError_0 t3 r0 m K := by kernel_rfl
theorem I_R_GridError_0 (h : ∀ (t3 : Int) (r0 : (Int × ((List (Int × (Int × (Int × (Int × (Int × Unit)))))) × Unit))) (K : AExit → St → Prop), p_R_GridError_0 t3 r0 → o_R_GridError_0 t3 r0 K → B_R_GridError_0 t3 r0 (m_R_GridError_0 t3 r0) K) : LoopOK E_R_GridError 0 (loopAt (bodyOf Try.f30) 0) L_R_GridError_0 :=
  fun x y K hp ho => match x, y, hp, ho with | (t3, ()), (r0, ()), hp, ho => (R_R_GridError_0 t3 r0 (m_R_GridError_0 t3 r0) K).mpr (h t3 r0 K hp ho)
def B_R_GridError_2 (t5 : Int) (r0 : (Int × ((List (Int × (Int × (Int × (Int × (Int × Unit)))))) × Unit))) (m : Nat) (K : AExit → St → Prop) : Prop := (
  condP (decide (t5 < IntKind.wrap IntKind.i64 ((12 : Int) * Prod.fst r0)))
    ((p_R_GridError_4 t5 (0 : Int) r0) ∧
    condP (clashT r0 t5 (0 : Int) (Int.toNat ((14 : Int) - (0 : Int))))
      (X_R_GridError_2_0 ((5 : Int)) K)
      ((p_R_GridError_2 (IntKind.wrap IntKind.i64 (t5 + (12 : Int))) r0) ∧
      (m_R_GridError_2 (IntKind.wrap IntKind.i64 (t5 + (12 : Int))) r0 < m) ∧
      o_R_GridError_2 (IntKind.wrap IntKind.i64 (t5 + (12 : Int))) r0 K))
    (X_R_GridError_2_1  K))
theorem R_R_GridError_2 (t5 : Int) (r0 : (Int × ((List (Int × (Int × (Int × (Int × (Int × Unit)))))) × Unit))) (m : Nat) (K : AExit → St → Prop) : awp E_R_GridError (loopAt (bodyOf Try.f30) 2) 2 (roundP E_R_GridError 2 L_R_GridError_2 m K) (L_R_GridError_2.abs (t5, ()) (r0, ())) = B_R_GridError_2 t5 r0 m K := by kernel_rfl
theorem I_R_GridError_2 (h : ∀ (t5 : Int) (r0 : (Int × ((List (Int × (Int × (Int × (Int × (Int × Unit)))))) × Unit))) (K : AExit → St → Prop), p_R_GridError_2 t5 r0 → o_R_GridError_2 t5 r0 K → B_R_GridError_2 t5 r0 (m_R_GridError_2 t5 r0) K) : LoopOK E_R_GridError 2 (loopAt (bodyOf Try.f30) 2) L_R_GridError_2 :=
  fun x y K hp ho => match x, y, hp, ho with | (t5, ()), (r0, ()), hp, ho => (R_R_GridError_2 t5 r0 (m_R_GridError_2 t5 r0) K).mpr (h t5 r0 K hp ho)
def B_R_GridError_4 (t5 : Int) (t6 : Int) (r0 : (Int × ((List (Int × (Int × (Int × (Int × (Int × Unit)))))) × Unit))) (m : Nat) (K : AExit → St → Prop) : Prop := (
  condP (decide (t6 < (14 : Int)))
    ((gok r0) ∧
    condP (decide (Prod.snd (owner r0 t5 t6) > (1 : Int)))
      (X_R_GridError_4_0 ((5 : Int)) (t5) (r0) K)
      ((p_R_GridError_4 t5 (IntKind.wrap IntKind.i64 (t6 + (1 : Int))) r0) ∧
      (m_R_GridError_4 t5 (IntKind.wrap IntKind.i64 (t6 + (1 : Int))) r0 < m) ∧
      o_R_GridError_4 t5 (IntKind.wrap IntKind.i64 (t6 + (1 : Int))) r0 K))
    (X_R_GridError_4_1 (t5) (r0) K))
theorem R_R_GridError_4 (t5 : Int) (t6 : Int) (r0 : (Int × ((List (Int × (Int × (Int × (Int × (Int × Unit)))))) × Unit))) (m : Nat) (K : AExit → St → Prop) : awp E_R_GridError (loopAt (bodyOf Try.f30) 4) 4 (roundP E_R_GridError 4 L_R_GridError_4 m K) (L_R_GridError_4.abs (t5, t6, ()) (r0, ())) = B_R_GridError_4 t5 t6 r0 m K := by kernel_rfl
theorem I_R_GridError_4 (h : ∀ (t5 : Int) (t6 : Int) (r0 : (Int × ((List (Int × (Int × (Int × (Int × (Int × Unit)))))) × Unit))) (K : AExit → St → Prop), p_R_GridError_4 t5 t6 r0 → o_R_GridError_4 t5 t6 r0 K → B_R_GridError_4 t5 t6 r0 (m_R_GridError_4 t5 t6 r0) K) : LoopOK E_R_GridError 4 (loopAt (bodyOf Try.f30) 4) L_R_GridError_4 :=
  fun x y K hp ho => match x, y, hp, ho with | (t5, t6, ()), (r0, ()), hp, ho => (R_R_GridError_4 t5 t6 r0 (m_R_GridError_4 t5 t6 r0) K).mpr (h t5 t6 r0 K hp ho)
theorem G_R_GridError : loopsAll E_R_GridError (loopList (bodyOf Try.f30) 0) = (LoopOK E_R_GridError 0 (loopAt (bodyOf Try.f30) 0) L_R_GridError_0 ∧ LoopOK E_R_GridError 2 (loopAt (bodyOf Try.f30) 2) L_R_GridError_2 ∧ LoopOK E_R_GridError 4 (loopAt (bodyOf Try.f30) 4) L_R_GridError_4 ∧ True) := by kernel_rfl
theorem envok_R_GridError (h_R_Owner : SumOK Try.prog 89 S_R_Owner) : EnvOK E_R_GridError := ⟨sumsOf_ok (List.forall_mem_cons.2 ⟨h_R_Owner, (fun _ h => nomatch h)⟩), follows⟩
theorem whole_R_GridError (h_R_Owner : SumOK Try.prog 89 S_R_Owner) (l0 : LoopOK E_R_GridError 0 (loopAt (bodyOf Try.f30) 0) L_R_GridError_0) (l2 : LoopOK E_R_GridError 2 (loopAt (bodyOf Try.f30) 2) L_R_GridError_2) (l4 : LoopOK E_R_GridError 4 (loopAt (bodyOf Try.f30) 4) L_R_GridError_4) (main : ∀ (a0 : (Int × ((List (Int × (Int × (Int × (Int × (Int × Unit)))))) × Unit))), (True) → W_R_GridError a0) : SumOK Try.prog 30 S_R_GridError :=
  fun_sound (E := E_R_GridError) (envok_R_GridError h_R_Owner) (fn := Try.f30) (c := bodyOf Try.f30) (ts := [(2, none)]) S_R_GridError Try.func30 (body_some (by kernel_rfl)) (by kernel_rfl) (Nat.le_of_ble_eq_true (by kernel_rfl)) (by kernel_rfl) (by kernel_rfl) (G_R_GridError.mpr ⟨l0, l2, l4, trivial⟩) (fun x hp => match x, hp with | (a0, ()), hp => (V_R_GridError a0).mpr (main a0 hp))
/-! ### grid_places -/
def L_grid_places_0 : Lift.Loop := Lift.Loop.mk 73 (u 1 ++ (.v (.int .i64) :: (.addr 0 :: (u 2 ++ (.sl 1 :: (u 5 ++ (.v (.int .i64) :: (u 61)))))))) [(0, .box (.pair (.int .i64) (.pair (.ro (.pair (.int .i64) (.pair (.int .i64) (.pair (.int .i64) (.pair (.int .i64) (.pair (.int .i64) .unit)))))) .unit)) []), (1, .row (.pair (.int .i64) (.pair (.int .i64) .unit)) [])] 2 (fun x y => p_grid_places_0 x.1 x.2.1 y.1 y.2.1) (fun x y => m_grid_places_0 x.1 x.2.1 y.1 y.2.1) (fun x y K => o_grid_places_0 x.1 x.2.1 y.1 y.2.1 K)
def L_grid_places_2 : Lift.Loop := Lift.Loop.mk 73 (u 1 ++ (.v (.int .i64) :: (.addr 0 :: (u 2 ++ (.sl 1 :: (.v (.int .i64) :: (u 4 ++ (.v (.int .i64) :: (u 4 ++ (.v (.int .i64) :: (.v (.int .i64) :: (u 55)))))))))))) [(0, .box (.pair (.int .i64) (.pair (.ro (.pair (.int .i64) (.pair (.int .i64) (.pair (.int .i64) (.pair (.int .i64) (.pair (.int .i64) .unit)))))) .unit)) []), (1, .row (.pair (.int .i64) (.pair (.int .i64) .unit)) [])] 2 (fun x y => p_grid_places_2 x.1 x.2.1 x.2.2.1 x.2.2.2.1 x.2.2.2.2.1 y.1 y.2.1) (fun x y => m_grid_places_2 x.1 x.2.1 x.2.2.1 x.2.2.2.1 x.2.2.2.2.1 y.1 y.2.1) (fun x y K => o_grid_places_2 x.1 x.2.1 x.2.2.1 x.2.2.2.1 x.2.2.2.2.1 y.1 y.2.1 K)
def L_grid_places_4 : Lift.Loop := Lift.Loop.mk 73 (u 1 ++ (.v (.int .i64) :: (.addr 0 :: (u 2 ++ (.sl 1 :: (.v (.int .i64) :: (.v (.int .i64) :: (.addr 2 :: (u 2 ++ (.v (.int .i64) :: (u 4 ++ (.v (.int .i64) :: (.v (.int .i64) :: (u 8 ++ (.v (.ro (.pair (.int .i64) (.pair (.int .i64) (.pair (.int .i64) (.pair (.int .i64) (.pair (.int .i64) .unit)))))) :: (.v (.int .i64) :: (.v (.int .i64) :: (u 44)))))))))))))))))) [(0, .box (.pair (.int .i64) (.pair (.ro (.pair (.int .i64) (.pair (.int .i64) (.pair (.int .i64) (.pair (.int .i64) (.pair (.int .i64) .unit)))))) .unit)) []), (1, .row (.pair (.int .i64) (.pair (.int .i64) .unit)) []), (2, .box (.pair (.int .i64) (.pair (.int .i64) .unit)) [])] 3 (fun x y => p_grid_places_4 x.1 x.2.1 x.2.2.1 x.2.2.2.1 x.2.2.2.2.1 x.2.2.2.2.2.1 x.2.2.2.2.2.2.1 x.2.2.2.2.2.2.2.1 x.2.2.2.2.2.2.2.2.1 y.1 y.2.1 y.2.2.1) (fun x y => m_grid_places_4 x.1 x.2.1 x.2.2.1 x.2.2.2.1 x.2.2.2.2.1 x.2.2.2.2.2.1 x.2.2.2.2.2.2.1 x.2.2.2.2.2.2.2.1 x.2.2.2.2.2.2.2.2.1 y.1 y.2.1 y.2.2.1) (fun x y K => o_grid_places_4 x.1 x.2.1 x.2.2.1 x.2.2.2.1 x.2.2.2.2.1 x.2.2.2.2.2.1 x.2.2.2.2.2.2.1 x.2.2.2.2.2.2.2.1 x.2.2.2.2.2.2.2.2.1 y.1 y.2.1 y.2.2.1 K)
noncomputable def E_grid_places : Env := { P := Try.prog, sum := sumsOf [(93, S_grid_pilot)], nio := 0, head := fun b => if b = 4 then ([1, 2, 5, 6, 7, 8, 11, 16, 17, 26, 27, 28, 37, 38, 39, 40, 41, 44, 45, 46, 47, 48, 49, 50, 51, 54, 55, 56, 57, 60, 61, 62, 63], []) else if b = 2 then ([1, 2, 5, 6, 11, 16, 17, 37, 38, 39, 40, 41, 44, 45, 46, 47, 48, 49, 50, 51, 54, 55, 56, 57, 60, 61, 62, 63], []) else if b = 0 then ([1, 2, 5, 11, 37, 38, 39, 40, 41, 44, 45, 46, 47, 48, 49, 50, 51, 54, 55, 56, 57, 60, 61, 62, 63], [(5, (.pair (.int .i64) (.pair (.int .i64) .unit)))]) else ([], []), after := fun _ => none, leave := fun b => if b = 4 then [1, 2, 4, 5, 6, 11, 16, 17, 37, 38, 39, 40, 41, 44, 45, 46, 47, 48, 49, 50, 51, 54, 55, 56, 57, 60, 61, 62, 63] else if b = 2 then [1, 2, 4, 5, 11, 37, 38, 39, 40, 41, 44, 45, 46, 47, 48, 49, 50, 51, 54, 55, 56, 57, 60, 61, 62, 63] else if b = 0 then [4, 5] else [], loops := fun b => if b = 4 then some L_grid_places_4 else if b = 2 then some L_grid_places_2 else if b = 0 then some L_grid_places_0 else none }
def W_grid_places (a0 : (Int × ((List (Int × (Int × (Int × (Int × (Int × Unit)))))) × Unit))) (a1 : Int) : Prop := (
  (p_grid_places_0 a1 (0 : Int) a0 (@List.nil (Int × Int × Unit))) ∧
  (@List.nil (Int × Int × Unit) ++ allG (cellP a0 a1) (tones a0) (0 : Int) (Int.toNat ((14 : Int) - (0 : Int))) = placesI a0 a1) ∧
  True)
theorem V_grid_places (a0 : (Int × ((List (Int × (Int × (Int × (Int × (Int × Unit)))))) × Unit))) (a1 : Int) : awp E_grid_places (bodyOf Try.f90) 0 (fin Try.prog S_grid_places (a0, a1, ()) [(4, none)] 0) (initSt S_grid_places.par (a0, a1, ()) 73) = W_grid_places a0 a1 := by kernel_rfl
def B_grid_places_0 (t1 : Int) (t11 : Int) (r0 : (Int × ((List (Int × (Int × (Int × (Int × (Int × Unit)))))) × Unit))) (r1 : (List (Int × (Int × Unit)))) (m : Nat) (K : AExit → St → Prop) : Prop := (
  condP (decide (t11 < (14 : Int)))
    ((p_grid_places_2 t1 t11 t11 (IntKind.wrap IntKind.i64 ((12 : Int) * Prod.fst r0)) (0 : Int) r0 r1) ∧
    (p_grid_places_0 t1 (IntKind.wrap IntKind.i64 (t11 + (1 : Int))) r0 (r1 ++ rowG (cellP r0 t1) t11 (0 : Int) (Int.toNat (IntKind.wrap IntKind.i64 ((12 : Int) * Prod.fst r0) - (0 : Int))))) ∧
    (m_grid_places_0 t1 (IntKind.wrap IntKind.i64 (t11 + (1 : Int))) r0 (r1 ++ rowG (cellP r0 t1) t11 (0 : Int) (Int.toNat (IntKind.wrap IntKind.i64 ((12 : Int) * Prod.fst r0) - (0 : Int)))) < m) ∧
    o_grid_places_0 t1 (IntKind.wrap IntKind.i64 (t11 + (1 : Int))) r0 (r1 ++ rowG (cellP r0 t1) t11 (0 : Int) (Int.toNat (IntKind.wrap IntKind.i64 ((12 : Int) * Prod.fst r0) - (0 : Int)))) K)
    (X_grid_places_0_0 (r1) K))
theorem R_grid_places_0 (t1 : Int) (t11 : Int) (r0 : (Int × ((List (Int × (Int × (Int × (Int × (Int × Unit)))))) × Unit))) (r1 : (List (Int × (Int × Unit)))) (m : Nat) (K : AExit → St → Prop) : awp E_grid_places (loopAt (bodyOf Try.f90) 0) 0 (roundP E_grid_places 0 L_grid_places_0 m K) (L_grid_places_0.abs (t1, t11, ()) (r0, r1, ())) = B_grid_places_0 t1 t11 r0 r1 m K := by kernel_rfl
theorem I_grid_places_0 (h : ∀ (t1 : Int) (t11 : Int) (r0 : (Int × ((List (Int × (Int × (Int × (Int × (Int × Unit)))))) × Unit))) (r1 : (List (Int × (Int × Unit)))) (K : AExit → St → Prop), p_grid_places_0 t1 t11 r0 r1 → o_grid_places_0 t1 t11 r0 r1 K → B_grid_places_0 t1 t11 r0 r1 (m_grid_places_0 t1 t11 r0 r1) K) : LoopOK E_grid_places 0 (loopAt (bodyOf Try.f90) 0) L_grid_places_0 :=
  fun x y K hp ho => match x, y, hp, ho with | (t1, t11, ()), (r0, r1, ()), hp, ho => (R_grid_places_0 t1 t11 r0 r1 (m_grid_places_0 t1 t11 r0 r1) K).mpr (h t1 t11 r0 r1 K hp ho)
def B_grid_places_2 (t1 : Int) (t6 : Int) (t11 : Int) (t16 : Int) (t17 : Int) (r0 : (Int × ((List (Int × (Int × (Int × (Int × (Int × Unit)))))) × Unit))) (r1 : (List (Int × (Int × Unit)))) (m : Nat) (K : AExit → St → Prop) : Prop := (
  condP (decide (t17 < t16))
    ((True) ∧
    condP (pilotB t17 t6)
      ((p_grid_places_2 t1 t6 t11 t16 (IntKind.wrap IntKind.i64 (t17 + (1 : Int))) r0 r1) ∧
      (m_grid_places_2 t1 t6 t11 t16 (IntKind.wrap IntKind.i64 (t17 + (1 : Int))) r0 r1 < m) ∧
      o_grid_places_2 t1 t6 t11 t16 (IntKind.wrap IntKind.i64 (t17 + (1 : Int))) r0 r1 K)
      ((p_grid_places_4 t1 t6 t17 t11 t16 t17 (Prod.fst (Prod.snd r0)) (↑(List.length (Prod.fst (Prod.snd r0))) : Int) (0 : Int) r0 r1 (t17, t6, ())) ∧
      (p_grid_places_2 t1 t6 t11 t16 (IntKind.wrap IntKind.i64 (t17 + (1 : Int))) r0 (r1 ++ hits t1 t17 t11 (List.drop (0 : Nat) (Prod.fst (Prod.snd r0))))) ∧
      (m_grid_places_2 t1 t6 t11 t16 (IntKind.wrap IntKind.i64 (t17 + (1 : Int))) r0 (r1 ++ hits t1 t17 t11 (List.drop (0 : Nat) (Prod.fst (Prod.snd r0)))) < m) ∧
      o_grid_places_2 t1 t6 t11 t16 (IntKind.wrap IntKind.i64 (t17 + (1 : Int))) r0 (r1 ++ hits t1 t17 t11 (List.drop (0 : Nat) (Prod.fst (Prod.snd r0)))) K))
    (X_grid_places_2_0 (t1) (t11) (r0) (r1) K))
theorem R_grid_places_2 (t1 : Int) (t6 : Int) (t11 : Int) (t16 : Int) (t17 : Int) (r0 : (Int × ((List (Int × (Int × (Int × (Int × (Int × Unit)))))) × Unit))) (r1 : (List (Int × (Int × Unit)))) (m : Nat) (K : AExit → St → Prop) : awp E_grid_places (loopAt (bodyOf Try.f90) 2) 2 (roundP E_grid_places 2 L_grid_places_2 m K) (L_grid_places_2.abs (t1, t6, t11, t16, t17, ()) (r0, r1, ())) = B_grid_places_2 t1 t6 t11 t16 t17 r0 r1 m K := by kernel_rfl
theorem I_grid_places_2 (h : ∀ (t1 : Int) (t6 : Int) (t11 : Int) (t16 : Int) (t17 : Int) (r0 : (Int × ((List (Int × (Int × (Int × (Int × (Int × Unit)))))) × Unit))) (r1 : (List (Int × (Int × Unit)))) (K : AExit → St → Prop), p_grid_places_2 t1 t6 t11 t16 t17 r0 r1 → o_grid_places_2 t1 t6 t11 t16 t17 r0 r1 K → B_grid_places_2 t1 t6 t11 t16 t17 r0 r1 (m_grid_places_2 t1 t6 t11 t16 t17 r0 r1) K) : LoopOK E_grid_places 2 (loopAt (bodyOf Try.f90) 2) L_grid_places_2 :=
  fun x y K hp ho => match x, y, hp, ho with | (t1, t6, t11, t16, t17, ()), (r0, r1, ()), hp, ho => (R_grid_places_2 t1 t6 t11 t16 t17 r0 r1 (m_grid_places_2 t1 t6 t11 t16 t17 r0 r1) K).mpr (h t1 t6 t11 t16 t17 r0 r1 K hp ho)
def B_grid_places_4 (t1 : Int) (t6 : Int) (t7 : Int) (t11 : Int) (t16 : Int) (t17 : Int) (t26 : (List (Int × (Int × (Int × (Int × (Int × Unit))))))) (t27 : Int) (t28 : Int) (r0 : (Int × ((List (Int × (Int × (Int × (Int × (Int × Unit)))))) × Unit))) (r1 : (List (Int × (Int × Unit)))) (r2 : (Int × (Int × Unit))) (m : Nat) (K : AExit → St → Prop) : Prop := (
  condP (decide (t28 < t27))
    (((0 : Int) ≤ t28) ∧
    (t28 < (↑(List.length t26) : Int)) ∧
    ((Prod.fst (List.getD t26 (Int.toNat t28) ((0 : Int), (0 : Int), (0 : Int), (0 : Int), (0 : Int), ())) == t1) = true → (12 : Int) ≠ (0 : Int)) ∧
    ((if (Prod.fst (List.getD t26 (Int.toNat t28) ((0 : Int), (0 : Int), (0 : Int), (0 : Int), (0 : Int), ())) == t1) = true then decide (IntKind.wrap IntKind.i64 (Int.tdiv t7 (12 : Int)) ≥ Prod.fst (Prod.snd (List.getD t26 (Int.toNat t28) ((0 : Int), (0 : Int), (0 : Int), (0 : Int), (0 : Int), ())))) else false) = true → (12 : Int) ≠ (0 : Int)) ∧
    condP (if (if (if (if (Prod.fst (List.getD t26 (Int.toNat t28) ((0 : Int), (0 : Int), (0 : Int), (0 : Int), (0 : Int), ())) == t1) = true then decide (IntKind.wrap IntKind.i64 (Int.tdiv t7 (12 : Int)) ≥ Prod.fst (Prod.snd (List.getD t26 (Int.toNat t28) ((0 : Int), (0 : Int), (0 : Int), (0 : Int), (0 : Int), ())))) else false) = true then decide (IntKind.wrap IntKind.i64 (Int.tdiv t7 (12 : Int)) < IntKind.wrap IntKind.i64 (Prod.fst (Prod.snd (List.getD t26 (Int.toNat t28) ((0 : Int), (0 : Int), (0 : Int), (0 : Int), (0 : Int), ()))) + Prod.fst (Prod.snd (Prod.snd (List.getD t26 (Int.toNat t28) ((0 : Int), (0 : Int), (0 : Int), (0 : Int), (0 : Int), ())))))) else false) = true then decide (t6 ≥ Prod.fst (Prod.snd (Prod.snd (Prod.snd (List.getD t26 (Int.toNat t28) ((0 : Int), (0 : Int), (0 : Int), (0 : Int), (0 : Int), ())))))) else false) = true then decide (t6 < Prod.fst (Prod.snd (Prod.snd (Prod.snd (Prod.snd (List.getD t26 (Int.toNat t28) ((0 : Int), (0 : Int), (0 : Int), (0 : Int), (0 : Int), ()))))))) else false)
      (((List.length r1 + List.length [r2]) * (16 : Nat) ≤ (140737488355328 : Nat)) ∧
      (p_grid_places_4 t1 t6 t7 t11 t16 t17 t26 t27 (IntKind.wrap IntKind.i64 (t28 + (1 : Int))) r0 (List.append r1 [r2]) r2) ∧
      (m_grid_places_4 t1 t6 t7 t11 t16 t17 t26 t27 (IntKind.wrap IntKind.i64 (t28 + (1 : Int))) r0 (List.append r1 [r2]) r2 < m) ∧
      o_grid_places_4 t1 t6 t7 t11 t16 t17 t26 t27 (IntKind.wrap IntKind.i64 (t28 + (1 : Int))) r0 (List.append r1 [r2]) r2 K)
      ((p_grid_places_4 t1 t6 t7 t11 t16 t17 t26 t27 (IntKind.wrap IntKind.i64 (t28 + (1 : Int))) r0 r1 r2) ∧
      (m_grid_places_4 t1 t6 t7 t11 t16 t17 t26 t27 (IntKind.wrap IntKind.i64 (t28 + (1 : Int))) r0 r1 r2 < m) ∧
      o_grid_places_4 t1 t6 t7 t11 t16 t17 t26 t27 (IntKind.wrap IntKind.i64 (t28 + (1 : Int))) r0 r1 r2 K))
    (X_grid_places_4_0 (t1) (t6) (t11) (t16) (t17) (r0) (r1) K))
theorem R_grid_places_4 (t1 : Int) (t6 : Int) (t7 : Int) (t11 : Int) (t16 : Int) (t17 : Int) (t26 : (List (Int × (Int × (Int × (Int × (Int × Unit))))))) (t27 : Int) (t28 : Int) (r0 : (Int × ((List (Int × (Int × (Int × (Int × (Int × Unit)))))) × Unit))) (r1 : (List (Int × (Int × Unit)))) (r2 : (Int × (Int × Unit))) (m : Nat) (K : AExit → St → Prop) : awp E_grid_places (loopAt (bodyOf Try.f90) 4) 4 (roundP E_grid_places 4 L_grid_places_4 m K) (L_grid_places_4.abs (t1, t6, t7, t11, t16, t17, t26, t27, t28, ()) (r0, r1, r2, ())) = B_grid_places_4 t1 t6 t7 t11 t16 t17 t26 t27 t28 r0 r1 r2 m K := by kernel_rfl
theorem I_grid_places_4 (h : ∀ (t1 : Int) (t6 : Int) (t7 : Int) (t11 : Int) (t16 : Int) (t17 : Int) (t26 : (List (Int × (Int × (Int × (Int × (Int × Unit))))))) (t27 : Int) (t28 : Int) (r0 : (Int × ((List (Int × (Int × (Int × (Int × (Int × Unit)))))) × Unit))) (r1 : (List (Int × (Int × Unit)))) (r2 : (Int × (Int × Unit))) (K : AExit → St → Prop), p_grid_places_4 t1 t6 t7 t11 t16 t17 t26 t27 t28 r0 r1 r2 → o_grid_places_4 t1 t6 t7 t11 t16 t17 t26 t27 t28 r0 r1 r2 K → B_grid_places_4 t1 t6 t7 t11 t16 t17 t26 t27 t28 r0 r1 r2 (m_grid_places_4 t1 t6 t7 t11 t16 t17 t26 t27 t28 r0 r1 r2) K) : LoopOK E_grid_places 4 (loopAt (bodyOf Try.f90) 4) L_grid_places_4 :=
  fun x y K hp ho => match x, y, hp, ho with | (t1, t6, t7, t11, t16, t17, t26, t27, t28, ()), (r0, r1, r2, ()), hp, ho => (R_grid_places_4 t1 t6 t7 t11 t16 t17 t26 t27 t28 r0 r1 r2 (m_grid_places_4 t1 t6 t7 t11 t16 t17 t26 t27 t28 r0 r1 r2) K).mpr (h t1 t6 t7 t11 t16 t17 t26 t27 t28 r0 r1 r2 K hp ho)
theorem G_grid_places : loopsAll E_grid_places (loopList (bodyOf Try.f90) 0) = (LoopOK E_grid_places 0 (loopAt (bodyOf Try.f90) 0) L_grid_places_0 ∧ LoopOK E_grid_places 2 (loopAt (bodyOf Try.f90) 2) L_grid_places_2 ∧ LoopOK E_grid_places 4 (loopAt (bodyOf Try.f90) 4) L_grid_places_4 ∧ True) := by kernel_rfl
theorem envok_grid_places (h_grid_pilot : SumOK Try.prog 93 S_grid_pilot) : EnvOK E_grid_places := ⟨sumsOf_ok (List.forall_mem_cons.2 ⟨h_grid_pilot, (fun _ h => nomatch h)⟩), follows⟩
theorem whole_grid_places (h_grid_pilot : SumOK Try.prog 93 S_grid_pilot) (l0 : LoopOK E_grid_places 0 (loopAt (bodyOf Try.f90) 0) L_grid_places_0) (l2 : LoopOK E_grid_places 2 (loopAt (bodyOf Try.f90) 2) L_grid_places_2) (l4 : LoopOK E_grid_places 4 (loopAt (bodyOf Try.f90) 4) L_grid_places_4) (main : ∀ (a0 : (Int × ((List (Int × (Int × (Int × (Int × (Int × Unit)))))) × Unit))) (a1 : Int), (gok a0) → W_grid_places a0 a1) : SumOK Try.prog 90 S_grid_places :=
  fun_sound (E := E_grid_places) (envok_grid_places h_grid_pilot) (fn := Try.f90) (c := bodyOf Try.f90) (ts := [(4, none)]) S_grid_places Try.func90 (body_some (by kernel_rfl)) (by kernel_rfl) (Nat.le_of_ble_eq_true (by kernel_rfl)) (by kernel_rfl) (by kernel_rfl) (G_grid_places.mpr ⟨l0, l2, l4, trivial⟩) (fun x hp => match x, hp with | (a0, a1, ()), hp => (V_grid_places a0 a1).mpr (main a0 a1 hp))
/-! ### grid_Take -/
def L_grid_Take_0 : Lift.Loop := Lift.Loop.mk 47 (u 1 ++ (.v (.ro (.ro (.pair (.int .i64) (.pair (.int .i64) .unit)))) :: (u 7 ++ (.sl 0 :: (u 17 ++ (.sl 1 :: (.v (.int .i64) :: (.v (.int .i64) :: (u 17))))))))) [(0, .row (.pair (.int .i64) (.pair (.int .i64) .unit)) []), (1, .row (.pair (.int .i64) (.pair (.int .i64) .unit)) [])] 2 (fun x y => p_grid_Take_0 x.1 x.2.1 x.2.2.1 y.1 y.2.1) (fun x y => m_grid_Take_0 x.1 x.2.1 x.2.2.1 y.1 y.2.1) (fun x y K => o_grid_Take_0 x.1 x.2.1 x.2.2.1 y.1 y.2.1 K)
noncomputable def E_grid_Take : Env := { P := Try.prog, sum := sumsOf [(32, S_grid_Check), (95, S_grid_Take_1), (94, S_slices_ContainsFunc_api_Point_api_Point), (90, S_grid_places)], nio := 0, head := fun b => if b = 0 then ([1, 9, 27, 28, 29], [(9, (.pair (.int .i64) (.pair (.int .i64) .unit)))]) else ([], []), after := fun _ => none, leave := fun b => if b = 0 then [6, 7, 9] else [], loops := fun b => if b = 0 then some L_grid_Take_0 else none }
def W_grid_Take (a0 : (Int × ((List (Int × (Int × (Int × (Int × (Int × Unit)))))) × Unit))) (a1 : (List (List (Int × (Int × Unit))))) (a2 : Int) : Prop := (
  (True) ∧
  condP (gridErr a0 != (0 : Int))
    ((@List.nil (Int × Int × Unit) = Prod.fst (takeG a0 a1 a2)) ∧
    (gridErr a0 = Prod.snd (takeG a0 a1 a2)) ∧
    True)
    ((((↑(List.length a1) : Int) != (14 : Int)) = false → (↑(List.length a1) : Int) ≤ big ∧ (1 : Int) ≤ Prod.fst a0 ∧ Prod.fst a0 ≤ (12 : Int)) ∧
    condP (if ((↑(List.length a1) : Int) != (14 : Int)) = true then true else decide (badF ((12 : Int) * Prod.fst a0) a1 (0 : Int) ≥ (0 : Int)))
      ((@List.nil (Int × Int × Unit) = Prod.fst (takeG a0 a1 a2)) ∧
      ((3 : Int) = Prod.snd (takeG a0 a1 a2)) ∧
      True)
      ((gok a0) ∧
      (p_grid_Take_0 a1 (↑(List.length (placesI a0 a2)) : Int) (0 : Int) (@List.nil (Int × Int × Unit)) (placesI a0 a2)) ∧
      (@List.nil (Int × Int × Unit) ++ List.map (fun (p : Int × Int × Unit) => getC a1 (Prod.fst (Prod.snd p)) (Prod.fst p)) (List.drop (0 : Nat) (placesI a0 a2)) = Prod.fst (takeG a0 a1 a2)) ∧
      ((0 : Int) = Prod.snd (takeG a0 a1 a2)) ∧
      True)))
theorem V_grid_Take (a0 : (Int × ((List (Int × (Int × (Int × (Int × (Int × Unit)))))) × Unit))) (a1 : (List (List (Int × (Int × Unit))))) (a2 : Int) : awp E_grid_Take (bodyOf Try.f34) 0 (fin Try.prog S_grid_Take (a0, a1, a2, ()) [(6, none), (7, none)] 0) (initSt S_grid_Take.par (a0, a1, a2, ()) 47) = W_grid_Take a0 a1 a2 := by kernel_rfl
def B_grid_Take_0 (t1 : (List (List (Int × (Int × Unit))))) (t28 : Int) (t29 : Int) (r0 : (List (Int × (Int × Unit)))) (r1 : (List (Int × (Int × Unit)))) (m : Nat) (K : AExit → St → Prop) : Prop := (
  condP (decide (t29 < t28))
    (((0 : Int) ≤ t29) ∧
    (t29 < (↑(List.length r1) : Int)) ∧
    ((0 : Int) ≤ Prod.fst (Prod.snd (List.getD r1 (Int.toNat t29) ((0 : Int), (0 : Int), ())))) ∧
    (Prod.fst (Prod.snd (List.getD r1 (Int.toNat t29) ((0 : Int), (0 : Int), ()))) < (↑(List.length t1) : Int)) ∧
    ((0 : Int) ≤ Prod.fst (List.getD r1 (Int.toNat t29) ((0 : Int), (0 : Int), ()))) ∧
    (Prod.fst (List.getD r1 (Int.toNat t29) ((0 : Int), (0 : Int), ())) < (↑(List.length (List.getD t1 (Int.toNat (Prod.fst (Prod.snd (List.getD r1 (Int.toNat t29) ((0 : Int), (0 : Int), ()))))) (@List.nil (Int × Int × Unit)))) : Int)) ∧
    ((List.length r0 + List.length [List.getD (List.getD t1 (Int.toNat (Prod.fst (Prod.snd (List.getD r1 (Int.toNat t29) ((0 : Int), (0 : Int), ()))))) (@List.nil (Int × Int × Unit))) (Int.toNat (Prod.fst (List.getD r1 (Int.toNat t29) ((0 : Int), (0 : Int), ())))) ((0 : Int), (0 : Int), ())]) * (16 : Nat) ≤ (140737488355328 : Nat)) ∧
    (p_grid_Take_0 t1 t28 (IntKind.wrap IntKind.i64 (t29 + (1 : Int))) (List.append r0 [List.getD (List.getD t1 (Int.toNat (Prod.fst (Prod.snd (List.getD r1 (Int.toNat t29) ((0 : Int), (0 : Int), ()))))) (@List.nil (Int × Int × Unit))) (Int.toNat (Prod.fst (List.getD r1 (Int.toNat t29) ((0 : Int), (0 : Int), ())))) ((0 : Int), (0 : Int), ())]) r1) ∧
    (m_grid_Take_0 t1 t28 (IntKind.wrap IntKind.i64 (t29 + (1 : Int))) (List.append r0 [List.getD (List.getD t1 (Int.toNat (Prod.fst (Prod.snd (List.getD r1 (Int.toNat t29) ((0 : Int), (0 : Int), ()))))) (@List.nil (Int × Int × Unit))) (Int.toNat (Prod.fst (List.getD r1 (Int.toNat t29) ((0 : Int), (0 : Int), ())))) ((0 : Int), (0 : Int), ())]) r1 < m) ∧
    o_grid_Take_0 t1 t28 (IntKind.wrap IntKind.i64 (t29 + (1 : Int))) (List.append r0 [List.getD (List.getD t1 (Int.toNat (Prod.fst (Prod.snd (List.getD r1 (Int.toNat t29) ((0 : Int), (0 : Int), ()))))) (@List.nil (Int × Int × Unit))) (Int.toNat (Prod.fst (List.getD r1 (Int.toNat t29) ((0 : Int), (0 : Int), ())))) ((0 : Int), (0 : Int), ())]) r1 K)
    (X_grid_Take_0_0 (r0) K))
theorem R_grid_Take_0 (t1 : (List (List (Int × (Int × Unit))))) (t28 : Int) (t29 : Int) (r0 : (List (Int × (Int × Unit)))) (r1 : (List (Int × (Int × Unit)))) (m : Nat) (K : AExit → St → Prop) : awp E_grid_Take (loopAt (bodyOf Try.f34) 0) 0 (roundP E_grid_Take 0 L_grid_Take_0 m K) (L_grid_Take_0.abs (t1, t28, t29, ()) (r0, r1, ())) = B_grid_Take_0 t1 t28 t29 r0 r1 m K := by kernel_rfl
theorem I_grid_Take_0 (h : ∀ (t1 : (List (List (Int × (Int × Unit))))) (t28 : Int) (t29 : Int) (r0 : (List (Int × (Int × Unit)))) (r1 : (List (Int × (Int × Unit)))) (K : AExit → St → Prop), p_grid_Take_0 t1 t28 t29 r0 r1 → o_grid_Take_0 t1 t28 t29 r0 r1 K → B_grid_Take_0 t1 t28 t29 r0 r1 (m_grid_Take_0 t1 t28 t29 r0 r1) K) : LoopOK E_grid_Take 0 (loopAt (bodyOf Try.f34) 0) L_grid_Take_0 :=
  fun x y K hp ho => match x, y, hp, ho with | (t1, t28, t29, ()), (r0, r1, ()), hp, ho => (R_grid_Take_0 t1 t28 t29 r0 r1 (m_grid_Take_0 t1 t28 t29 r0 r1) K).mpr (h t1 t28 t29 r0 r1 K hp ho)
theorem G_grid_Take : loopsAll E_grid_Take (loopList (bodyOf Try.f34) 0) = (LoopOK E_grid_Take 0 (loopAt (bodyOf Try.f34) 0) L_grid_Take_0 ∧ True) := by kernel_rfl
theorem envok_grid_Take (h_grid_Check : SumOK Try.prog 32 S_grid_Check) (h_grid_Take_1 : SumOK Try.prog 95 S_grid_Take_1) (h_slices_ContainsFunc_api_Point_api_Point : SumOK Try.prog 94 S_slices_ContainsFunc_api_Point_api_Point) (h_grid_places : SumOK Try.prog 90 S_grid_places) : EnvOK E_grid_Take := ⟨sumsOf_ok (List.forall_mem_cons.2 ⟨h_grid_Check, (List.forall_mem_cons.2 ⟨h_grid_Take_1, (List.forall_mem_cons.2 ⟨h_slices_ContainsFunc_api_Point_api_Point, (List.forall_mem_cons.2 ⟨h_grid_places, (fun _ h => nomatch h)⟩)⟩)⟩)⟩), follows⟩
theorem whole_grid_Take (h_grid_Check : SumOK Try.prog 32 S_grid_Check) (h_grid_Take_1 : SumOK Try.prog 95 S_grid_Take_1) (h_slices_ContainsFunc_api_Point_api_Point : SumOK Try.prog 94 S_slices_ContainsFunc_api_Point_api_Point) (h_grid_places : SumOK Try.prog 90 S_grid_places) (l0 : LoopOK E_grid_Take 0 (loopAt (bodyOf Try.f34) 0) L_grid_Take_0) (main : ∀ (a0 : (Int × ((List (Int × (Int × (Int × (Int × (Int × Unit)))))) × Unit))) (a1 : (List (List (Int × (Int × Unit))))) (a2 : Int), ((↑(List.length a1) : Int) ≤ big) → W_grid_Take a0 a1 a2) : SumOK Try.prog 34 S_grid_Take :=
  fun_sound (E := E_grid_Take) (envok_grid_Take h_grid_Check h_grid_Take_1 h_slices_ContainsFunc_api_Point_api_Point h_grid_places) (fn := Try.f34) (c := bodyOf Try.f34) (ts := [(6, none), (7, none)]) S_grid_Take Try.func34 (body_some (by kernel_rfl)) (by kernel_rfl) (Nat.le_of_ble_eq_true (by kernel_rfl)) (by kernel_rfl) (by kernel_rfl) (G_grid_Take.mpr ⟨l0, trivial⟩) (fun x hp => match x, hp with | (a0, a1, a2, ()), hp => (V_grid_Take a0 a1 a2).mpr (main a0 a1 a2 hp))
/-! ### R_PlacesOf -/
def L_R_PlacesOf_0 : Lift.Loop := Lift.Loop.mk 48 (u 1 ++ (.v (.int .i64) :: (.addr 0 :: (u 2 ++ (.sl 1 :: (.v (.int .i64) :: (u 41))))))) [(0, .box (.pair (.int .i64) (.pair (.ro (.pair (.int .i64) (.pair (.int .i64) (.pair (.int .i64) (.pair (.int .i64) (.pair (.int .i64) .unit)))))) .unit)) []), (1, .row (.pair (.int .i64) (.pair (.int .i64) .unit)) [])] 2 (fun x y => p_R_PlacesOf_0 x.1 x.2.1 y.1 y.2.1) (fun x y => m_R_PlacesOf_0 x.1 x.2.1 y.1 y.2.1) (fun x y K => o_R_PlacesOf_0 x.1 x.2.1 y.1 y.2.1 K)
def L_R_PlacesOf_2 : Lift.Loop := Lift.Loop.mk 48 (u 1 ++ (.v (.int .i64) :: (.addr 0 :: (u 2 ++ (.sl 1 :: (.v (.int .i64) :: (.v (.int .i64) :: (u 40)))))))) [(0, .box (.pair (.int .i64) (.pair (.ro (.pair (.int .i64) (.pair (.int .i64) (.pair (.int .i64) (.pair (.int .i64) (.pair (.int .i64) .unit)))))) .unit)) []), (1, .row (.pair (.int .i64) (.pair (.int .i64) .unit)) [])] 2 (fun x y => p_R_PlacesOf_2 x.1 x.2.1 x.2.2.1 y.1 y.2.1) (fun x y => m_R_PlacesOf_2 x.1 x.2.1 x.2.2.1 y.1 y.2.1) (fun x y K => o_R_PlacesOf_2 x.1 x.2.1 x.2.2.1 y.1 y.2.1 K)
noncomputable def E_R_PlacesOf : Env := { P := Try.prog, sum := sumsOf [(89, S_R_Owner), (96, S_R_Pilot)], nio := 0, head := fun b => if b = 2 then ([1, 2, 5, 6, 7, 34, 35, 36, 39, 40, 41], []) else if b = 0 then ([1, 2, 5, 6, 34, 35, 36, 39, 40, 41], [(5, (.pair (.int .i64) (.pair (.int .i64) .unit)))]) else ([], []), after := fun _ => none, leave := fun b => if b = 2 then [1, 2, 4, 5, 6, 34, 35, 36, 39, 40, 41] else if b = 0 then [4, 5] else [], loops := fun b => if b = 2 then some L_R_PlacesOf_2 else if b = 0 then some L_R_PlacesOf_0 else none }
def W_R_PlacesOf (a0 : (Int × ((List (Int × (Int × (Int × (Int × (Int × Unit)))))) × Unit))) (a1 : Int) : Prop := (
  (p_R_PlacesOf_0 a1 (0 : Int) a0 (@List.nil (Int × Int × Unit))) ∧
  (@List.nil (Int × Int × Unit) ++ allG (cellR a0 a1) (tones a0) (0 : Int) (Int.toNat ((14 : Int) - (0 : Int))) = placesR a0 a1) ∧
  True)
theorem V_R_PlacesOf (a0 : (Int × ((List (Int × (Int × (Int × (Int × (Int × Unit)))))) × Unit))) (a1 : Int) : awp E_R_PlacesOf (bodyOf Try.f35) 0 (fin Try.prog S_R_PlacesOf (a0, a1, ()) [(4, none)] 0) (initSt S_R_PlacesOf.par (a0, a1, ()) 48) = W_R_PlacesOf a0 a1 := by kernel_rfl
def B_R_PlacesOf_0 (t1 : Int) (t6 : Int) (r0 : (Int × ((List (Int × (Int × (Int × (Int × (Int × Unit)))))) × Unit))) (r1 : (List (Int × (Int × Unit)))) (m : Nat) (K : AExit → St → Prop) : Prop := (
  condP (decide (t6 < (14 : Int)))
    ((p_R_PlacesOf_2 t1 t6 (0 : Int) r0 r1) ∧
    (p_R_PlacesOf_0 t1 (IntKind.wrap IntKind.i64 (t6 + (1 : Int))) r0 (r1 ++ rowG (cellR r0 t1) t6 (0 : Int) (Int.toNat ((12 : Int) * Prod.fst r0 - (0 : Int))))) ∧
    (m_R_PlacesOf_0 t1 (IntKind.wrap IntKind.i64 (t6 + (1 : Int))) r0 (r1 ++ rowG (cellR r0 t1) t6 (0 : Int) (Int.toNat ((12 : Int) * Prod.fst r0 - (0 : Int)))) < m) ∧
    o_R_PlacesOf_0 t1 (IntKind.wrap IntKind.i64 (t6 + (1 : Int))) r0 (r1 ++ rowG (cellR r0 t1) t6 (0 : Int) (Int.toNat ((12 : Int) * Prod.fst r0 - (0 : Int)))) K)
    (X_R_PlacesOf_0_0 (r1) K))
theorem R_R_PlacesOf_0 (t1 : Int) (t6 : Int) (r0 : (Int × ((List (Int × (Int × (Int × (Int × (Int × Unit)))))) × Unit))) (r1 : (List (Int × (Int × Unit)))) (m : Nat) (K : AExit → St → Prop) : awp E_R_PlacesOf (loopAt (bodyOf Try.f35) 0) 0 (roundP E_R_PlacesOf 0 L_R_PlacesOf_0 m K) (L_R_PlacesOf_0.abs (t1, t6, ()) (r0, r1, ())) = B_R_PlacesOf_0 t1 t6 r0 r1 m K := by kernel_rfl
theorem I_R_PlacesOf_0 (h : ∀ (t1 : Int) (t6 : Int) (r0 : (Int × ((List (Int × (Int × (Int × (Int × (Int × Unit)))))) × Unit))) (r1 : (List (Int × (Int × Unit)))) (K : AExit → St → Prop), p_R_PlacesOf_0 t1 t6 r0 r1 → o_R_PlacesOf_0 t1 t6 r0 r1 K → B_R_PlacesOf_0 t1 t6 r0 r1 (m_R_PlacesOf_0 t1 t6 r0 r1) K) : LoopOK E_R_PlacesOf 0 (loopAt (bodyOf Try.f35) 0) L_R_PlacesOf_0 :=
  fun x y K hp ho => match x, y, hp, ho with | (t1, t6, ()), (r0, r1, ()), hp, ho => (R_R_PlacesOf_0 t1 t6 r0 r1 (m_R_PlacesOf_0 t1 t6 r0 r1) K).mpr (h t1 t6 r0 r1 K hp ho)
def B_R_PlacesOf_2 (t1 : Int) (t6 : Int) (t7 : Int) (r0 : (Int × ((List (Int × (Int × (Int × (Int × (Int × Unit)))))) × Unit))) (r1 : (List (Int × (Int × Unit)))) (m : Nat) (K : AExit → St → Prop) : Prop := (
  condP (decide (t7 < IntKind.wrap IntKind.i64 ((12 : Int) * Prod.fst r0)))
    ((gok r0) ∧
    ((if decide (Prod.snd (owner r0 t7 t6) > (0 : Int)) = true then Prod.fst (owner r0 t7 t6) == t1 else false) = true → True) ∧
    condP (if (if decide (Prod.snd (owner r0 t7 t6) > (0 : Int)) = true then Prod.fst (owner r0 t7 t6) == t1 else false) = true then !pilotB t7 t6 else false)
      (((List.length r1 + List.length [(t7, t6, ())]) * (16 : Nat) ≤ (140737488355328 : Nat)) ∧
      (p_R_PlacesOf_2 t1 t6 (IntKind.wrap IntKind.i64 (t7 + (1 : Int))) r0 (List.append r1 [(t7, t6, ())])) ∧
      (m_R_PlacesOf_2 t1 t6 (IntKind.wrap IntKind.i64 (t7 + (1 : Int))) r0 (List.append r1 [(t7, t6, ())]) < m) ∧
      o_R_PlacesOf_2 t1 t6 (IntKind.wrap IntKind.i64 (t7 + (1 : Int))) r0 (List.append r1 [(t7, t6, ())]) K)
      ((p_R_PlacesOf_2 t1 t6 (IntKind.wrap IntKind.i64 (t7 + (1 : Int))) r0 r1) ∧
      (m_R_PlacesOf_2 t1 t6 (IntKind.wrap IntKind.i64 (t7 + (1 : Int))) r0 r1 < m) ∧
      o_R_PlacesOf_2 t1 t6 (IntKind.wrap IntKind.i64 (t7 + (1 : Int))) r0 r1 K))
    (X_R_PlacesOf_2_0 (t1) (t6) (r0) (r1) K))
theorem R_R_PlacesOf_2 (t1 : Int) (t6 : Int) (t7 : Int) (r0 : (Int × ((List (Int × (Int × (Int × (Int × (Int × Unit)))))) × Unit))) (r1 : (List (Int × (Int × Unit)))) (m : Nat) (K : AExit → St → Prop) : awp E_R_PlacesOf (loopAt (bodyOf Try.f35) 2) 2 (roundP E_R_PlacesOf 2 L_R_PlacesOf_2 m K) (L_R_PlacesOf_2.abs (t1, t6, t7, ()) (r0, r1, ())) = B_R_PlacesOf_2 t1 t6 t7 r0 r1 m K := by kernel_rfl
theorem I_R_PlacesOf_2 (h : ∀ (t1 : Int) (t6 : Int) (t7 : Int) (r0 : (Int × ((List (Int × (Int × (Int × (Int × (Int × Unit)))))) × Unit))) (r1 : (List (Int × (Int × Unit)))) (K : AExit → St → Prop), p_R_PlacesOf_2 t1 t6 t7 r0 r1 → o_R_PlacesOf_2 t1 t6 t7 r0 r1 K → B_R_PlacesOf_2 t1 t6 t7 r0 r1 (m_R_PlacesOf_2 t1 t6 t7 r0 r1) K) : LoopOK E_R_PlacesOf 2 (loopAt (bodyOf Try.f35) 2) L_R_PlacesOf_2 :=
  fun x y K hp ho => match x, y, hp, ho with | (t1, t6, t7, ()), (r0, r1, ()), hp, ho => (R_R_PlacesOf_2 t1 t6 t7 r0 r1 (m_R_PlacesOf_2 t1 t6 t7 r0 r1) K).mpr (h t1 t6 t7 r0 r1 K hp ho)
theorem G_R_PlacesOf : loopsAll E_R_PlacesOf (loopList (bodyOf Try.f35) 0) = (LoopOK E_R_PlacesOf 0 (loopAt (bodyOf Try.f35) 0) L_R_PlacesOf_0 ∧ LoopOK E_R_PlacesOf 2 (loopAt (bodyOf Try.f35) 2) L_R_PlacesOf_2 ∧ True) := by kernel_rfl
theorem envok_R_PlacesOf (h_R_Owner : SumOK Try.prog 89 S_R_Owner) (h_R_Pilot : SumOK Try.prog 96 S_R_Pilot) : EnvOK E_R_PlacesOf := ⟨sumsOf_ok (List.forall_mem_cons.2 ⟨h_R_Owner, (List.forall_mem_cons.2 ⟨h_R_Pilot, (fun _ h => nomatch h)⟩)⟩), follows⟩
theorem whole_R_PlacesOf (h_R_Owner : SumOK Try.prog 89 S_R_Owner) (h_R_Pilot : SumOK Try.prog 96 S_R_Pilot) (l0 : LoopOK E_R_PlacesOf 0 (loopAt (bodyOf Try.f35) 0) L_R_PlacesOf_0) (l2 : LoopOK E_R_PlacesOf 2 (loopAt (bodyOf Try.f35) 2) L_R_PlacesOf_2) (main : ∀ (a0 : (Int × ((List (Int × (Int × (Int × (Int × (Int × Unit)))))) × Unit))) (a1 : Int), (gok a0) → W_R_PlacesOf a0 a1) : SumOK Try.prog 35 S_R_PlacesOf :=
  fun_sound (E := E_R_PlacesOf) (envok_R_PlacesOf h_R_Owner h_R_Pilot) (fn := Try.f35) (c := bodyOf Try.f35) (ts := [(4, none)]) S_R_PlacesOf Try.func35 (body_some (by kernel_rfl)) (by kernel_rfl) (Nat.le_of_ble_eq_true (by kernel_rfl)) (by kernel_rfl) (by kernel_rfl) (G_R_PlacesOf.mpr ⟨l0, l2, trivial⟩) (fun x hp => match x, hp with | (a0, a1, ()), hp => (V_R_PlacesOf a0 a1).mpr (main a0 a1 hp))
/-! ### R_Owner -/
def L_R_Owner_0 : Lift.Loop := Lift.Loop.mk 57 (u 2 ++ (.addr 0 :: (.addr 1 :: (.v (.int .i64) :: (.v (.int .i64) :: (.v (.int .i64) :: (u 50))))))) [(0, .box (.pair (.int .i64) (.pair (.ro (.pair (.int .i64) (.pair (.int .i64) (.pair (.int .i64) (.pair (.int .i64) (.pair (.int .i64) .unit)))))) .unit)) []), (1, .box (.pair (.int .i64) (.pair (.int .i64) .unit)) [])] 2 (fun x y => p_R_Owner_0 x.1 x.2.1 x.2.2.1 y.1 y.2.1) (fun x y => m_R_Owner_0 x.1 x.2.1 x.2.2.1 y.1 y.2.1) (fun x y K => o_R_Owner_0 x.1 x.2.1 x.2.2.1 y.1 y.2.1 K)
noncomputable def E_R_Owner : Env := { P := Try.prog, sum := sumsOf [], nio := 0, head := fun b => if b = 0 then ([2, 3, 4, 5, 6, 26, 27, 28, 29, 30, 33, 34, 35, 36, 37, 38, 41, 42, 43, 44, 45, 46, 47, 48, 49], []) else ([], []), after := fun _ => none, leave := fun b => if b = 0 then [4, 5] else [], loops := fun b => if b = 0 then some L_R_Owner_0 else none }
def W_R_Owner (a0 : (Int × ((List (Int × (Int × (Int × (Int × (Int × Unit)))))) × Unit))) (a1 : (Int × (Int × Unit))) : Prop := (
  (p_R_Owner_0 (0 : Int) (0 : Int) (0 : Int) a0 a1) ∧
  (Prod.fst (ownF (Prod.fst a1) (Prod.fst (Prod.snd a1)) (List.drop (0 : Nat) (Prod.fst (Prod.snd a0))) ((0 : Int), (0 : Int))) = Prod.fst (owner a0 (Prod.fst a1) (Prod.fst (Prod.snd a1)))) ∧
  (Prod.snd (ownF (Prod.fst a1) (Prod.fst (Prod.snd a1)) (List.drop (0 : Nat) (Prod.fst (Prod.snd a0))) ((0 : Int), (0 : Int))) = Prod.snd (owner a0 (Prod.fst a1) (Prod.fst (Prod.snd a1)))) ∧
  True)
theorem V_R_Owner (a0 : (Int × ((List (Int × (Int × (Int × (Int × (Int × Unit)))))) × Unit))) (a1 : (Int × (Int × Unit))) : awp E_R_Owner (bodyOf Try.f89) 0 (fin Try.prog S_R_Owner (a0, a1, ()) [(4, none), (5, none)] 0) (initSt S_R_Owner.par (a0, a1, ()) 57) = W_R_Owner a0 a1 := by kernel_rfl
def B_R_Owner_0 (t4 : Int) (t5 : Int) (t6 : Int) (r0 : (Int × ((List (Int × (Int × (Int × (Int × (Int × Unit)))))) × Unit))) (r1 : (Int × (Int × Unit))) (m : Nat) (K : AExit → St → Prop) : Prop := (
  condP (decide (t6 < (↑(List.length (Prod.fst (Prod.snd r0))) : Int)))
    (((0 : Int) ≤ t6) ∧
    (t6 < (↑(List.length (Prod.fst (Prod.snd r0))) : Int)) ∧
    condP (if (if (if decide (Prod.fst (Prod.snd r1) ≥ Prod.fst (Prod.snd (Prod.snd (Prod.snd (List.getD (Prod.fst (Prod.snd r0)) (Int.toNat t6) ((0 : Int), (0 : Int), (0 : Int), (0 : Int), (0 : Int), ())))))) = true then decide (Prod.fst (Prod.snd r1) < Prod.fst (Prod.snd (Prod.snd (Prod.snd (Prod.snd (List.getD (Prod.fst (Prod.snd r0)) (Int.toNat t6) ((0 : Int), (0 : Int), (0 : Int), (0 : Int), (0 : Int), ()))))))) else false) = true then decide (Prod.fst r1 ≥ IntKind.wrap IntKind.i64 ((12 : Int) * Prod.fst (Prod.snd (List.getD (Prod.fst (Prod.snd r0)) (Int.toNat t6) ((0 : Int), (0 : Int), (0 : Int), (0 : Int), (0 : Int), ()))))) else false) = true then decide (Prod.fst r1 < IntKind.wrap IntKind.i64 ((12 : Int) * IntKind.wrap IntKind.i64 (Prod.fst (Prod.snd (List.getD (Prod.fst (Prod.snd r0)) (Int.toNat t6) ((0 : Int), (0 : Int), (0 : Int), (0 : Int), (0 : Int), ()))) + Prod.fst (Prod.snd (Prod.snd (List.getD (Prod.fst (Prod.snd r0)) (Int.toNat t6) ((0 : Int), (0 : Int), (0 : Int), (0 : Int), (0 : Int), ()))))))) else false)
      ((p_R_Owner_0 (Prod.fst (List.getD (Prod.fst (Prod.snd r0)) (Int.toNat t6) ((0 : Int), (0 : Int), (0 : Int), (0 : Int), (0 : Int), ()))) (IntKind.wrap IntKind.i64 (t5 + (1 : Int))) (IntKind.wrap IntKind.i64 (t6 + (1 : Int))) r0 r1) ∧
      (m_R_Owner_0 (Prod.fst (List.getD (Prod.fst (Prod.snd r0)) (Int.toNat t6) ((0 : Int), (0 : Int), (0 : Int), (0 : Int), (0 : Int), ()))) (IntKind.wrap IntKind.i64 (t5 + (1 : Int))) (IntKind.wrap IntKind.i64 (t6 + (1 : Int))) r0 r1 < m) ∧
      o_R_Owner_0 (Prod.fst (List.getD (Prod.fst (Prod.snd r0)) (Int.toNat t6) ((0 : Int), (0 : Int), (0 : Int), (0 : Int), (0 : Int), ()))) (IntKind.wrap IntKind.i64 (t5 + (1 : Int))) (IntKind.wrap IntKind.i64 (t6 + (1 : Int))) r0 r1 K)
      ((p_R_Owner_0 t4 t5 (IntKind.wrap IntKind.i64 (t6 + (1 : Int))) r0 r1) ∧
      (m_R_Owner_0 t4 t5 (IntKind.wrap IntKind.i64 (t6 + (1 : Int))) r0 r1 < m) ∧
      o_R_Owner_0 t4 t5 (IntKind.wrap IntKind.i64 (t6 + (1 : Int))) r0 r1 K))
    (X_R_Owner_0_0 (t4) (t5) K))
theorem R_R_Owner_0 (t4 : Int) (t5 : Int) (t6 : Int) (r0 : (Int × ((List (Int × (Int × (Int × (Int × (Int × Unit)))))) × Unit))) (r1 : (Int × (Int × Unit))) (m : Nat) (K : AExit → St → Prop) : awp E_R_Owner (loopAt (bodyOf Try.f89) 0) 0 (roundP E_R_Owner 0 L_R_Owner_0 m K) (L_R_Owner_0.abs (t4, t5, t6, ()) (r0, r1, ())) = B_R_Owner_0 t4 t5 t6 r0 r1 m K := by kernel_rfl
theorem I_R_Owner_0 (h : ∀ (t4 : Int) (t5 : Int) (t6 : Int) (r0 : (Int × ((List (Int × (Int × (Int × (Int × (Int × Unit)))))) × Unit))) (r1 : (Int × (Int × Unit))) (K : AExit → St → Prop), p_R_Owner_0 t4 t5 t6 r0 r1 → o_R_Owner_0 t4 t5 t6 r0 r1 K → B_R_Owner_0 t4 t5 t6 r0 r1 (m_R_Owner_0 t4 t5 t6 r0 r1) K) : LoopOK E_R_Owner 0 (loopAt (bodyOf Try.f89) 0) L_R_Owner_0 :=
  fun x y K hp ho => match x, y, hp, ho with | (t4, t5, t6, ()), (r0, r1, ()), hp, ho => (R_R_Owner_0 t4 t5 t6 r0 r1 (m_R_Owner_0 t4 t5 t6 r0 r1) K).mpr (h t4 t5 t6 r0 r1 K hp ho)
theorem G_R_Owner : loopsAll E_R_Owner (loopList (bodyOf Try.f89) 0) = (LoopOK E_R_Owner 0 (loopAt (bodyOf Try.f89) 0) L_R_Owner_0 ∧ True) := by kernel_rfl
theorem envok_R_Owner  : EnvOK E_R_Owner := ⟨sumsOf_ok (fun _ h => nomatch h), follows⟩
theorem whole_R_Owner  (l0 : LoopOK E_R_Owner 0 (loopAt (bodyOf Try.f89) 0) L_R_Owner_0) (main : ∀ (a0 : (Int × ((List (Int × (Int × (Int × (Int × (Int × Unit)))))) × Unit))) (a1 : (Int × (Int × Unit))), (gok a0) → W_R_Owner a0 a1) : SumOK Try.prog 89 S_R_Owner :=
  fun_sound (E := E_R_Owner) (envok_R_Owner ) (fn := Try.f89) (c := bodyOf Try.f89) (ts := [(4, none), (5, none)]) S_R_Owner Try.func89 (body_some (by kernel_rfl)) (by kernel_rfl) (Nat.le_of_ble_eq_true (by kernel_rfl)) (by kernel_rfl) (by kernel_rfl) (G_R_Owner.mpr ⟨l0, trivial⟩) (fun x hp => match x, hp with | (a0, a1, ()), hp => (V_R_Owner a0 a1).mpr (main a0 a1 hp))
/-! ### grid_formed -/
noncomputable def E_grid_formed : Env := { P := Try.prog, sum := sumsOf [], nio := 0, head := fun b => ([], []), after := fun _ => none, leave := fun b => [], loops := fun b => none }
def W_grid_formed (a0 : (Int × (Int × (Int × (Int × (Int × Unit)))))) (a1 : Int) : Prop := (
  ((if (if (if (if (if (if (if (if decide (Prod.fst a0 ≥ (1 : Int)) = true then decide (Prod.fst a0 ≤ (16 : Int)) else false) = true then decide (Prod.fst (Prod.snd a0) ≥ (0 : Int)) else false) = true then decide (Prod.fst (Prod.snd a0) < a1) else false) = true then decide (Prod.fst (Prod.snd (Prod.snd a0)) ≥ (1 : Int)) else false) = true then decide (Prod.fst (Prod.snd (Prod.snd a0)) ≤ IntKind.wrap IntKind.i64 (a1 - Prod.fst (Prod.snd a0))) else false) = true then decide (Prod.fst (Prod.snd (Prod.snd (Prod.snd a0))) ≥ (0 : Int)) else false) = true then decide (Prod.fst (Prod.snd (Prod.snd (Prod.snd a0))) < Prod.fst (Prod.snd (Prod.snd (Prod.snd (Prod.snd a0))))) else false) = true then decide (Prod.fst (Prod.snd (Prod.snd (Prod.snd (Prod.snd a0)))) ≤ (14 : Int)) else false) = formedB a0 a1) ∧
  True)
theorem V_grid_formed (a0 : (Int × (Int × (Int × (Int × (Int × Unit)))))) (a1 : Int) : awp E_grid_formed (bodyOf Try.f91) 0 (fin Try.prog S_grid_formed (a0, a1, ()) [(4, none)] 0) (initSt S_grid_formed.par (a0, a1, ()) 55) = W_grid_formed a0 a1 := by kernel_rfl
theorem G_grid_formed : loopsAll E_grid_formed (loopList (bodyOf Try.f91) 0) = (True) := by kernel_rfl
theorem envok_grid_formed  : EnvOK E_grid_formed := ⟨sumsOf_ok (fun _ h => nomatch h), follows⟩
theorem whole_grid_formed   (main : ∀ (a0 : (Int × (Int × (Int × (Int × (Int × Unit)))))) (a1 : Int), ((1 : Int) ≤ a1 ∧ a1 ≤ (12 : Int)) → W_grid_formed a0 a1) : SumOK Try.prog 91 S_grid_formed :=
  fun_sound (E := E_grid_formed) (envok_grid_formed ) (fn := Try.f91) (c := bodyOf Try.f91) (ts := [(4, none)]) S_grid_formed Try.func91 (body_some (by kernel_rfl)) (by kernel_rfl) (Nat.le_of_ble_eq_true (by kernel_rfl)) (by kernel_rfl) (by kernel_rfl) (G_grid_formed.mpr trivial) (fun x hp => match x, hp with | (a0, a1, ()), hp => (V_grid_formed a0 a1).mpr (main a0 a1 hp))
/-! ### grid_pilot -/
noncomputable def E_grid_pilot : Env := { P := Try.prog, sum := sumsOf [], nio := 0, head := fun b => ([], []), after := fun _ => none, leave := fun b => [], loops := fun b => none }
def W_grid_pilot (a0 : (Int × (Int × Unit))) : Prop := (
  ((if (Prod.fst (Prod.snd a0) == (3 : Int)) = true then true else Prod.fst (Prod.snd a0) == (10 : Int)) = true → (3 : Int) ≠ (0 : Int)) ∧
  ((if (if (Prod.fst (Prod.snd a0) == (3 : Int)) = true then true else Prod.fst (Prod.snd a0) == (10 : Int)) = true then Int.tmod (Prod.fst a0) (3 : Int) == (0 : Int) else false) = pilotB (Prod.fst a0) (Prod.fst (Prod.snd a0))) ∧
  True)
theorem V_grid_pilot (a0 : (Int × (Int × Unit))) : awp E_grid_pilot (bodyOf Try.f93) 0 (fin Try.prog S_grid_pilot (a0, ()) [(2, none)] 0) (initSt S_grid_pilot.par (a0, ()) 17) = W_grid_pilot a0 := by kernel_rfl
theorem G_grid_pilot : loopsAll E_grid_pilot (loopList (bodyOf Try.f93) 0) = (True) := by kernel_rfl
theorem envok_grid_pilot  : EnvOK E_grid_pilot := ⟨sumsOf_ok (fun _ h => nomatch h), follows⟩
theorem whole_grid_pilot   (main : ∀ (a0 : (Int × (Int × Unit))), (True) → W_grid_pilot a0) : SumOK Try.prog 93 S_grid_pilot :=
  fun_sound (E := E_grid_pilot) (envok_grid_pilot ) (fn := Try.f93) (c := bodyOf Try.f93) (ts := [(2, none)]) S_grid_pilot Try.func93 (body_some (by kernel_rfl)) (by kernel_rfl) (Nat.le_of_ble_eq_true (by kernel_rfl)) (by kernel_rfl) (by kernel_rfl) (G_grid_pilot.mpr trivial) (fun x hp => match x, hp with | (a0, ()), hp => (V_grid_pilot a0).mpr (main a0 hp))
/-! ### R_Pilot -/
noncomputable def E_R_Pilot : Env := { P := Try.prog, sum := sumsOf [], nio := 0, head := fun b => ([], []), after := fun _ => none, leave := fun b => [], loops := fun b => none }
def W_R_Pilot (a0 : (Int × (Int × Unit))) : Prop := (
  ((3 : Int) ≠ (0 : Int)) ∧
  ((if (Int.tmod (Prod.fst a0) (3 : Int) == (0 : Int)) = true then if (Prod.fst (Prod.snd a0) == (3 : Int)) = true then true else Prod.fst (Prod.snd a0) == (10 : Int) else false) = pilotB (Prod.fst a0) (Prod.fst (Prod.snd a0))) ∧
  True)
theorem V_R_Pilot (a0 : (Int × (Int × Unit))) : awp E_R_Pilot (bodyOf Try.f96) 0 (fin Try.prog S_R_Pilot (a0, ()) [(2, none)] 0) (initSt S_R_Pilot.par (a0, ()) 17) = W_R_Pilot a0 := by kernel_rfl
theorem G_R_Pilot : loopsAll E_R_Pilot (loopList (bodyOf Try.f96) 0) = (True) := by kernel_rfl
theorem envok_R_Pilot  : EnvOK E_R_Pilot := ⟨sumsOf_ok (fun _ h => nomatch h), follows⟩
theorem whole_R_Pilot   (main : ∀ (a0 : (Int × (Int × Unit))), (True) → W_R_Pilot a0) : SumOK Try.prog 96 S_R_Pilot :=
  fun_sound (E := E_R_Pilot) (envok_R_Pilot ) (fn := Try.f96) (c := bodyOf Try.f96) (ts := [(2, none)]) S_R_Pilot Try.func96 (body_some (by kernel_rfl)) (by kernel_rfl) (Nat.le_of_ble_eq_true (by kernel_rfl)) (by kernel_rfl) (by kernel_rfl) (G_R_Pilot.mpr trivial) (fun x hp => match x, hp with | (a0, ()), hp => (V_R_Pilot a0).mpr (main a0 hp))
/-! ### slices_Max_int_int -/
def L_slices_Max_int_int_0 : Lift.Loop := Lift.Loop.mk 25 (.v (.ro (.int .i64)) :: (u 2 ++ (.v (.int .i64) :: (.v (.int .i64) :: (u 20))))) [] 0 (fun x y => p_slices_Max_int_int_0 x.1 x.2.1 x.2.2.1) (fun x y => m_slices_Max_int_int_0 x.1 x.2.1 x.2.2.1) (fun x y K => o_slices_Max_int_int_0 x.1 x.2.1 x.2.2.1 K)
noncomputable def E_slices_Max_int_int : Env := { P := Try.prog, sum := sumsOf [], nio := 0, head := fun b => if b = 0 then ([0, 3, 4], []) else ([], []), after := fun _ => none, leave := fun b => if b = 0 then [2, 3] else [], loops := fun b => if b = 0 then some L_slices_Max_int_int_0 else none }
def W_slices_Max_int_int (a0 : (List Int)) : Prop := (
  condP (decide ((↑(List.length a0) : Int) < (1 : Int)))
    ((False) ∧
    ((0 : Int) ≤ (0 : Int)) ∧
    ((0 : Int) < (↑(List.length a0) : Int)) ∧
    (p_slices_Max_int_int_0 a0 (List.getD a0 (0 : Nat) (0 : Int)) (1 : Int)) ∧
    (maxF (List.drop (1 : Nat) a0) (List.getD a0 (0 : Nat) (0 : Int)) = maxL a0) ∧
    True)
    (((0 : Int) ≤ (0 : Int)) ∧
    ((0 : Int) < (↑(List.length a0) : Int)) ∧
    (p_slices_Max_int_int_0 a0 (List.getD a0 (0 : Nat) (0 : Int)) (1 : Int)) ∧
    (maxF (List.drop (1 : Nat) a0) (List.getD a0 (0 : Nat) (0 : Int)) = maxL a0) ∧
    True))
theorem V_slices_Max_int_int (a0 : (List Int)) : awp E_slices_Max_int_int (bodyOf Try.f92) 0 (fin Try.prog S_slices_Max_int_int (a0, ()) [(2, none)] 0) (initSt S_slices_Max_int_int.par (a0, ()) 25) = W_slices_Max_int_int a0 := by kernel_rfl
def B_slices_Max_int_int_0 (t0 : (List Int)) (t3 : Int) (t4 : Int) (m : Nat) (K : AExit → St → Prop) : Prop := (
  condP (decide (t4 < (↑(List.length t0) : Int)))
    (((0 : Int) ≤ t4) ∧
    (t4 < (↑(List.length t0) : Int)) ∧
    (p_slices_Max_int_int_0 t0 (lesser true t3 (List.getD t0 (Int.toNat t4) (0 : Int))) (IntKind.wrap IntKind.i64 (t4 + (1 : Int)))) ∧
    (m_slices_Max_int_int_0 t0 (lesser true t3 (List.getD t0 (Int.toNat t4) (0 : Int))) (IntKind.wrap IntKind.i64 (t4 + (1 : Int))) < m) ∧
    o_slices_Max_int_int_0 t0 (lesser true t3 (List.getD t0 (Int.toNat t4) (0 : Int))) (IntKind.wrap IntKind.i64 (t4 + (1 : Int))) K)
    (X_slices_Max_int_int_0_0 (t3) K))
theorem R_slices_Max_int_int_0 (t0 : (List Int)) (t3 : Int) (t4 : Int) (m : Nat) (K : AExit → St → Prop) : awp E_slices_Max_int_int (loopAt (bodyOf Try.f92) 0) 0 (roundP E_slices_Max_int_int 0 L_slices_Max_int_int_0 m K) (L_slices_Max_int_int_0.abs (t0, t3, t4, ()) (())) = B_slices_Max_int_int_0 t0 t3 t4 m K := by kernel_rfl
theorem I_slices_Max_int_int_0 (h : ∀ (t0 : (List Int)) (t3 : Int) (t4 : Int) (K : AExit → St → Prop), p_slices_Max_int_int_0 t0 t3 t4 → o_slices_Max_int_int_0 t0 t3 t4 K → B_slices_Max_int_int_0 t0 t3 t4 (m_slices_Max_int_int_0 t0 t3 t4) K) : LoopOK E_slices_Max_int_int 0 (loopAt (bodyOf Try.f92) 0) L_slices_Max_int_int_0 :=
  fun x y K hp ho => match x, y, hp, ho with | (t0, t3, t4, ()), (), hp, ho => (R_slices_Max_int_int_0 t0 t3 t4 (m_slices_Max_int_int_0 t0 t3 t4) K).mpr (h t0 t3 t4 K hp ho)
theorem G_slices_Max_int_int : loopsAll E_slices_Max_int_int (loopList (bodyOf Try.f92) 0) = (LoopOK E_slices_Max_int_int 0 (loopAt (bodyOf Try.f92) 0) L_slices_Max_int_int_0 ∧ True) := by kernel_rfl
theorem envok_slices_Max_int_int  : EnvOK E_slices_Max_int_int := ⟨sumsOf_ok (fun _ h => nomatch h), follows⟩
theorem whole_slices_Max_int_int  (l0 : LoopOK E_slices_Max_int_int 0 (loopAt (bodyOf Try.f92) 0) L_slices_Max_int_int_0) (main : ∀ (a0 : (List Int)), ((1 : Nat) ≤ List.length a0 ∧ (↑(List.length a0) : Int) ≤ big) → W_slices_Max_int_int a0) : SumOK Try.prog 92 S_slices_Max_int_int :=
  fun_sound (E := E_slices_Max_int_int) (envok_slices_Max_int_int ) (fn := Try.f92) (c := bodyOf Try.f92) (ts := [(2, none)]) S_slices_Max_int_int Try.func92 (body_some (by kernel_rfl)) (by kernel_rfl) (Nat.le_of_ble_eq_true (by kernel_rfl)) (by kernel_rfl) (by kernel_rfl) (G_slices_Max_int_int.mpr ⟨l0, trivial⟩) (fun x hp => match x, hp with | (a0, ()), hp => (V_slices_Max_int_int a0).mpr (main a0 hp))
/-! ### grid_Places -/
noncomputable def E_grid_Places : Env := { P := Try.prog, sum := sumsOf [(32, S_grid_Check), (90, S_grid_places)], nio := 0, head := fun b => ([], []), after := fun _ => none, leave := fun b => [], loops := fun b => none }
def W_grid_Places (a0 : (Int × ((List (Int × (Int × (Int × (Int × (Int × Unit)))))) × Unit))) (a1 : Int) : Prop := (
  (True) ∧
  condP (gridErr a0 != (0 : Int))
    ((@List.nil (Int × Int × Unit) = Prod.fst (placesF a0 a1)) ∧
    (gridErr a0 = Prod.snd (placesF a0 a1)) ∧
    True)
    ((gok a0) ∧
    (placesI a0 a1 = Prod.fst (placesF a0 a1)) ∧
    ((0 : Int) = Prod.snd (placesF a0 a1)) ∧
    True))
theorem V_grid_Places (a0 : (Int × ((List (Int × (Int × (Int × (Int × (Int × Unit)))))) × Unit))) (a1 : Int) : awp E_grid_Places (bodyOf Try.f31) 0 (fin Try.prog S_grid_Places (a0, a1, ()) [(4, none), (5, none)] 0) (initSt S_grid_Places.par (a0, a1, ()) 15) = W_grid_Places a0 a1 := by kernel_rfl
theorem G_grid_Places : loopsAll E_grid_Places (loopList (bodyOf Try.f31) 0) = (True) := by kernel_rfl
theorem envok_grid_Places (h_grid_Check : SumOK Try.prog 32 S_grid_Check) (h_grid_places : SumOK Try.prog 90 S_grid_places) : EnvOK E_grid_Places := ⟨sumsOf_ok (List.forall_mem_cons.2 ⟨h_grid_Check, (List.forall_mem_cons.2 ⟨h_grid_places, (fun _ h => nomatch h)⟩)⟩), follows⟩
theorem whole_grid_Places (h_grid_Check : SumOK Try.prog 32 S_grid_Check) (h_grid_places : SumOK Try.prog 90 S_grid_places)  (main : ∀ (a0 : (Int × ((List (Int × (Int × (Int × (Int × (Int × Unit)))))) × Unit))) (a1 : Int), (True) → W_grid_Places a0 a1) : SumOK Try.prog 31 S_grid_Places :=
  fun_sound (E := E_grid_Places) (envok_grid_Places h_grid_Check h_grid_places) (fn := Try.f31) (c := bodyOf Try.f31) (ts := [(4, none), (5, none)]) S_grid_Places Try.func31 (body_some (by kernel_rfl)) (by kernel_rfl) (Nat.le_of_ble_eq_true (by kernel_rfl)) (by kernel_rfl) (by kernel_rfl) (G_grid_Places.mpr trivial) (fun x hp => match x, hp with | (a0, a1, ()), hp => (V_grid_Places a0 a1).mpr (main a0 a1 hp))
/-! ### grid_Take_1 -/
noncomputable def E_grid_Take_1 : Env := { P := Try.prog, sum := sumsOf [], nio := 0, head := fun b => ([], []), after := fun _ => none, leave := fun b => [], loops := fun b => none }
def W_grid_Take_1 (a0 : (List (Int × (Int × Unit)))) (a1 : (Int × ((List (Int × (Int × (Int × (Int × (Int × Unit)))))) × Unit))) : Prop := (
  (((↑(List.length a0) : Int) != IntKind.wrap IntKind.i64 ((12 : Int) * Prod.fst a1)) = decide ((↑(List.length a0) : Int) ≠ (12 : Int) * Prod.fst a1)) ∧
  True)
theorem V_grid_Take_1 (a0 : (List (Int × (Int × Unit)))) (a1 : (Int × ((List (Int × (Int × (Int × (Int × (Int × Unit)))))) × Unit))) : awp E_grid_Take_1 (bodyOf Try.f95) 0 (fin Try.prog S_grid_Take_1 (a0, a1, ()) [(3, none)] 0) (initSt S_grid_Take_1.par (a0, a1, ()) 10) = W_grid_Take_1 a0 a1 := by kernel_rfl
theorem G_grid_Take_1 : loopsAll E_grid_Take_1 (loopList (bodyOf Try.f95) 0) = (True) := by kernel_rfl
theorem envok_grid_Take_1  : EnvOK E_grid_Take_1 := ⟨sumsOf_ok (fun _ h => nomatch h), follows⟩
theorem whole_grid_Take_1   (main : ∀ (a0 : (List (Int × (Int × Unit)))) (a1 : (Int × ((List (Int × (Int × (Int × (Int × (Int × Unit)))))) × Unit))), ((1 : Int) ≤ Prod.fst a1 ∧ Prod.fst a1 ≤ (12 : Int)) → W_grid_Take_1 a0 a1) : SumOK Try.prog 95 S_grid_Take_1 :=
  fun_sound (E := E_grid_Take_1) (envok_grid_Take_1 ) (fn := Try.f95) (c := bodyOf Try.f95) (ts := [(3, none)]) S_grid_Take_1 Try.func95 (body_some (by kernel_rfl)) (by kernel_rfl) (Nat.le_of_ble_eq_true (by kernel_rfl)) (by kernel_rfl) (by kernel_rfl) (G_grid_Take_1.mpr trivial) (fun x hp => match x, hp with | (a0, a1, ()), hp => (V_grid_Take_1 a0 a1).mpr (main a0 a1 hp))
/-! ### slices_IndexFunc_api_Point_api_Point -/
def L_slices_IndexFunc_api_Point_api_Point_0 : Lift.Loop := Lift.Loop.mk 19 (.v (.ro (.ro (.pair (.int .i64) (.pair (.int .i64) .unit)))) :: (.fnr 95 (.pair (.int .i64) (.pair (.ro (.pair (.int .i64) (.pair (.int .i64) (.pair (.int .i64) (.pair (.int .i64) (.pair (.int .i64) .unit)))))) .unit)) :: (u 5 ++ (.v (.int .i64) :: (.v (.int .i64) :: (u 10)))))) [] 0 (fun x y => p_slices_IndexFunc_api_Point_api_Point_0 x.1 x.2.1 x.2.2.1 x.2.2.2.1) (fun x y => m_slices_IndexFunc_api_Point_api_Point_0 x.1 x.2.1 x.2.2.1 x.2.2.2.1) (fun x y K => o_slices_IndexFunc_api_Point_api_Point_0 x.1 x.2.1 x.2.2.1 x.2.2.2.1 K)
noncomputable def E_slices_IndexFunc_api_Point_api_Point : Env := { P := Try.prog, sum := sumsOf [(95, S_grid_Take_1)], nio := 0, head := fun b => if b = 0 then ([0, 1, 7, 8], []) else ([], []), after := fun _ => none, leave := fun b => if b = 0 then [4] else [], loops := fun b => if b = 0 then some L_slices_IndexFunc_api_Point_api_Point_0 else none }
def W_slices_IndexFunc_api_Point_api_Point (a0 : (List (List (Int × (Int × Unit))))) (a1 : (Int × ((List (Int × (Int × (Int × (Int × (Int × Unit)))))) × Unit))) : Prop := (
  (p_slices_IndexFunc_api_Point_api_Point_0 a0 a1 (↑(List.length a0) : Int) (0 : Int)) ∧
  condP (decide (badF ((12 : Int) * Prod.fst a1) (List.drop (0 : Nat) a0) (0 : Int) ≥ (0 : Int)))
    ((badF ((12 : Int) * Prod.fst a1) (List.drop (0 : Nat) a0) (0 : Int) = badF ((12 : Int) * Prod.fst a1) a0 (0 : Int)) ∧
    True)
    (((-1 : Int) = badF ((12 : Int) * Prod.fst a1) a0 (0 : Int)) ∧
    True))
theorem V_slices_IndexFunc_api_Point_api_Point (a0 : (List (List (Int × (Int × Unit))))) (a1 : (Int × ((List (Int × (Int × (Int × (Int × (Int × Unit)))))) × Unit))) : awp E_slices_IndexFunc_api_Point_api_Point (bodyOf Try.f126) 0 (fin Try.prog S_slices_IndexFunc_api_Point_api_Point (a0, a1, ()) [(4, none)] 0) (initSt S_slices_IndexFunc_api_Point_api_Point.par (a0, a1, ()) 19) = W_slices_IndexFunc_api_Point_api_Point a0 a1 := by kernel_rfl
def B_slices_IndexFunc_api_Point_api_Point_0 (t0 : (List (List (Int × (Int × Unit))))) (t1 : (Int × ((List (Int × (Int × (Int × (Int × (Int × Unit)))))) × Unit))) (t7 : Int) (t8 : Int) (m : Nat) (K : AExit → St → Prop) : Prop := (
  condP (decide (t8 < t7))
    (((0 : Int) ≤ t8) ∧
    (t8 < (↑(List.length t0) : Int)) ∧
    ((1 : Int) ≤ Prod.fst t1 ∧ Prod.fst t1 ≤ (12 : Int)) ∧
    condP (decide ((↑(List.length (List.getD t0 (Int.toNat t8) (@List.nil (Int × Int × Unit)))) : Int) ≠ (12 : Int) * Prod.fst t1))
      (X_slices_IndexFunc_api_Point_api_Point_0_0 (t8) K)
      ((p_slices_IndexFunc_api_Point_api_Point_0 t0 t1 t7 (IntKind.wrap IntKind.i64 (t8 + (1 : Int)))) ∧
      (m_slices_IndexFunc_api_Point_api_Point_0 t0 t1 t7 (IntKind.wrap IntKind.i64 (t8 + (1 : Int))) < m) ∧
      o_slices_IndexFunc_api_Point_api_Point_0 t0 t1 t7 (IntKind.wrap IntKind.i64 (t8 + (1 : Int))) K))
    (X_slices_IndexFunc_api_Point_api_Point_0_1  K))
theorem R_slices_IndexFunc_api_Point_api_Point_0 (t0 : (List (List (Int × (Int × Unit))))) (t1 : (Int × ((List (Int × (Int × (Int × (Int × (Int × Unit)))))) × Unit))) (t7 : Int) (t8 : Int) (m : Nat) (K : AExit → St → Prop) : awp E_slices_IndexFunc_api_Point_api_Point (loopAt (bodyOf Try.f126) 0) 0 (roundP E_slices_IndexFunc_api_Point_api_Point 0 L_slices_IndexFunc_api_Point_api_Point_0 m K) (L_slices_IndexFunc_api_Point_api_Point_0.abs (t0, t1, t7, t8, ()) (())) = B_slices_IndexFunc_api_Point_api_Point_0 t0 t1 t7 t8 m K := by kernel_rfl
theorem I_slices_IndexFunc_api_Point_api_Point_0 (h : ∀ (t0 : (List (List (Int × (Int × Unit))))) (t1 : (Int × ((List (Int × (Int × (Int × (Int × (Int × Unit)))))) × Unit))) (t7 : Int) (t8 : Int) (K : AExit → St → Prop), p_slices_IndexFunc_api_Point_api_Point_0 t0 t1 t7 t8 → o_slices_IndexFunc_api_Point_api_Point_0 t0 t1 t7 t8 K → B_slices_IndexFunc_api_Point_api_Point_0 t0 t1 t7 t8 (m_slices_IndexFunc_api_Point_api_Point_0 t0 t1 t7 t8) K) : LoopOK E_slices_IndexFunc_api_Point_api_Point 0 (loopAt (bodyOf Try.f126) 0) L_slices_IndexFunc_api_Point_api_Point_0 :=
  fun x y K hp ho => match x, y, hp, ho with | (t0, t1, t7, t8, ()), (), hp, ho => (R_slices_IndexFunc_api_Point_api_Point_0 t0 t1 t7 t8 (m_slices_IndexFunc_api_Point_api_Point_0 t0 t1 t7 t8) K).mpr (h t0 t1 t7 t8 K hp ho)
theorem G_slices_IndexFunc_api_Point_api_Point : loopsAll E_slices_IndexFunc_api_Point_api_Point (loopList (bodyOf Try.f126) 0) = (LoopOK E_slices_IndexFunc_api_Point_api_Point 0 (loopAt (bodyOf Try.f126) 0) L_slices_IndexFunc_api_Point_api_Point_0 ∧ True) := by kernel_rfl
theorem envok_slices_IndexFunc_api_Point_api_Point (h_grid_Take_1 : SumOK Try.prog 95 S_grid_Take_1) : EnvOK E_slices_IndexFunc_api_Point_api_Point := ⟨sumsOf_ok (List.forall_mem_cons.2 ⟨h_grid_Take_1, (fun _ h => nomatch h)⟩), follows⟩
theorem whole_slices_IndexFunc_api_Point_api_Point (h_grid_Take_1 : SumOK Try.prog 95 S_grid_Take_1) (l0 : LoopOK E_slices_IndexFunc_api_Point_api_Point 0 (loopAt (bodyOf Try.f126) 0) L_slices_IndexFunc_api_Point_api_Point_0) (main : ∀ (a0 : (List (List (Int × (Int × Unit))))) (a1 : (Int × ((List (Int × (Int × (Int × (Int × (Int × Unit)))))) × Unit))), ((↑(List.length a0) : Int) ≤ big ∧ (1 : Int) ≤ Prod.fst a1 ∧ Prod.fst a1 ≤ (12 : Int)) → W_slices_IndexFunc_api_Point_api_Point a0 a1) : SumOK Try.prog 126 S_slices_IndexFunc_api_Point_api_Point :=
  fun_sound (E := E_slices_IndexFunc_api_Point_api_Point) (envok_slices_IndexFunc_api_Point_api_Point h_grid_Take_1) (fn := Try.f126) (c := bodyOf Try.f126) (ts := [(4, none)]) S_slices_IndexFunc_api_Point_api_Point Try.func126 (body_some (by kernel_rfl)) (by kernel_rfl) (Nat.le_of_ble_eq_true (by kernel_rfl)) (by kernel_rfl) (by kernel_rfl) (G_slices_IndexFunc_api_Point_api_Point.mpr ⟨l0, trivial⟩) (fun x hp => match x, hp with | (a0, a1, ()), hp => (V_slices_IndexFunc_api_Point_api_Point a0 a1).mpr (main a0 a1 hp))
/-! ### slices_ContainsFunc_api_Point_api_Point -/
noncomputable def E_slices_ContainsFunc_api_Point_api_Point : Env := { P := Try.prog, sum := sumsOf [(126, S_slices_IndexFunc_api_Point_api_Point), (95, S_grid_Take_1)], nio := 0, head := fun b => ([], []), after := fun _ => none, leave := fun b => [], loops := fun b => none }
def W_slices_ContainsFunc_api_Point_api_Point (a0 : (List (List (Int × (Int × Unit))))) (a1 : (Int × ((List (Int × (Int × (Int × (Int × (Int × Unit)))))) × Unit))) : Prop := (
  ((↑(List.length a0) : Int) ≤ big ∧ (1 : Int) ≤ Prod.fst a1 ∧ Prod.fst a1 ≤ (12 : Int)) ∧
  (decide (badF ((12 : Int) * Prod.fst a1) a0 (0 : Int) ≥ (0 : Int)) = decide (badF ((12 : Int) * Prod.fst a1) a0 (0 : Int) ≥ (0 : Int))) ∧
  True)
theorem V_slices_ContainsFunc_api_Point_api_Point (a0 : (List (List (Int × (Int × Unit))))) (a1 : (Int × ((List (Int × (Int × (Int × (Int × (Int × Unit)))))) × Unit))) : awp E_slices_ContainsFunc_api_Point_api_Point (bodyOf Try.f94) 0 (fin Try.prog S_slices_ContainsFunc_api_Point_api_Point (a0, a1, ()) [(4, none)] 0) (initSt S_slices_ContainsFunc_api_Point_api_Point.par (a0, a1, ()) 9) = W_slices_ContainsFunc_api_Point_api_Point a0 a1 := by kernel_rfl
theorem G_slices_ContainsFunc_api_Point_api_Point : loopsAll E_slices_ContainsFunc_api_Point_api_Point (loopList (bodyOf Try.f94) 0) = (True) := by kernel_rfl
theorem envok_slices_ContainsFunc_api_Point_api_Point (h_slices_IndexFunc_api_Point_api_Point : SumOK Try.prog 126 S_slices_IndexFunc_api_Point_api_Point) (h_grid_Take_1 : SumOK Try.prog 95 S_grid_Take_1) : EnvOK E_slices_ContainsFunc_api_Point_api_Point := ⟨sumsOf_ok (List.forall_mem_cons.2 ⟨h_slices_IndexFunc_api_Point_api_Point, (List.forall_mem_cons.2 ⟨h_grid_Take_1, (fun _ h => nomatch h)⟩)⟩), follows⟩
theorem whole_slices_ContainsFunc_api_Point_api_Point (h_slices_IndexFunc_api_Point_api_Point : SumOK Try.prog 126 S_slices_IndexFunc_api_Point_api_Point) (h_grid_Take_1 : SumOK Try.prog 95 S_grid_Take_1)  (main : ∀ (a0 : (List (List (Int × (Int × Unit))))) (a1 : (Int × ((List (Int × (Int × (Int × (Int × (Int × Unit)))))) × Unit))), ((↑(List.length a0) : Int) ≤ big ∧ (1 : Int) ≤ Prod.fst a1 ∧ Prod.fst a1 ≤ (12 : Int)) → W_slices_ContainsFunc_api_Point_api_Point a0 a1) : SumOK Try.prog 94 S_slices_ContainsFunc_api_Point_api_Point :=
  fun_sound (E := E_slices_ContainsFunc_api_Point_api_Point) (envok_slices_ContainsFunc_api_Point_api_Point h_slices_IndexFunc_api_Point_api_Point h_grid_Take_1) (fn := Try.f94) (c := bodyOf Try.f94) (ts := [(4, none)]) S_slices_ContainsFunc_api_Point_api_Point Try.func94 (body_some (by kernel_rfl)) (by kernel_rfl) (Nat.le_of_ble_eq_true (by kernel_rfl)) (by kernel_rfl) (by kernel_rfl) (G_slices_ContainsFunc_api_Point_api_Point.mpr trivial) (fun x hp => match x, hp with | (a0, a1, ()), hp => (V_slices_ContainsFunc_api_Point_api_Point a0 a1).mpr (main a0 a1 hp))
/-! ### R_SamePoints -/
def L_R_SamePoints_0 : Lift.Loop := Lift.Loop.mk 26 (.v (.ro (.pair (.int .i64) (.pair (.int .i64) .unit))) :: (.v (.ro (.pair (.int .i64) (.pair (.int .i64) .unit))) :: (u 3 ++ (.v (.int .i64) :: (u 20))))) [] 0 (fun x y => p_R_SamePoints_0 x.1 x.2.1 x.2.2.1) (fun x y => m_R_SamePoints_0 x.1 x.2.1 x.2.2.1) (fun x y K => o_R_SamePoints_0 x.1 x.2.1 x.2.2.1 K)
noncomputable def E_R_SamePoints : Env := { P := Try.prog, sum := sumsOf [], nio := 0, head := fun b => if b = 0 then ([0, 1, 5], []) else ([], []), after := fun _ => none, leave := fun b => if b = 0 then [4] else [], loops := fun b => if b = 0 then some L_R_SamePoints_0 else none }
def W_R_SamePoints (a0 : (List (Int × (Int × Unit)))) (a1 : (List (Int × (Int × Unit)))) : Prop := (
  condP ((↑(List.length a0) : Int) != (↑(List.length a1) : Int))
    ((false = decide (a0 = a1)) ∧
    True)
    ((p_R_SamePoints_0 a0 a1 (0 : Int)) ∧
    condP (decide (List.drop (0 : Nat) a0 = List.drop (0 : Nat) a1))
      ((true = decide (a0 = a1)) ∧
      True)
      ((false = decide (a0 = a1)) ∧
      True)))
theorem V_R_SamePoints (a0 : (List (Int × (Int × Unit)))) (a1 : (List (Int × (Int × Unit)))) : awp E_R_SamePoints (bodyOf Try.f38) 0 (fin Try.prog S_R_SamePoints (a0, a1, ()) [(4, none)] 0) (initSt S_R_SamePoints.par (a0, a1, ()) 26) = W_R_SamePoints a0 a1 := by kernel_rfl
def B_R_SamePoints_0 (t0 : (List (Int × (Int × Unit)))) (t1 : (List (Int × (Int × Unit)))) (t5 : Int) (m : Nat) (K : AExit → St → Prop) : Prop := (
  condP (decide (t5 < (↑(List.length t0) : Int)))
    (((0 : Int) ≤ t5) ∧
    (t5 < (↑(List.length t0) : Int)) ∧
    ((0 : Int) ≤ t5) ∧
    (t5 < (↑(List.length t1) : Int)) ∧
    condP (!(Prod.fst (List.getD t0 (Int.toNat t5) ((0 : Int), (0 : Int), ())) == Prod.fst (List.getD t1 (Int.toNat t5) ((0 : Int), (0 : Int), ())) && (Prod.fst (Prod.snd (List.getD t0 (Int.toNat t5) ((0 : Int), (0 : Int), ()))) == Prod.fst (Prod.snd (List.getD t1 (Int.toNat t5) ((0 : Int), (0 : Int), ()))) && true)))
      (X_R_SamePoints_0_0 (false) K)
      ((p_R_SamePoints_0 t0 t1 (IntKind.wrap IntKind.i64 (t5 + (1 : Int)))) ∧
      (m_R_SamePoints_0 t0 t1 (IntKind.wrap IntKind.i64 (t5 + (1 : Int))) < m) ∧
      o_R_SamePoints_0 t0 t1 (IntKind.wrap IntKind.i64 (t5 + (1 : Int))) K))
    (X_R_SamePoints_0_1  K))
theorem R_R_SamePoints_0 (t0 : (List (Int × (Int × Unit)))) (t1 : (List (Int × (Int × Unit)))) (t5 : Int) (m : Nat) (K : AExit → St → Prop) : awp E_R_SamePoints (loopAt (bodyOf Try.f38) 0) 0 (roundP E_R_SamePoints 0 L_R_SamePoints_0 m K) (L_R_SamePoints_0.abs (t0, t1, t5, ()) (())) = B_R_SamePoints_0 t0 t1 t5 m K := by kernel_rfl
theorem I_R_SamePoints_0 (h : ∀ (t0 : (List (Int × (Int × Unit)))) (t1 : (List (Int × (Int × Unit)))) (t5 : Int) (K : AExit → St → Prop), p_R_SamePoints_0 t0 t1 t5 → o_R_SamePoints_0 t0 t1 t5 K → B_R_SamePoints_0 t0 t1 t5 (m_R_SamePoints_0 t0 t1 t5) K) : LoopOK E_R_SamePoints 0 (loopAt (bodyOf Try.f38) 0) L_R_SamePoints_0 :=
  fun x y K hp ho => match x, y, hp, ho with | (t0, t1, t5, ()), (), hp, ho => (R_R_SamePoints_0 t0 t1 t5 (m_R_SamePoints_0 t0 t1 t5) K).mpr (h t0 t1 t5 K hp ho)
theorem G_R_SamePoints : loopsAll E_R_SamePoints (loopList (bodyOf Try.f38) 0) = (LoopOK E_R_SamePoints 0 (loopAt (bodyOf Try.f38) 0) L_R_SamePoints_0 ∧ True) := by kernel_rfl
theorem envok_R_SamePoints  : EnvOK E_R_SamePoints := ⟨sumsOf_ok (fun _ h => nomatch h), follows⟩
theorem whole_R_SamePoints  (l0 : LoopOK E_R_SamePoints 0 (loopAt (bodyOf Try.f38) 0) L_R_SamePoints_0) (main : ∀ (a0 : (List (Int × (Int × Unit)))) (a1 : (List (Int × (Int × Unit)))), ((↑(List.length a0) : Int) ≤ big) → W_R_SamePoints a0 a1) : SumOK Try.prog 38 S_R_SamePoints :=
  fun_sound (E := E_R_SamePoints) (envok_R_SamePoints ) (fn := Try.f38) (c := bodyOf Try.f38) (ts := [(4, none)]) S_R_SamePoints Try.func38 (body_some (by kernel_rfl)) (by kernel_rfl) (Nat.le_of_ble_eq_true (by kernel_rfl)) (by kernel_rfl) (by kernel_rfl) (G_R_SamePoints.mpr ⟨l0, trivial⟩) (fun x hp => match x, hp with | (a0, a1, ()), hp => (V_R_SamePoints a0 a1).mpr (main a0 a1 hp))
end Go.Spec
