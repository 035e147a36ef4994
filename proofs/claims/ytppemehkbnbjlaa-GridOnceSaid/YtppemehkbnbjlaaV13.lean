/- The runs of the functions, told. -/
import Derived.Test.YtppemehkbnbjlaaLF
import Derived.Test.YtppemehkbnbjlaaProg
import Derived.Test.YtppemehkbnbjlaaS13
import Derived.Test.YtppemehkbnbjlaaV12
set_option linter.unusedVariables false
set_option linter.unusedSimpArgs false
namespace Go.Spec
open Go Go.Lift Go.Proofs
attribute [local irreducible] Go.Lift.awp
/-! ### law_laid -/
def L_law_laid_0 : Lift.Loop := Lift.Loop.mk 160 (u 1 ++ (.v (.ro (.pair (.int .i64) (.pair (.ro (.pair (.int .i64) (.pair (.int .i64) .unit))) .unit))) :: (.v (.ro (.ro (.pair (.int .i64) (.pair (.int .i64) .unit)))) :: (.v (.int .i64) :: (.addr 0 :: (u 4 ++ (.v (.int .i64) :: (u 150)))))))) [(0, .box (.pair (.int .i64) (.pair (.ro (.pair (.int .i64) (.pair (.int .i64) (.pair (.int .i64) (.pair (.int .i64) (.pair (.int .i64) .unit)))))) .unit)) [])] 1 (fun x y => p_law_laid_0 x.1 x.2.1 x.2.2.1 x.2.2.2.1 y.1) (fun x y => m_law_laid_0 x.1 x.2.1 x.2.2.1 x.2.2.2.1 y.1) (fun x y K => o_law_laid_0 x.1 x.2.1 x.2.2.1 x.2.2.2.1 y.1 K)
def L_law_laid_2 : Lift.Loop := Lift.Loop.mk 160 (u 1 ++ (.v (.ro (.pair (.int .i64) (.pair (.ro (.pair (.int .i64) (.pair (.int .i64) .unit))) .unit))) :: (.v (.ro (.ro (.pair (.int .i64) (.pair (.int .i64) .unit)))) :: (.v (.int .i64) :: (.addr 0 :: (u 4 ++ (.v (.int .i64) :: (.v (.int .i64) :: (u 149))))))))) [(0, .box (.pair (.int .i64) (.pair (.ro (.pair (.int .i64) (.pair (.int .i64) (.pair (.int .i64) (.pair (.int .i64) (.pair (.int .i64) .unit)))))) .unit)) [])] 1 (fun x y => p_law_laid_2 x.1 x.2.1 x.2.2.1 x.2.2.2.1 x.2.2.2.2.1 y.1) (fun x y => m_law_laid_2 x.1 x.2.1 x.2.2.1 x.2.2.2.1 x.2.2.2.2.1 y.1) (fun x y K => o_law_laid_2 x.1 x.2.1 x.2.2.1 x.2.2.2.1 x.2.2.2.2.1 y.1 K)
def L_law_laid_4 : Lift.Loop := Lift.Loop.mk 160 (u 1 ++ (.v (.ro (.pair (.int .i64) (.pair (.ro (.pair (.int .i64) (.pair (.int .i64) .unit))) .unit))) :: (.v (.ro (.ro (.pair (.int .i64) (.pair (.int .i64) .unit)))) :: (.v (.int .i64) :: (.addr 0 :: (u 6 ++ (.v (.int .i64) :: (u 148)))))))) [(0, .box (.pair (.int .i64) (.pair (.ro (.pair (.int .i64) (.pair (.int .i64) (.pair (.int .i64) (.pair (.int .i64) (.pair (.int .i64) .unit)))))) .unit)) [])] 1 (fun x y => p_law_laid_4 x.1 x.2.1 x.2.2.1 x.2.2.2.1 y.1) (fun x y => m_law_laid_4 x.1 x.2.1 x.2.2.1 x.2.2.2.1 y.1) (fun x y K => o_law_laid_4 x.1 x.2.1 x.2.2.1 x.2.2.2.1 y.1 K)
def L_law_laid_6 : Lift.Loop := Lift.Loop.mk 160 (u 1 ++ (.v (.ro (.pair (.int .i64) (.pair (.ro (.pair (.int .i64) (.pair (.int .i64) .unit))) .unit))) :: (.v (.ro (.ro (.pair (.int .i64) (.pair (.int .i64) .unit)))) :: (u 1 ++ (.addr 0 :: (u 7 ++ (.mp 1 :: (.v (.int .i64) :: (u 146))))))))) [(0, .box (.pair (.int .i64) (.pair (.ro (.pair (.int .i64) (.pair (.int .i64) (.pair (.int .i64) (.pair (.int .i64) (.pair (.int .i64) .unit)))))) .unit)) []), (1, .mp (.int .i64) (.int .i64) [])] 2 (fun x y => p_law_laid_6 x.1 x.2.1 x.2.2.1 y.1 y.2.1) (fun x y => m_law_laid_6 x.1 x.2.1 x.2.2.1 y.1 y.2.1) (fun x y K => o_law_laid_6 x.1 x.2.1 x.2.2.1 y.1 y.2.1 K)
def L_law_laid_8 : Lift.Loop := Lift.Loop.mk 160 (u 1 ++ (.v (.ro (.pair (.int .i64) (.pair (.ro (.pair (.int .i64) (.pair (.int .i64) .unit))) .unit))) :: (.v (.ro (.ro (.pair (.int .i64) (.pair (.int .i64) .unit)))) :: (u 1 ++ (.addr 0 :: (u 7 ++ (.mp 1 :: (.v (.int .i64) :: (.v (.int .i64) :: (u 145)))))))))) [(0, .box (.pair (.int .i64) (.pair (.ro (.pair (.int .i64) (.pair (.int .i64) (.pair (.int .i64) (.pair (.int .i64) (.pair (.int .i64) .unit)))))) .unit)) []), (1, .mp (.int .i64) (.int .i64) [])] 2 (fun x y => p_law_laid_8 x.1 x.2.1 x.2.2.1 x.2.2.2.1 y.1 y.2.1) (fun x y => m_law_laid_8 x.1 x.2.1 x.2.2.1 x.2.2.2.1 y.1 y.2.1) (fun x y K => o_law_laid_8 x.1 x.2.1 x.2.2.1 x.2.2.2.1 y.1 y.2.1 K)
def L_law_laid_10 : Lift.Loop := Lift.Loop.mk 160 (u 1 ++ (.v (.ro (.pair (.int .i64) (.pair (.ro (.pair (.int .i64) (.pair (.int .i64) .unit))) .unit))) :: (.v (.ro (.ro (.pair (.int .i64) (.pair (.int .i64) .unit)))) :: (u 1 ++ (.addr 0 :: (u 7 ++ (.mp 1 :: (.v (.int .i64) :: (.v (.int .i64) :: (u 1 ++ (.addr 2 :: (.v (.int .i64) :: (u 1 ++ (.v (.int .i64) :: (u 140))))))))))))))) [(0, .box (.pair (.int .i64) (.pair (.ro (.pair (.int .i64) (.pair (.int .i64) (.pair (.int .i64) (.pair (.int .i64) (.pair (.int .i64) .unit)))))) .unit)) []), (1, .mp (.int .i64) (.int .i64) []), (2, .box (.pair (.int .i64) (.pair (.int .i64) .unit)) [])] 3 (fun x y => p_law_laid_10 x.1 x.2.1 x.2.2.1 x.2.2.2.1 x.2.2.2.2.1 x.2.2.2.2.2.1 y.1 y.2.1 y.2.2.1) (fun x y => m_law_laid_10 x.1 x.2.1 x.2.2.1 x.2.2.2.1 x.2.2.2.2.1 x.2.2.2.2.2.1 y.1 y.2.1 y.2.2.1) (fun x y K => o_law_laid_10 x.1 x.2.1 x.2.2.1 x.2.2.2.1 x.2.2.2.2.1 x.2.2.2.2.2.1 y.1 y.2.1 y.2.2.1 K)
noncomputable def E_law_laid : Env := { P := Try.prog, sum := sumsOf [(35, S_R_PlacesOf), (96, S_R_Pilot), (89, S_R_Owner)], nio := 0, head := fun b => if b = 10 then ([1, 2, 4, 12, 13, 14, 16, 17, 19], []) else if b = 8 then ([1, 2, 4, 12, 13, 14], []) else if b = 6 then ([1, 2, 4, 12, 13], []) else if b = 4 then ([1, 2, 3, 4, 11, 73, 74, 75, 80, 81, 82], []) else if b = 2 then ([1, 2, 3, 4, 9, 10, 45, 46, 47, 73, 74, 75, 80, 81, 82], []) else if b = 0 then ([1, 2, 3, 4, 9, 45, 46, 47, 73, 74, 75, 80, 81, 82], []) else ([], []), after := fun _ => none, leave := fun b => if b = 10 then [1, 2, 4, 8, 12, 13, 14, 16, 17] else if b = 8 then [1, 2, 4, 8, 12, 13] else if b = 6 then [8] else if b = 4 then [1, 2, 3, 4, 8, 80, 81, 82] else if b = 2 then [1, 2, 3, 4, 8, 9, 45, 46, 47, 73, 74, 75, 80, 81, 82] else if b = 0 then [1, 2, 3, 4, 8, 73, 74, 75, 80, 81, 82] else [], loops := fun b => if b = 10 then some L_law_laid_10 else if b = 8 then some L_law_laid_8 else if b = 6 then some L_law_laid_6 else if b = 4 then some L_law_laid_4 else if b = 2 then some L_law_laid_2 else if b = 0 then some L_law_laid_0 else none }
def W_law_laid (a0 : (Int × ((List (Int × (Int × (Int × (Int × (Int × Unit)))))) × Unit))) (a1 : (List (Int × ((List (Int × (Int × Unit))) × Unit)))) (a2 : (List (List (Int × (Int × Unit))))) (a3 : Int) : Prop := (
  (p_law_laid_0 a1 a2 a3 (0 : Int) a0) ∧
  condP (dupB a1)
    ((true = true) ∧
    True)
    ((p_law_laid_4 a1 a2 a3 (0 : Int) a0) ∧
    condP (matchB a0 (List.drop (0 : Nat) a1))
      (condP (if (a3 != (0 : Int)) = true then true else (↑(List.length a2) : Int) != (14 : Int))
        ((false = true) ∧
        True)
        ((p_law_laid_6 a1 a2 (0 : Int) a0 (some (@List.nil (Int × Int)))) ∧
        (true = true) ∧
        True))
      ((true = true) ∧
      True)))
theorem V_law_laid (a0 : (Int × ((List (Int × (Int × (Int × (Int × (Int × Unit)))))) × Unit))) (a1 : (List (Int × ((List (Int × (Int × Unit))) × Unit)))) (a2 : (List (List (Int × (Int × Unit))))) (a3 : Int) : awp E_law_laid (bodyOf Try.f36) 0 (fin Try.prog S_law_laid (a0, a1, a2, a3, ()) [(8, none)] 0) (initSt S_law_laid.par (a0, a1, a2, a3, ()) 160) = W_law_laid a0 a1 a2 a3 := by kernel_rfl
def B_law_laid_0 (t1 : (List (Int × ((List (Int × (Int × Unit))) × Unit)))) (t2 : (List (List (Int × (Int × Unit))))) (t3 : Int) (t9 : Int) (r0 : (Int × ((List (Int × (Int × (Int × (Int × (Int × Unit)))))) × Unit))) (m : Nat) (K : AExit → St → Prop) : Prop := (
  condP (decide (t9 < (↑(List.length t1) : Int)))
    ((p_law_laid_2 t1 t2 t3 t9 (0 : Int) r0) ∧
    condP (decide (Prod.fst (List.getD t1 (Int.toNat t9) paZ) ∈ List.map (fun (x : Int × List (Int × Int × Unit) × Unit) => Prod.fst x) (List.take (Int.toNat t9) t1)))
      (X_law_laid_0_0 (t1) (t2) (t3) (true) (r0) K)
      ((p_law_laid_0 t1 t2 t3 (IntKind.wrap IntKind.i64 (t9 + (1 : Int))) r0) ∧
      (m_law_laid_0 t1 t2 t3 (IntKind.wrap IntKind.i64 (t9 + (1 : Int))) r0 < m) ∧
      o_law_laid_0 t1 t2 t3 (IntKind.wrap IntKind.i64 (t9 + (1 : Int))) r0 K))
    (X_law_laid_0_1 (t1) (t2) (t3) (r0) K))
theorem R_law_laid_0 (t1 : (List (Int × ((List (Int × (Int × Unit))) × Unit)))) (t2 : (List (List (Int × (Int × Unit))))) (t3 : Int) (t9 : Int) (r0 : (Int × ((List (Int × (Int × (Int × (Int × (Int × Unit)))))) × Unit))) (m : Nat) (K : AExit → St → Prop) : awp E_law_laid (loopAt (bodyOf Try.f36) 0) 0 (roundP E_law_laid 0 L_law_laid_0 m K) (L_law_laid_0.abs (t1, t2, t3, t9, ()) (r0, ())) = B_law_laid_0 t1 t2 t3 t9 r0 m K := by kernel_rfl
theorem I_law_laid_0 (h : ∀ (t1 : (List (Int × ((List (Int × (Int × Unit))) × Unit)))) (t2 : (List (List (Int × (Int × Unit))))) (t3 : Int) (t9 : Int) (r0 : (Int × ((List (Int × (Int × (Int × (Int × (Int × Unit)))))) × Unit))) (K : AExit → St → Prop), p_law_laid_0 t1 t2 t3 t9 r0 → o_law_laid_0 t1 t2 t3 t9 r0 K → B_law_laid_0 t1 t2 t3 t9 r0 (m_law_laid_0 t1 t2 t3 t9 r0) K) : LoopOK E_law_laid 0 (loopAt (bodyOf Try.f36) 0) L_law_laid_0 :=
  fun x y K hp ho => match x, y, hp, ho with | (t1, t2, t3, t9, ()), (r0, ()), hp, ho => (R_law_laid_0 t1 t2 t3 t9 r0 (m_law_laid_0 t1 t2 t3 t9 r0) K).mpr (h t1 t2 t3 t9 r0 K hp ho)
def B_law_laid_2 (t1 : (List (Int × ((List (Int × (Int × Unit))) × Unit)))) (t2 : (List (List (Int × (Int × Unit))))) (t3 : Int) (t9 : Int) (t10 : Int) (r0 : (Int × ((List (Int × (Int × (Int × (Int × (Int × Unit)))))) × Unit))) (m : Nat) (K : AExit → St → Prop) : Prop := (
  condP (decide (t10 < t9))
    (((0 : Int) ≤ t9) ∧
    (t9 < (↑(List.length t1) : Int)) ∧
    ((0 : Int) ≤ t10) ∧
    (t10 < (↑(List.length t1) : Int)) ∧
    condP (Prod.fst (List.getD t1 (Int.toNat t9) ((0 : Int), @List.nil (Int × Int × Unit), ())) == Prod.fst (List.getD t1 (Int.toNat t10) ((0 : Int), @List.nil (Int × Int × Unit), ())))
      (X_law_laid_2_0 (t1) (t2) (t3) (if (t3 == (1 : Int)) = true then (↑(List.length t2) : Int) == (0 : Int) else false) (t9) (r0) K)
      ((p_law_laid_2 t1 t2 t3 t9 (IntKind.wrap IntKind.i64 (t10 + (1 : Int))) r0) ∧
      (m_law_laid_2 t1 t2 t3 t9 (IntKind.wrap IntKind.i64 (t10 + (1 : Int))) r0 < m) ∧
      o_law_laid_2 t1 t2 t3 t9 (IntKind.wrap IntKind.i64 (t10 + (1 : Int))) r0 K))
    (X_law_laid_2_1 (t1) (t2) (t3) (t9) (r0) K))
theorem R_law_laid_2 (t1 : (List (Int × ((List (Int × (Int × Unit))) × Unit)))) (t2 : (List (List (Int × (Int × Unit))))) (t3 : Int) (t9 : Int) (t10 : Int) (r0 : (Int × ((List (Int × (Int × (Int × (Int × (Int × Unit)))))) × Unit))) (m : Nat) (K : AExit → St → Prop) : awp E_law_laid (loopAt (bodyOf Try.f36) 2) 2 (roundP E_law_laid 2 L_law_laid_2 m K) (L_law_laid_2.abs (t1, t2, t3, t9, t10, ()) (r0, ())) = B_law_laid_2 t1 t2 t3 t9 t10 r0 m K := by kernel_rfl
theorem I_law_laid_2 (h : ∀ (t1 : (List (Int × ((List (Int × (Int × Unit))) × Unit)))) (t2 : (List (List (Int × (Int × Unit))))) (t3 : Int) (t9 : Int) (t10 : Int) (r0 : (Int × ((List (Int × (Int × (Int × (Int × (Int × Unit)))))) × Unit))) (K : AExit → St → Prop), p_law_laid_2 t1 t2 t3 t9 t10 r0 → o_law_laid_2 t1 t2 t3 t9 t10 r0 K → B_law_laid_2 t1 t2 t3 t9 t10 r0 (m_law_laid_2 t1 t2 t3 t9 t10 r0) K) : LoopOK E_law_laid 2 (loopAt (bodyOf Try.f36) 2) L_law_laid_2 :=
  fun x y K hp ho => match x, y, hp, ho with | (t1, t2, t3, t9, t10, ()), (r0, ()), hp, ho => (R_law_laid_2 t1 t2 t3 t9 t10 r0 (m_law_laid_2 t1 t2 t3 t9 t10 r0) K).mpr (h t1 t2 t3 t9 t10 r0 K hp ho)
def B_law_laid_4 (t1 : (List (Int × ((List (Int × (Int × Unit))) × Unit)))) (t2 : (List (List (Int × (Int × Unit))))) (t3 : Int) (t11 : Int) (r0 : (Int × ((List (Int × (Int × (Int × (Int × (Int × Unit)))))) × Unit))) (m : Nat) (K : AExit → St → Prop) : Prop := (
  condP (decide (t11 < (↑(List.length t1) : Int)))
    (((0 : Int) ≤ t11) ∧
    (t11 < (↑(List.length t1) : Int)) ∧
    ((0 : Int) ≤ t11) ∧
    (t11 < (↑(List.length t1) : Int)) ∧
    (gok r0) ∧
    condP ((↑(List.length (Prod.fst (Prod.snd (List.getD t1 (Int.toNat t11) ((0 : Int), @List.nil (Int × Int × Unit), ()))))) : Int) != (↑(List.length (placesR r0 (Prod.fst (List.getD t1 (Int.toNat t11) ((0 : Int), @List.nil (Int × Int × Unit), ()))))) : Int))
      (X_law_laid_4_0 (t1) (t2) (t3) (if (t3 == (3 : Int)) = true then (↑(List.length t2) : Int) == (0 : Int) else false) (r0) K)
      ((p_law_laid_4 t1 t2 t3 (IntKind.wrap IntKind.i64 (t11 + (1 : Int))) r0) ∧
      (m_law_laid_4 t1 t2 t3 (IntKind.wrap IntKind.i64 (t11 + (1 : Int))) r0 < m) ∧
      o_law_laid_4 t1 t2 t3 (IntKind.wrap IntKind.i64 (t11 + (1 : Int))) r0 K))
    (X_law_laid_4_1 (t1) (t2) (t3) (r0) K))
theorem R_law_laid_4 (t1 : (List (Int × ((List (Int × (Int × Unit))) × Unit)))) (t2 : (List (List (Int × (Int × Unit))))) (t3 : Int) (t11 : Int) (r0 : (Int × ((List (Int × (Int × (Int × (Int × (Int × Unit)))))) × Unit))) (m : Nat) (K : AExit → St → Prop) : awp E_law_laid (loopAt (bodyOf Try.f36) 4) 4 (roundP E_law_laid 4 L_law_laid_4 m K) (L_law_laid_4.abs (t1, t2, t3, t11, ()) (r0, ())) = B_law_laid_4 t1 t2 t3 t11 r0 m K := by kernel_rfl
theorem I_law_laid_4 (h : ∀ (t1 : (List (Int × ((List (Int × (Int × Unit))) × Unit)))) (t2 : (List (List (Int × (Int × Unit))))) (t3 : Int) (t11 : Int) (r0 : (Int × ((List (Int × (Int × (Int × (Int × (Int × Unit)))))) × Unit))) (K : AExit → St → Prop), p_law_laid_4 t1 t2 t3 t11 r0 → o_law_laid_4 t1 t2 t3 t11 r0 K → B_law_laid_4 t1 t2 t3 t11 r0 (m_law_laid_4 t1 t2 t3 t11 r0) K) : LoopOK E_law_laid 4 (loopAt (bodyOf Try.f36) 4) L_law_laid_4 :=
  fun x y K hp ho => match x, y, hp, ho with | (t1, t2, t3, t11, ()), (r0, ()), hp, ho => (R_law_laid_4 t1 t2 t3 t11 r0 (m_law_laid_4 t1 t2 t3 t11 r0) K).mpr (h t1 t2 t3 t11 r0 K hp ho)
def B_law_laid_6 (t1 : (List (Int × ((List (Int × (Int × Unit))) × Unit)))) (t2 : (List (List (Int × (Int × Unit))))) (t13 : Int) (r0 : (Int × ((List (Int × (Int × (Int × (Int × (Int × Unit)))))) × Unit))) (r1 : (Option (List (Int × Int)))) (m : Nat) (K : AExit → St → Prop) : Prop := (
  condP (decide (t13 < (14 : Int)))
    (((0 : Int) ≤ t13) ∧
    (t13 < (↑(List.length t2) : Int)) ∧
    condP ((↑(List.length (List.getD t2 (Int.toNat t13) (@List.nil (Int × Int × Unit)))) : Int) != IntKind.wrap IntKind.i64 ((12 : Int) * Prod.fst r0))
      (X_law_laid_6_0 (false) K)
      ((p_law_laid_8 t1 t2 t13 (0 : Int) r0 r1) ∧
      ∀ es' : List (Int × Int), (seenL (some es') r0 (t13 + (1 : Int)) (0 : Int)) →
       (p_law_laid_6 t1 t2 (IntKind.wrap IntKind.i64 (t13 + (1 : Int))) r0 (some es')) ∧
       (m_law_laid_6 t1 t2 (IntKind.wrap IntKind.i64 (t13 + (1 : Int))) r0 (some es') < m) ∧
       o_law_laid_6 t1 t2 (IntKind.wrap IntKind.i64 (t13 + (1 : Int))) r0 (some es') K))
    (X_law_laid_6_1  K))
theorem R_law_laid_6 (t1 : (List (Int × ((List (Int × (Int × Unit))) × Unit)))) (t2 : (List (List (Int × (Int × Unit))))) (t13 : Int) (r0 : (Int × ((List (Int × (Int × (Int × (Int × (Int × Unit)))))) × Unit))) (r1 : (Option (List (Int × Int)))) (m : Nat) (K : AExit → St → Prop) : awp E_law_laid (loopAt (bodyOf Try.f36) 6) 6 (roundP E_law_laid 6 L_law_laid_6 m K) (L_law_laid_6.abs (t1, t2, t13, ()) (r0, r1, ())) = B_law_laid_6 t1 t2 t13 r0 r1 m K := by kernel_rfl
theorem I_law_laid_6 (h : ∀ (t1 : (List (Int × ((List (Int × (Int × Unit))) × Unit)))) (t2 : (List (List (Int × (Int × Unit))))) (t13 : Int) (r0 : (Int × ((List (Int × (Int × (Int × (Int × (Int × Unit)))))) × Unit))) (r1 : (Option (List (Int × Int)))) (K : AExit → St → Prop), p_law_laid_6 t1 t2 t13 r0 r1 → o_law_laid_6 t1 t2 t13 r0 r1 K → B_law_laid_6 t1 t2 t13 r0 r1 (m_law_laid_6 t1 t2 t13 r0 r1) K) : LoopOK E_law_laid 6 (loopAt (bodyOf Try.f36) 6) L_law_laid_6 :=
  fun x y K hp ho => match x, y, hp, ho with | (t1, t2, t13, ()), (r0, r1, ()), hp, ho => (R_law_laid_6 t1 t2 t13 r0 r1 (m_law_laid_6 t1 t2 t13 r0 r1) K).mpr (h t1 t2 t13 r0 r1 K hp ho)
def B_law_laid_8 (t1 : (List (Int × ((List (Int × (Int × Unit))) × Unit)))) (t2 : (List (List (Int × (Int × Unit))))) (t13 : Int) (t14 : Int) (r0 : (Int × ((List (Int × (Int × (Int × (Int × (Int × Unit)))))) × Unit))) (r1 : (Option (List (Int × Int)))) (m : Nat) (K : AExit → St → Prop) : Prop := (
  condP (decide (t14 < IntKind.wrap IntKind.i64 ((12 : Int) * Prod.fst r0)))
    ((True) ∧
    condP (pilotB t14 t13)
      (((2 : Int) ≠ (0 : Int)) ∧
      condP (Int.tmod t13 (2 : Int) == (1 : Int))
        (((0 : Int) ≤ t13) ∧
        (t13 < (↑(List.length t2) : Int)) ∧
        ((0 : Int) ≤ t14) ∧
        (t14 < (↑(List.length (List.getD t2 (Int.toNat t13) (@List.nil (Int × Int × Unit)))) : Int)) ∧
        condP (!(Prod.fst (List.getD (List.getD t2 (Int.toNat t13) (@List.nil (Int × Int × Unit))) (Int.toNat t14) ((0 : Int), (0 : Int), ())) == (1 : Int) && (Prod.fst (Prod.snd (List.getD (List.getD t2 (Int.toNat t13) (@List.nil (Int × Int × Unit))) (Int.toNat t14) ((0 : Int), (0 : Int), ()))) == (-1 : Int) && true)))
          (X_law_laid_8_0 (t1) (t2) (false) (t13) (r0) (r1) K)
          ((p_law_laid_8 t1 t2 t13 (IntKind.wrap IntKind.i64 (t14 + (1 : Int))) r0 r1) ∧
          (m_law_laid_8 t1 t2 t13 (IntKind.wrap IntKind.i64 (t14 + (1 : Int))) r0 r1 < m) ∧
          o_law_laid_8 t1 t2 t13 (IntKind.wrap IntKind.i64 (t14 + (1 : Int))) r0 r1 K))
        (((0 : Int) ≤ t13) ∧
        (t13 < (↑(List.length t2) : Int)) ∧
        ((0 : Int) ≤ t14) ∧
        (t14 < (↑(List.length (List.getD t2 (Int.toNat t13) (@List.nil (Int × Int × Unit)))) : Int)) ∧
        condP (!(Prod.fst (List.getD (List.getD t2 (Int.toNat t13) (@List.nil (Int × Int × Unit))) (Int.toNat t14) ((0 : Int), (0 : Int), ())) == (1 : Int) && (Prod.fst (Prod.snd (List.getD (List.getD t2 (Int.toNat t13) (@List.nil (Int × Int × Unit))) (Int.toNat t14) ((0 : Int), (0 : Int), ()))) == (1 : Int) && true)))
          (X_law_laid_8_0 (t1) (t2) (false) (t13) (r0) (r1) K)
          ((p_law_laid_8 t1 t2 t13 (IntKind.wrap IntKind.i64 (t14 + (1 : Int))) r0 r1) ∧
          (m_law_laid_8 t1 t2 t13 (IntKind.wrap IntKind.i64 (t14 + (1 : Int))) r0 r1 < m) ∧
          o_law_laid_8 t1 t2 t13 (IntKind.wrap IntKind.i64 (t14 + (1 : Int))) r0 r1 K)))
      ((gok r0) ∧
      condP (decide (Prod.snd (owner r0 t14 t13) > (0 : Int)))
        ((p_law_laid_10 t1 t2 t13 t14 (Prod.fst (owner r0 t14 t13)) (0 : Int) r0 r1 ((0 : Int), (0 : Int), ())) ∧
        (Option.isSome r1 = true) ∧
        ((0 : Int) ≤ t13) ∧
        (t13 < (↑(List.length t2) : Int)) ∧
        ((0 : Int) ≤ t14) ∧
        (t14 < (↑(List.length (List.getD t2 (Int.toNat t13) (@List.nil (Int × Int × Unit)))) : Int)) ∧
        condP (!(Prod.fst (List.getD (List.getD t2 (Int.toNat t13) (@List.nil (Int × Int × Unit))) (Int.toNat t14) ((0 : Int), (0 : Int), ())) == Prod.fst (lastPt (Prod.fst (owner r0 t14 t13)) (List.length (before r0 (Prod.fst (owner r0 t14 t13)) t13 t14)) (List.drop (0 : Nat) t1) ((0 : Int), (0 : Int), ())) && (Prod.fst (Prod.snd (List.getD (List.getD t2 (Int.toNat t13) (@List.nil (Int × Int × Unit))) (Int.toNat t14) ((0 : Int), (0 : Int), ()))) == Prod.fst (Prod.snd (lastPt (Prod.fst (owner r0 t14 t13)) (List.length (before r0 (Prod.fst (owner r0 t14 t13)) t13 t14)) (List.drop (0 : Nat) t1) ((0 : Int), (0 : Int), ()))) && true)))
          (X_law_laid_8_0 (t1) (t2) (false) (t13) (r0) (putO r1 (Prod.fst (owner r0 t14 t13)) (IntKind.wrap IntKind.i64 (Option.getD (getO r1 (Prod.fst (owner r0 t14 t13))) (0 : Int) + (1 : Int)))) K)
          ((p_law_laid_8 t1 t2 t13 (IntKind.wrap IntKind.i64 (t14 + (1 : Int))) r0 (putO r1 (Prod.fst (owner r0 t14 t13)) (IntKind.wrap IntKind.i64 (Option.getD (getO r1 (Prod.fst (owner r0 t14 t13))) (0 : Int) + (1 : Int))))) ∧
          (m_law_laid_8 t1 t2 t13 (IntKind.wrap IntKind.i64 (t14 + (1 : Int))) r0 (putO r1 (Prod.fst (owner r0 t14 t13)) (IntKind.wrap IntKind.i64 (Option.getD (getO r1 (Prod.fst (owner r0 t14 t13))) (0 : Int) + (1 : Int)))) < m) ∧
          o_law_laid_8 t1 t2 t13 (IntKind.wrap IntKind.i64 (t14 + (1 : Int))) r0 (putO r1 (Prod.fst (owner r0 t14 t13)) (IntKind.wrap IntKind.i64 (Option.getD (getO r1 (Prod.fst (owner r0 t14 t13))) (0 : Int) + (1 : Int)))) K))
        (((0 : Int) ≤ t13) ∧
        (t13 < (↑(List.length t2) : Int)) ∧
        ((0 : Int) ≤ t14) ∧
        (t14 < (↑(List.length (List.getD t2 (Int.toNat t13) (@List.nil (Int × Int × Unit)))) : Int)) ∧
        condP (!(Prod.fst (List.getD (List.getD t2 (Int.toNat t13) (@List.nil (Int × Int × Unit))) (Int.toNat t14) ((0 : Int), (0 : Int), ())) == (0 : Int) && (Prod.fst (Prod.snd (List.getD (List.getD t2 (Int.toNat t13) (@List.nil (Int × Int × Unit))) (Int.toNat t14) ((0 : Int), (0 : Int), ()))) == (0 : Int) && true)))
          (X_law_laid_8_0 (t1) (t2) (false) (t13) (r0) (r1) K)
          ((p_law_laid_8 t1 t2 t13 (IntKind.wrap IntKind.i64 (t14 + (1 : Int))) r0 r1) ∧
          (m_law_laid_8 t1 t2 t13 (IntKind.wrap IntKind.i64 (t14 + (1 : Int))) r0 r1 < m) ∧
          o_law_laid_8 t1 t2 t13 (IntKind.wrap IntKind.i64 (t14 + (1 : Int))) r0 r1 K))))
    (X_law_laid_8_1 (t1) (t2) (t13) (r0) (r1) K))
theorem R_law_laid_8 (t1 : (List (Int × ((List (Int × (Int × Unit))) × Unit)))) (t2 : (List (List (Int × (Int × Unit))))) (t13 : Int) (t14 : Int) (r0 : (Int × ((List (Int × (Int × (Int × (Int × (Int × Unit)))))) × Unit))) (r1 : (Option (List (Int × Int)))) (m : Nat) (K : AExit → St → Prop) : awp E_law_laid (loopAt (bodyOf Try.f36) 8) 8 (roundP E_law_laid 8 L_law_laid_8 m K) (L_law_laid_8.abs (t1, t2, t13, t14, ()) (r0, r1, ())) = B_law_laid_8 t1 t2 t13 t14 r0 r1 m K := by kernel_rfl
theorem I_law_laid_8 (h : ∀ (t1 : (List (Int × ((List (Int × (Int × Unit))) × Unit)))) (t2 : (List (List (Int × (Int × Unit))))) (t13 : Int) (t14 : Int) (r0 : (Int × ((List (Int × (Int × (Int × (Int × (Int × Unit)))))) × Unit))) (r1 : (Option (List (Int × Int)))) (K : AExit → St → Prop), p_law_laid_8 t1 t2 t13 t14 r0 r1 → o_law_laid_8 t1 t2 t13 t14 r0 r1 K → B_law_laid_8 t1 t2 t13 t14 r0 r1 (m_law_laid_8 t1 t2 t13 t14 r0 r1) K) : LoopOK E_law_laid 8 (loopAt (bodyOf Try.f36) 8) L_law_laid_8 :=
  fun x y K hp ho => match x, y, hp, ho with | (t1, t2, t13, t14, ()), (r0, r1, ()), hp, ho => (R_law_laid_8 t1 t2 t13 t14 r0 r1 (m_law_laid_8 t1 t2 t13 t14 r0 r1) K).mpr (h t1 t2 t13 t14 r0 r1 K hp ho)
def B_law_laid_10 (t1 : (List (Int × ((List (Int × (Int × Unit))) × Unit)))) (t2 : (List (List (Int × (Int × Unit))))) (t13 : Int) (t14 : Int) (t17 : Int) (t19 : Int) (r0 : (Int × ((List (Int × (Int × (Int × (Int × (Int × Unit)))))) × Unit))) (r1 : (Option (List (Int × Int)))) (r2 : (Int × (Int × Unit))) (m : Nat) (K : AExit → St → Prop) : Prop := (
  condP (decide (t19 < (↑(List.length t1) : Int)))
    (((0 : Int) ≤ t19) ∧
    (t19 < (↑(List.length t1) : Int)) ∧
    condP (Prod.fst (List.getD t1 (Int.toNat t19) ((0 : Int), @List.nil (Int × Int × Unit), ())) == t17)
      (((0 : Int) ≤ t19) ∧
      (t19 < (↑(List.length t1) : Int)) ∧
      ((0 : Int) ≤ Option.getD (getO r1 t17) (0 : Int)) ∧
      (Option.getD (getO r1 t17) (0 : Int) < (↑(List.length (Prod.fst (Prod.snd (List.getD t1 (Int.toNat t19) ((0 : Int), @List.nil (Int × Int × Unit), ()))))) : Int)) ∧
      (p_law_laid_10 t1 t2 t13 t14 t17 (IntKind.wrap IntKind.i64 (t19 + (1 : Int))) r0 r1 (List.getD (Prod.fst (Prod.snd (List.getD t1 (Int.toNat t19) ((0 : Int), @List.nil (Int × Int × Unit), ())))) (Int.toNat (Option.getD (getO r1 t17) (0 : Int))) ((0 : Int), (0 : Int), ()))) ∧
      (m_law_laid_10 t1 t2 t13 t14 t17 (IntKind.wrap IntKind.i64 (t19 + (1 : Int))) r0 r1 (List.getD (Prod.fst (Prod.snd (List.getD t1 (Int.toNat t19) ((0 : Int), @List.nil (Int × Int × Unit), ())))) (Int.toNat (Option.getD (getO r1 t17) (0 : Int))) ((0 : Int), (0 : Int), ())) < m) ∧
      o_law_laid_10 t1 t2 t13 t14 t17 (IntKind.wrap IntKind.i64 (t19 + (1 : Int))) r0 r1 (List.getD (Prod.fst (Prod.snd (List.getD t1 (Int.toNat t19) ((0 : Int), @List.nil (Int × Int × Unit), ())))) (Int.toNat (Option.getD (getO r1 t17) (0 : Int))) ((0 : Int), (0 : Int), ())) K)
      ((p_law_laid_10 t1 t2 t13 t14 t17 (IntKind.wrap IntKind.i64 (t19 + (1 : Int))) r0 r1 r2) ∧
      (m_law_laid_10 t1 t2 t13 t14 t17 (IntKind.wrap IntKind.i64 (t19 + (1 : Int))) r0 r1 r2 < m) ∧
      o_law_laid_10 t1 t2 t13 t14 t17 (IntKind.wrap IntKind.i64 (t19 + (1 : Int))) r0 r1 r2 K))
    (X_law_laid_10_0 (t1) (t2) (t13) (t14) (t17) (r0) (r1) (r2) K))
theorem R_law_laid_10 (t1 : (List (Int × ((List (Int × (Int × Unit))) × Unit)))) (t2 : (List (List (Int × (Int × Unit))))) (t13 : Int) (t14 : Int) (t17 : Int) (t19 : Int) (r0 : (Int × ((List (Int × (Int × (Int × (Int × (Int × Unit)))))) × Unit))) (r1 : (Option (List (Int × Int)))) (r2 : (Int × (Int × Unit))) (m : Nat) (K : AExit → St → Prop) : awp E_law_laid (loopAt (bodyOf Try.f36) 10) 10 (roundP E_law_laid 10 L_law_laid_10 m K) (L_law_laid_10.abs (t1, t2, t13, t14, t17, t19, ()) (r0, r1, r2, ())) = B_law_laid_10 t1 t2 t13 t14 t17 t19 r0 r1 r2 m K := by kernel_rfl
theorem I_law_laid_10 (h : ∀ (t1 : (List (Int × ((List (Int × (Int × Unit))) × Unit)))) (t2 : (List (List (Int × (Int × Unit))))) (t13 : Int) (t14 : Int) (t17 : Int) (t19 : Int) (r0 : (Int × ((List (Int × (Int × (Int × (Int × (Int × Unit)))))) × Unit))) (r1 : (Option (List (Int × Int)))) (r2 : (Int × (Int × Unit))) (K : AExit → St → Prop), p_law_laid_10 t1 t2 t13 t14 t17 t19 r0 r1 r2 → o_law_laid_10 t1 t2 t13 t14 t17 t19 r0 r1 r2 K → B_law_laid_10 t1 t2 t13 t14 t17 t19 r0 r1 r2 (m_law_laid_10 t1 t2 t13 t14 t17 t19 r0 r1 r2) K) : LoopOK E_law_laid 10 (loopAt (bodyOf Try.f36) 10) L_law_laid_10 :=
  fun x y K hp ho => match x, y, hp, ho with | (t1, t2, t13, t14, t17, t19, ()), (r0, r1, r2, ()), hp, ho => (R_law_laid_10 t1 t2 t13 t14 t17 t19 r0 r1 r2 (m_law_laid_10 t1 t2 t13 t14 t17 t19 r0 r1 r2) K).mpr (h t1 t2 t13 t14 t17 t19 r0 r1 r2 K hp ho)
theorem G_law_laid : loopsAll E_law_laid (loopList (bodyOf Try.f36) 0) = (LoopOK E_law_laid 0 (loopAt (bodyOf Try.f36) 0) L_law_laid_0 ∧ LoopOK E_law_laid 2 (loopAt (bodyOf Try.f36) 2) L_law_laid_2 ∧ LoopOK E_law_laid 4 (loopAt (bodyOf Try.f36) 4) L_law_laid_4 ∧ LoopOK E_law_laid 6 (loopAt (bodyOf Try.f36) 6) L_law_laid_6 ∧ LoopOK E_law_laid 8 (loopAt (bodyOf Try.f36) 8) L_law_laid_8 ∧ LoopOK E_law_laid 10 (loopAt (bodyOf Try.f36) 10) L_law_laid_10 ∧ True) := by kernel_rfl
theorem envok_law_laid (h_R_PlacesOf : SumOK Try.prog 35 S_R_PlacesOf) (h_R_Pilot : SumOK Try.prog 96 S_R_Pilot) (h_R_Owner : SumOK Try.prog 89 S_R_Owner) : EnvOK E_law_laid := ⟨sumsOf_ok (List.forall_mem_cons.2 ⟨h_R_PlacesOf, (List.forall_mem_cons.2 ⟨h_R_Pilot, (List.forall_mem_cons.2 ⟨h_R_Owner, (fun _ h => nomatch h)⟩)⟩)⟩), follows⟩
theorem whole_law_laid (h_R_PlacesOf : SumOK Try.prog 35 S_R_PlacesOf) (h_R_Pilot : SumOK Try.prog 96 S_R_Pilot) (h_R_Owner : SumOK Try.prog 89 S_R_Owner) (l0 : LoopOK E_law_laid 0 (loopAt (bodyOf Try.f36) 0) L_law_laid_0) (l2 : LoopOK E_law_laid 2 (loopAt (bodyOf Try.f36) 2) L_law_laid_2) (l4 : LoopOK E_law_laid 4 (loopAt (bodyOf Try.f36) 4) L_law_laid_4) (l6 : LoopOK E_law_laid 6 (loopAt (bodyOf Try.f36) 6) L_law_laid_6) (l8 : LoopOK E_law_laid 8 (loopAt (bodyOf Try.f36) 8) L_law_laid_8) (l10 : LoopOK E_law_laid 10 (loopAt (bodyOf Try.f36) 10) L_law_laid_10) (main : ∀ (a0 : (Int × ((List (Int × (Int × (Int × (Int × (Int × Unit)))))) × Unit))) (a1 : (List (Int × ((List (Int × (Int × Unit))) × Unit)))) (a2 : (List (List (Int × (Int × Unit))))) (a3 : Int), (layP a0 a1 a2 a3) → W_law_laid a0 a1 a2 a3) : SumOK Try.prog 36 S_law_laid :=
  fun_sound (E := E_law_laid) (envok_law_laid h_R_PlacesOf h_R_Pilot h_R_Owner) (fn := Try.f36) (c := bodyOf Try.f36) (ts := [(8, none)]) S_law_laid Try.func36 (body_some (by kernel_rfl)) (by kernel_rfl) (Nat.le_of_ble_eq_true (by kernel_rfl)) (by kernel_rfl) (by kernel_rfl) (G_law_laid.mpr ⟨l0, l2, l4, l6, l8, l10, trivial⟩) (fun x hp => match x, hp with | (a0, a1, a2, a3, ()), hp => (V_law_laid a0 a1 a2 a3).mpr (main a0 a1 a2 a3 hp))
/-! ### keep_GridOnce -/
def L_keep_GridOnce_0 : Lift.Loop := Lift.Loop.mk 140 (u 1 ++ (.v (.ro (.pair (.int .i64) (.pair (.int .i64) .unit))) :: (.addr 0 :: (u 4 ++ (.mp 1 :: (.sl 2 :: (.v (.int .i64) :: (u 130)))))))) [(0, .box (.pair (.int .i64) (.pair (.ro (.pair (.int .i64) (.pair (.int .i64) (.pair (.int .i64) (.pair (.int .i64) (.pair (.int .i64) .unit)))))) .unit)) []), (1, .mp (.pair (.int .i64) (.pair (.int .i64) .unit)) (.int .i64) []), (2, .row (.pair (.int .i64) (.pair (.own (.pair (.int .i64) (.pair (.int .i64) .unit))) .unit)) [])] 3 (fun x y => p_keep_GridOnce_0 x.1 x.2.1 y.1 y.2.1 y.2.2.1) (fun x y => m_keep_GridOnce_0 x.1 x.2.1 y.1 y.2.1 y.2.2.1) (fun x y K => o_keep_GridOnce_0 x.1 x.2.1 y.1 y.2.1 y.2.2.1 K)
def L_keep_GridOnce_2 : Lift.Loop := Lift.Loop.mk 140 (u 1 ++ (.v (.ro (.pair (.int .i64) (.pair (.int .i64) .unit))) :: (.addr 0 :: (u 4 ++ (.mp 1 :: (.sl 2 :: (.v (.int .i64) :: (.sl 3 :: (u 1 ++ (.addr 4 :: (.v (.int .i64) :: (u 126)))))))))))) [(0, .box (.pair (.int .i64) (.pair (.ro (.pair (.int .i64) (.pair (.int .i64) (.pair (.int .i64) (.pair (.int .i64) (.pair (.int .i64) .unit)))))) .unit)) []), (1, .mp (.pair (.int .i64) (.pair (.int .i64) .unit)) (.int .i64) []), (2, .row (.pair (.int .i64) (.pair (.own (.pair (.int .i64) (.pair (.int .i64) .unit))) .unit)) []), (3, .row (.pair (.int .i64) (.pair (.int .i64) .unit)) []), (4, .box (.pair (.int .i64) (.pair (.own (.pair (.int .i64) (.pair (.int .i64) .unit))) .unit)) [])] 5 (fun x y => p_keep_GridOnce_2 x.1 x.2.1 x.2.2.1 y.1 y.2.1 y.2.2.1 y.2.2.2.1 y.2.2.2.2.1) (fun x y => m_keep_GridOnce_2 x.1 x.2.1 x.2.2.1 y.1 y.2.1 y.2.2.1 y.2.2.2.1 y.2.2.2.2.1) (fun x y K => o_keep_GridOnce_2 x.1 x.2.1 x.2.2.1 y.1 y.2.1 y.2.2.1 y.2.2.2.1 y.2.2.2.2.1 K)
def L_keep_GridOnce_4 : Lift.Loop := Lift.Loop.mk 140 (u 2 ++ (.addr 0 :: (u 5 ++ (.sl 1 :: (u 6 ++ (.sl 2 :: (u 1 ++ (.v (.int .i64) :: (u 122))))))))) [(0, .box (.pair (.int .i64) (.pair (.ro (.pair (.int .i64) (.pair (.int .i64) (.pair (.int .i64) (.pair (.int .i64) (.pair (.int .i64) .unit)))))) .unit)) []), (1, .row (.pair (.int .i64) (.pair (.own (.pair (.int .i64) (.pair (.int .i64) .unit))) .unit)) []), (2, .row (.own (.pair (.int .i64) (.pair (.int .i64) .unit))) [])] 3 (fun x y => p_keep_GridOnce_4 x.1 y.1 y.2.1 y.2.2.1) (fun x y => m_keep_GridOnce_4 x.1 y.1 y.2.1 y.2.2.1) (fun x y K => o_keep_GridOnce_4 x.1 y.1 y.2.1 y.2.2.1 K)
noncomputable def E_keep_GridOnce : Env := { P := Try.prog, sum := sumsOf [(32, S_grid_Check), (33, S_grid_Lay), (31, S_grid_Places), (34, S_grid_Take), (38, S_R_SamePoints)], nio := 0, head := fun b => if b = 4 then ([2, 8, 15, 17, 130, 131, 132, 133, 134, 135, 136, 137, 138], []) else if b = 2 then ([1, 2, 7, 8, 9, 10, 12, 13, 101, 102, 103, 106, 107, 108, 109, 110, 111, 112, 113, 114, 130, 131, 132, 133, 134, 135, 136, 137, 138], []) else if b = 0 then ([1, 2, 7, 8, 9, 101, 102, 103, 106, 107, 108, 109, 110, 111, 112, 113, 114, 130, 131, 132, 133, 134, 135, 136, 137, 138], [(8, (.pair (.int .i64) (.pair (.own (.pair (.int .i64) (.pair (.int .i64) .unit))) .unit)))]) else ([], []), after := fun _ => none, leave := fun b => if b = 4 then [4] else if b = 2 then [1, 2, 4, 7, 8, 9, 12, 101, 102, 103, 106, 107, 108, 109, 110, 111, 112, 113, 114, 130, 131, 132, 133, 134, 135, 136, 137, 138] else if b = 0 then [2, 4, 7, 8, 101, 102, 103, 106, 107, 108, 109, 110, 111, 112, 113, 114, 130, 131, 132, 133, 134, 135, 136, 137, 138] else [], loops := fun b => if b = 4 then some L_keep_GridOnce_4 else if b = 2 then some L_keep_GridOnce_2 else if b = 0 then some L_keep_GridOnce_0 else none }
def W_keep_GridOnce (a0 : (Int × ((List (Int × (Int × (Int × (Int × (Int × Unit)))))) × Unit))) (a1 : (List (Int × (Int × Unit)))) : Prop := (
  (True) ∧
  condP (gridErr a0 != (0 : Int))
    (((↑(0 : Nat) : Int) ≤ big) ∧
    ((if (Prod.snd (layG a0 (@List.nil (Int × List (Int × Int × Unit) × Unit))) != (0 : Int)) = true then (↑(List.length (Prod.fst (layG a0 (@List.nil (Int × List (Int × Int × Unit) × Unit))))) : Int) == (0 : Int) else false) = true) ∧
    True)
    ((p_keep_GridOnce_0 a1 (1 : Int) a0 (some (@List.nil ((Int × Int × Unit) × Int))) (@List.nil (Int × List (Int × Int × Unit) × Unit))) ∧
    ∀ es' : List ((Int × Int × Unit) × Int), (whoseP (some es') a0 (17 : Int) (0 : Nat)) →
     ((↑(List.length (partsTo a0 a1 (16 : Nat))) : Int) ≤ big) ∧
     condP (if (if (Prod.snd (layG a0 (partsTo a0 a1 (16 : Nat))) != (0 : Int)) = true then true else (↑(List.length (Prod.fst (layG a0 (partsTo a0 a1 (16 : Nat))))) : Int) != (14 : Int)) = true then true else if decide ((↑(List.length (Prod.fst (Prod.snd a0))) : Int) > (0 : Int)) = true then mlen (Ty.pair (Ty.int IntKind.i64) (Ty.pair (Ty.int IntKind.i64) Ty.unit)) (Ty.int IntKind.i64) (some es') == (0 : Int) else false)
       ((false = true) ∧
       True)
       ((p_keep_GridOnce_4 (1 : Int) a0 (partsTo a0 a1 (16 : Nat)) (Prod.fst (layG a0 (partsTo a0 a1 (16 : Nat))))) ∧
       (true = true) ∧
       True)))
theorem V_keep_GridOnce (a0 : (Int × ((List (Int × (Int × (Int × (Int × (Int × Unit)))))) × Unit))) (a1 : (List (Int × (Int × Unit)))) : awp E_keep_GridOnce (bodyOf Try.f7) 0 (fin Try.prog S_keep_GridOnce (a0, a1, ()) [(4, none)] 0) (initSt S_keep_GridOnce.par (a0, a1, ()) 140) = W_keep_GridOnce a0 a1 := by kernel_rfl
def B_keep_GridOnce_0 (t1 : (List (Int × (Int × Unit)))) (t9 : Int) (r0 : (Int × ((List (Int × (Int × (Int × (Int × (Int × Unit)))))) × Unit))) (r1 : (Option (List ((Int × (Int × Unit)) × Int)))) (r2 : (List (Int × ((List (Int × (Int × Unit))) × Unit)))) (m : Nat) (K : AExit → St → Prop) : Prop := (
  condP (decide (t9 ≤ (16 : Int)))
    ((True) ∧
    condP (Prod.snd (placesF r0 t9) != (0 : Int))
      (X_keep_GridOnce_0_0 (false) (r0) (r1) (r2) K)
      ((p_keep_GridOnce_2 t1 t9 (0 : Int) r0 r1 r2 (Prod.fst (placesF r0 t9)) (t9, @List.nil (Int × Int × Unit), ())) ∧
      ∀ es' : List ((Int × Int × Unit) × Int), (whoseP (some es') r0 (t9 + (1 : Int)) (0 : Nat)) →
       ((List.length r2 + List.length [partW r0 t1 t9]) * (32 : Nat) ≤ (140737488355328 : Nat)) ∧
       (p_keep_GridOnce_0 t1 (IntKind.wrap IntKind.i64 (t9 + (1 : Int))) r0 (some es') (List.set (List.append r2 [partW r0 t1 t9]) (Int.toNat ((↑(0 : Nat) : Int) + (↑(List.length r2) : Int))) (Prod.fst (List.getD (List.append r2 [partW r0 t1 t9]) (Int.toNat ((↑(0 : Nat) : Int) + (↑(List.length r2) : Int))) ((0 : Int), @List.nil (Int × Int × Unit), ())), Prod.fst (Prod.snd (partW r0 t1 t9)), Prod.snd (Prod.snd (List.getD (List.append r2 [partW r0 t1 t9]) (Int.toNat ((↑(0 : Nat) : Int) + (↑(List.length r2) : Int))) ((0 : Int), @List.nil (Int × Int × Unit), ())))))) ∧
       (m_keep_GridOnce_0 t1 (IntKind.wrap IntKind.i64 (t9 + (1 : Int))) r0 (some es') (List.set (List.append r2 [partW r0 t1 t9]) (Int.toNat ((↑(0 : Nat) : Int) + (↑(List.length r2) : Int))) (Prod.fst (List.getD (List.append r2 [partW r0 t1 t9]) (Int.toNat ((↑(0 : Nat) : Int) + (↑(List.length r2) : Int))) ((0 : Int), @List.nil (Int × Int × Unit), ())), Prod.fst (Prod.snd (partW r0 t1 t9)), Prod.snd (Prod.snd (List.getD (List.append r2 [partW r0 t1 t9]) (Int.toNat ((↑(0 : Nat) : Int) + (↑(List.length r2) : Int))) ((0 : Int), @List.nil (Int × Int × Unit), ()))))) < m) ∧
       o_keep_GridOnce_0 t1 (IntKind.wrap IntKind.i64 (t9 + (1 : Int))) r0 (some es') (List.set (List.append r2 [partW r0 t1 t9]) (Int.toNat ((↑(0 : Nat) : Int) + (↑(List.length r2) : Int))) (Prod.fst (List.getD (List.append r2 [partW r0 t1 t9]) (Int.toNat ((↑(0 : Nat) : Int) + (↑(List.length r2) : Int))) ((0 : Int), @List.nil (Int × Int × Unit), ())), Prod.fst (Prod.snd (partW r0 t1 t9)), Prod.snd (Prod.snd (List.getD (List.append r2 [partW r0 t1 t9]) (Int.toNat ((↑(0 : Nat) : Int) + (↑(List.length r2) : Int))) ((0 : Int), @List.nil (Int × Int × Unit), ()))))) K))
    (X_keep_GridOnce_0_1 (r0) (r1) (r2) K))
theorem R_keep_GridOnce_0 (t1 : (List (Int × (Int × Unit)))) (t9 : Int) (r0 : (Int × ((List (Int × (Int × (Int × (Int × (Int × Unit)))))) × Unit))) (r1 : (Option (List ((Int × (Int × Unit)) × Int)))) (r2 : (List (Int × ((List (Int × (Int × Unit))) × Unit)))) (m : Nat) (K : AExit → St → Prop) : awp E_keep_GridOnce (loopAt (bodyOf Try.f7) 0) 0 (roundP E_keep_GridOnce 0 L_keep_GridOnce_0 m K) (L_keep_GridOnce_0.abs (t1, t9, ()) (r0, r1, r2, ())) = B_keep_GridOnce_0 t1 t9 r0 r1 r2 m K := by kernel_rfl
theorem I_keep_GridOnce_0 (h : ∀ (t1 : (List (Int × (Int × Unit)))) (t9 : Int) (r0 : (Int × ((List (Int × (Int × (Int × (Int × (Int × Unit)))))) × Unit))) (r1 : (Option (List ((Int × (Int × Unit)) × Int)))) (r2 : (List (Int × ((List (Int × (Int × Unit))) × Unit)))) (K : AExit → St → Prop), p_keep_GridOnce_0 t1 t9 r0 r1 r2 → o_keep_GridOnce_0 t1 t9 r0 r1 r2 K → B_keep_GridOnce_0 t1 t9 r0 r1 r2 (m_keep_GridOnce_0 t1 t9 r0 r1 r2) K) : LoopOK E_keep_GridOnce 0 (loopAt (bodyOf Try.f7) 0) L_keep_GridOnce_0 :=
  fun x y K hp ho => match x, y, hp, ho with | (t1, t9, ()), (r0, r1, r2, ()), hp, ho => (R_keep_GridOnce_0 t1 t9 r0 r1 r2 (m_keep_GridOnce_0 t1 t9 r0 r1 r2) K).mpr (h t1 t9 r0 r1 r2 K hp ho)
def B_keep_GridOnce_2 (t1 : (List (Int × (Int × Unit)))) (t9 : Int) (t13 : Int) (r0 : (Int × ((List (Int × (Int × (Int × (Int × (Int × Unit)))))) × Unit))) (r1 : (Option (List ((Int × (Int × Unit)) × Int)))) (r2 : (List (Int × ((List (Int × (Int × Unit))) × Unit)))) (r3 : (List (Int × (Int × Unit)))) (r4 : (Int × ((List (Int × (Int × Unit))) × Unit))) (m : Nat) (K : AExit → St → Prop) : Prop := (
  condP (decide (t13 < (↑(List.length r3) : Int)))
    (((0 : Int) ≤ t13) ∧
    (t13 < (↑(List.length r3) : Int)) ∧
    condP (decide   (Option.getD       (match r1 with       | some es => findK (Ty.pair (Ty.int IntKind.i64) (Ty.pair (Ty.int IntKind.i64) Ty.unit)) es (List.getD r3 (Int.toNat t13) ((0 : Int), (0 : Int), ()))       | none => none)       (0 : Int) >     (0 : Int)))
      (X_keep_GridOnce_2_0 (t1) (false) (t9) (r0) (r1) (r2) (r4) K)
      (((0 : Int) ≤ t13) ∧
      (t13 < (↑(List.length r3) : Int)) ∧
      (Option.isSome r1 = true) ∧
      condP (decide ((↑(List.length t1) : Int) > (0 : Int)))
        (((↑(List.length t1) : Int) ≠ (0 : Int)) ∧
        ((0 : Int) ≤ Int.tmod t13 (↑(List.length t1) : Int)) ∧
        (Int.tmod t13 (↑(List.length t1) : Int) < (↑(List.length t1) : Int)) ∧
        ((List.length (Prod.fst (Prod.snd r4)) + List.length [List.getD t1 (Int.toNat (Int.tmod t13 (↑(List.length t1) : Int))) ((0 : Int), (0 : Int), ())]) * (16 : Nat) ≤ (140737488355328 : Nat)) ∧
        (p_keep_GridOnce_2 t1 t9 (IntKind.wrap IntKind.i64 (t13 + (1 : Int))) r0   (match r1 with   | some es => some (putK (Ty.pair (Ty.int IntKind.i64) (Ty.pair (Ty.int IntKind.i64) Ty.unit)) es (List.getD r3 (Int.toNat t13) ((0 : Int), (0 : Int), ())) t9)   | none => none)   r2 r3 (Prod.fst r4, List.append (Prod.fst (Prod.snd r4)) [List.getD t1 (Int.toNat (Int.tmod t13 (↑(List.length t1) : Int))) ((0 : Int), (0 : Int), ())], Prod.snd (Prod.snd r4))) ∧
        (m_keep_GridOnce_2 t1 t9 (IntKind.wrap IntKind.i64 (t13 + (1 : Int))) r0     (match r1 with     | some es => some (putK (Ty.pair (Ty.int IntKind.i64) (Ty.pair (Ty.int IntKind.i64) Ty.unit)) es (List.getD r3 (Int.toNat t13) ((0 : Int), (0 : Int), ())) t9)     | none => none)     r2 r3 (Prod.fst r4, List.append (Prod.fst (Prod.snd r4)) [List.getD t1 (Int.toNat (Int.tmod t13 (↑(List.length t1) : Int))) ((0 : Int), (0 : Int), ())], Prod.snd (Prod.snd r4)) <   m) ∧
        o_keep_GridOnce_2 t1 t9 (IntKind.wrap IntKind.i64 (t13 + (1 : Int))) r0   (match r1 with   | some es => some (putK (Ty.pair (Ty.int IntKind.i64) (Ty.pair (Ty.int IntKind.i64) Ty.unit)) es (List.getD r3 (Int.toNat t13) ((0 : Int), (0 : Int), ())) t9)   | none => none)   r2 r3 (Prod.fst r4, List.append (Prod.fst (Prod.snd r4)) [List.getD t1 (Int.toNat (Int.tmod t13 (↑(List.length t1) : Int))) ((0 : Int), (0 : Int), ())], Prod.snd (Prod.snd r4)) K)
        (((List.length (Prod.fst (Prod.snd r4)) + List.length [(t9, t13, ())]) * (16 : Nat) ≤ (140737488355328 : Nat)) ∧
        (p_keep_GridOnce_2 t1 t9 (IntKind.wrap IntKind.i64 (t13 + (1 : Int))) r0   (match r1 with   | some es => some (putK (Ty.pair (Ty.int IntKind.i64) (Ty.pair (Ty.int IntKind.i64) Ty.unit)) es (List.getD r3 (Int.toNat t13) ((0 : Int), (0 : Int), ())) t9)   | none => none)   r2 r3 (Prod.fst r4, List.append (Prod.fst (Prod.snd r4)) [(t9, t13, ())], Prod.snd (Prod.snd r4))) ∧
        (m_keep_GridOnce_2 t1 t9 (IntKind.wrap IntKind.i64 (t13 + (1 : Int))) r0     (match r1 with     | some es => some (putK (Ty.pair (Ty.int IntKind.i64) (Ty.pair (Ty.int IntKind.i64) Ty.unit)) es (List.getD r3 (Int.toNat t13) ((0 : Int), (0 : Int), ())) t9)     | none => none)     r2 r3 (Prod.fst r4, List.append (Prod.fst (Prod.snd r4)) [(t9, t13, ())], Prod.snd (Prod.snd r4)) <   m) ∧
        o_keep_GridOnce_2 t1 t9 (IntKind.wrap IntKind.i64 (t13 + (1 : Int))) r0   (match r1 with   | some es => some (putK (Ty.pair (Ty.int IntKind.i64) (Ty.pair (Ty.int IntKind.i64) Ty.unit)) es (List.getD r3 (Int.toNat t13) ((0 : Int), (0 : Int), ())) t9)   | none => none)   r2 r3 (Prod.fst r4, List.append (Prod.fst (Prod.snd r4)) [(t9, t13, ())], Prod.snd (Prod.snd r4)) K)))
    (X_keep_GridOnce_2_1 (t1) (t9) (r0) (r1) (r2) (r4) K))
theorem R_keep_GridOnce_2 (t1 : (List (Int × (Int × Unit)))) (t9 : Int) (t13 : Int) (r0 : (Int × ((List (Int × (Int × (Int × (Int × (Int × Unit)))))) × Unit))) (r1 : (Option (List ((Int × (Int × Unit)) × Int)))) (r2 : (List (Int × ((List (Int × (Int × Unit))) × Unit)))) (r3 : (List (Int × (Int × Unit)))) (r4 : (Int × ((List (Int × (Int × Unit))) × Unit))) (m : Nat) (K : AExit → St → Prop) : awp E_keep_GridOnce (loopAt (bodyOf Try.f7) 2) 2 (roundP E_keep_GridOnce 2 L_keep_GridOnce_2 m K) (L_keep_GridOnce_2.abs (t1, t9, t13, ()) (r0, r1, r2, r3, r4, ())) = B_keep_GridOnce_2 t1 t9 t13 r0 r1 r2 r3 r4 m K := by kernel_rfl
theorem I_keep_GridOnce_2 (h : ∀ (t1 : (List (Int × (Int × Unit)))) (t9 : Int) (t13 : Int) (r0 : (Int × ((List (Int × (Int × (Int × (Int × (Int × Unit)))))) × Unit))) (r1 : (Option (List ((Int × (Int × Unit)) × Int)))) (r2 : (List (Int × ((List (Int × (Int × Unit))) × Unit)))) (r3 : (List (Int × (Int × Unit)))) (r4 : (Int × ((List (Int × (Int × Unit))) × Unit))) (K : AExit → St → Prop), p_keep_GridOnce_2 t1 t9 t13 r0 r1 r2 r3 r4 → o_keep_GridOnce_2 t1 t9 t13 r0 r1 r2 r3 r4 K → B_keep_GridOnce_2 t1 t9 t13 r0 r1 r2 r3 r4 (m_keep_GridOnce_2 t1 t9 t13 r0 r1 r2 r3 r4) K) : LoopOK E_keep_GridOnce 2 (loopAt (bodyOf Try.f7) 2) L_keep_GridOnce_2 :=
  fun x y K hp ho => match x, y, hp, ho with | (t1, t9, t13, ()), (r0, r1, r2, r3, r4, ()), hp, ho => (R_keep_GridOnce_2 t1 t9 t13 r0 r1 r2 r3 r4 (m_keep_GridOnce_2 t1 t9 t13 r0 r1 r2 r3 r4) K).mpr (h t1 t9 t13 r0 r1 r2 r3 r4 K hp ho)
def B_keep_GridOnce_4 (t17 : Int) (r0 : (Int × ((List (Int × (Int × (Int × (Int × (Int × Unit)))))) × Unit))) (r1 : (List (Int × ((List (Int × (Int × Unit))) × Unit)))) (r2 : (List (List (Int × (Int × Unit))))) (m : Nat) (K : AExit → St → Prop) : Prop := (
  condP (decide (t17 ≤ (16 : Int)))
    (((↑(List.length r2) : Int) ≤ big) ∧
    condP (!Prod.snd (takeG r0 r2 t17) != (0 : Int))
      (((Prod.snd (takeG r0 r2 t17) != (0 : Int)) = false) ∧
      ((Prod.snd (takeG r0 r2 t17) != (0 : Int)) = false) ∧
      ((Prod.snd (takeG r0 r2 t17) != (0 : Int)) = false) ∧
      ((Prod.snd (takeG r0 r2 t17) != (0 : Int)) = false) ∧
      ((Prod.snd (takeG r0 r2 t17) != (0 : Int)) = false) ∧
      ((0 : Int) ≤ IntKind.wrap IntKind.i64 (t17 - (1 : Int))) ∧
      (IntKind.wrap IntKind.i64 (t17 - (1 : Int)) < (↑(List.length r1) : Int)) ∧
      ((Prod.snd (takeG r0 r2 t17) != (0 : Int)) = false) ∧
      ((0 : Int) ≤ IntKind.wrap IntKind.i64 (t17 - (1 : Int))) ∧
      (IntKind.wrap IntKind.i64 (t17 - (1 : Int)) < (↑(List.length r1) : Int)) ∧
      ((Prod.snd (takeG r0 r2 t17) != (0 : Int)) = false) ∧
      (IntKind.wrap IntKind.i64 (t17 - (1 : Int)) = IntKind.wrap IntKind.i64 (t17 - (1 : Int))) ∧
      ((Prod.snd (takeG r0 r2 t17) != (0 : Int)) = false) ∧
      ((↑(List.length (Prod.fst (takeG r0 r2 t17))) : Int) ≤ big) ∧
      ((Prod.snd (takeG r0 r2 t17) != (0 : Int)) = false) ∧
      condP (if (Prod.snd (takeG r0 r2 t17) != (0 : Int)) = true then true else !decide (Prod.fst (takeG r0 r2 t17) = Prod.fst (Prod.snd (List.getD r1 (Int.toNat (IntKind.wrap IntKind.i64 (t17 - (1 : Int)))) ((0 : Int), @List.nil (Int × Int × Unit), ())))))
        (X_keep_GridOnce_4_0 (false) K)
        ((p_keep_GridOnce_4 (IntKind.wrap IntKind.i64 (t17 + (1 : Int))) r0 (List.set r1 (Int.toNat (IntKind.wrap IntKind.i64 (t17 - (1 : Int)))) (Prod.fst (List.getD r1 (Int.toNat (IntKind.wrap IntKind.i64 (t17 - (1 : Int)))) ((0 : Int), @List.nil (Int × Int × Unit), ())), Prod.fst (Prod.snd (List.getD r1 (Int.toNat (IntKind.wrap IntKind.i64 (t17 - (1 : Int)))) ((0 : Int), @List.nil (Int × Int × Unit), ()))), Prod.snd (Prod.snd (List.getD r1 (Int.toNat (IntKind.wrap IntKind.i64 (t17 - (1 : Int)))) ((0 : Int), @List.nil (Int × Int × Unit), ()))))) r2) ∧
        (m_keep_GridOnce_4 (IntKind.wrap IntKind.i64 (t17 + (1 : Int))) r0 (List.set r1 (Int.toNat (IntKind.wrap IntKind.i64 (t17 - (1 : Int)))) (Prod.fst (List.getD r1 (Int.toNat (IntKind.wrap IntKind.i64 (t17 - (1 : Int)))) ((0 : Int), @List.nil (Int × Int × Unit), ())), Prod.fst (Prod.snd (List.getD r1 (Int.toNat (IntKind.wrap IntKind.i64 (t17 - (1 : Int)))) ((0 : Int), @List.nil (Int × Int × Unit), ()))), Prod.snd (Prod.snd (List.getD r1 (Int.toNat (IntKind.wrap IntKind.i64 (t17 - (1 : Int)))) ((0 : Int), @List.nil (Int × Int × Unit), ()))))) r2 < m) ∧
        o_keep_GridOnce_4 (IntKind.wrap IntKind.i64 (t17 + (1 : Int))) r0 (List.set r1 (Int.toNat (IntKind.wrap IntKind.i64 (t17 - (1 : Int)))) (Prod.fst (List.getD r1 (Int.toNat (IntKind.wrap IntKind.i64 (t17 - (1 : Int)))) ((0 : Int), @List.nil (Int × Int × Unit), ())), Prod.fst (Prod.snd (List.getD r1 (Int.toNat (IntKind.wrap IntKind.i64 (t17 - (1 : Int)))) ((0 : Int), @List.nil (Int × Int × Unit), ()))), Prod.snd (Prod.snd (List.getD r1 (Int.toNat (IntKind.wrap IntKind.i64 (t17 - (1 : Int)))) ((0 : Int), @List.nil (Int × Int × Unit), ()))))) r2 K))
      (((Prod.snd (takeG r0 r2 t17) != (0 : Int)) = false → False) ∧
      ((Prod.snd (takeG r0 r2 t17) != (0 : Int)) = false → False) ∧
      ((Prod.snd (takeG r0 r2 t17) != (0 : Int)) = false → False) ∧
      ((Prod.snd (takeG r0 r2 t17) != (0 : Int)) = false → False) ∧
      ((Prod.snd (takeG r0 r2 t17) != (0 : Int)) = false → False) ∧
      ((Prod.snd (takeG r0 r2 t17) != (0 : Int)) = false → False) ∧
      ((Prod.snd (takeG r0 r2 t17) != (0 : Int)) = false → False) ∧
      ((Prod.snd (takeG r0 r2 t17) != (0 : Int)) = false → False) ∧
      ((Prod.snd (takeG r0 r2 t17) != (0 : Int)) = false → False) ∧
      ((Prod.snd (takeG r0 r2 t17) != (0 : Int)) = false → False) ∧
      condP (true)
        (X_keep_GridOnce_4_0 (false) K)
        ((p_keep_GridOnce_4 (IntKind.wrap IntKind.i64 (t17 + (1 : Int))) r0 r1 r2) ∧
        (m_keep_GridOnce_4 (IntKind.wrap IntKind.i64 (t17 + (1 : Int))) r0 r1 r2 < m) ∧
        o_keep_GridOnce_4 (IntKind.wrap IntKind.i64 (t17 + (1 : Int))) r0 r1 r2 K)))
    (X_keep_GridOnce_4_1  K))
theorem R_keep_GridOnce_4 (t17 : Int) (r0 : (Int × ((List (Int × (Int × (Int × (Int × (Int × Unit)))))) × Unit))) (r1 : (List (Int × ((List (Int × (Int × Unit))) × Unit)))) (r2 : (List (List (Int × (Int × Unit))))) (m : Nat) (K : AExit → St → Prop) : awp E_keep_GridOnce (loopAt (bodyOf Try.f7) 4) 4 (roundP E_keep_GridOnce 4 L_keep_GridOnce_4 m K) (L_keep_GridOnce_4.abs (t17, ()) (r0, r1, r2, ())) = B_keep_GridOnce_4 t17 r0 r1 r2 m K := by kernel_rfl
theorem I_keep_GridOnce_4 (h : ∀ (t17 : Int) (r0 : (Int × ((List (Int × (Int × (Int × (Int × (Int × Unit)))))) × Unit))) (r1 : (List (Int × ((List (Int × (Int × Unit))) × Unit)))) (r2 : (List (List (Int × (Int × Unit))))) (K : AExit → St → Prop), p_keep_GridOnce_4 t17 r0 r1 r2 → o_keep_GridOnce_4 t17 r0 r1 r2 K → B_keep_GridOnce_4 t17 r0 r1 r2 (m_keep_GridOnce_4 t17 r0 r1 r2) K) : LoopOK E_keep_GridOnce 4 (loopAt (bodyOf Try.f7) 4) L_keep_GridOnce_4 :=
  fun x y K hp ho => match x, y, hp, ho with | (t17, ()), (r0, r1, r2, ()), hp, ho => (R_keep_GridOnce_4 t17 r0 r1 r2 (m_keep_GridOnce_4 t17 r0 r1 r2) K).mpr (h t17 r0 r1 r2 K hp ho)
theorem G_keep_GridOnce : loopsAll E_keep_GridOnce (loopList (bodyOf Try.f7) 0) = (LoopOK E_keep_GridOnce 0 (loopAt (bodyOf Try.f7) 0) L_keep_GridOnce_0 ∧ LoopOK E_keep_GridOnce 2 (loopAt (bodyOf Try.f7) 2) L_keep_GridOnce_2 ∧ LoopOK E_keep_GridOnce 4 (loopAt (bodyOf Try.f7) 4) L_keep_GridOnce_4 ∧ True) := by kernel_rfl
theorem envok_keep_GridOnce (h_grid_Check : SumOK Try.prog 32 S_grid_Check) (h_grid_Lay : SumOK Try.prog 33 S_grid_Lay) (h_grid_Places : SumOK Try.prog 31 S_grid_Places) (h_grid_Take : SumOK Try.prog 34 S_grid_Take) (h_R_SamePoints : SumOK Try.prog 38 S_R_SamePoints) : EnvOK E_keep_GridOnce := ⟨sumsOf_ok (List.forall_mem_cons.2 ⟨h_grid_Check, (List.forall_mem_cons.2 ⟨h_grid_Lay, (List.forall_mem_cons.2 ⟨h_grid_Places, (List.forall_mem_cons.2 ⟨h_grid_Take, (List.forall_mem_cons.2 ⟨h_R_SamePoints, (fun _ h => nomatch h)⟩)⟩)⟩)⟩)⟩), follows⟩
theorem whole_keep_GridOnce (h_grid_Check : SumOK Try.prog 32 S_grid_Check) (h_grid_Lay : SumOK Try.prog 33 S_grid_Lay) (h_grid_Places : SumOK Try.prog 31 S_grid_Places) (h_grid_Take : SumOK Try.prog 34 S_grid_Take) (h_R_SamePoints : SumOK Try.prog 38 S_R_SamePoints) (l0 : LoopOK E_keep_GridOnce 0 (loopAt (bodyOf Try.f7) 0) L_keep_GridOnce_0) (l2 : LoopOK E_keep_GridOnce 2 (loopAt (bodyOf Try.f7) 2) L_keep_GridOnce_2) (l4 : LoopOK E_keep_GridOnce 4 (loopAt (bodyOf Try.f7) 4) L_keep_GridOnce_4) (main : ∀ (a0 : (Int × ((List (Int × (Int × (Int × (Int × (Int × Unit)))))) × Unit))) (a1 : (List (Int × (Int × Unit)))), ((↑(List.length a1) : Int) ≤ big) → W_keep_GridOnce a0 a1) : SumOK Try.prog 7 S_keep_GridOnce :=
  fun_sound (E := E_keep_GridOnce) (envok_keep_GridOnce h_grid_Check h_grid_Lay h_grid_Places h_grid_Take h_R_SamePoints) (fn := Try.f7) (c := bodyOf Try.f7) (ts := [(4, none)]) S_keep_GridOnce Try.func7 (body_some (by kernel_rfl)) (by kernel_rfl) (Nat.le_of_ble_eq_true (by kernel_rfl)) (by kernel_rfl) (by kernel_rfl) (G_keep_GridOnce.mpr ⟨l0, l2, l4, trivial⟩) (fun x hp => match x, hp with | (a0, a1, ()), hp => (V_keep_GridOnce a0 a1).mpr (main a0 a1 hp))
/-! ### law_GridSays -/
def L_law_GridSays_0 : Lift.Loop := Lift.Loop.mk 109 (u 1 ++ (.v (.ro (.pair (.int .i64) (.pair (.ro (.pair (.int .i64) (.pair (.int .i64) .unit))) .unit))) :: (.v (.ro (.ro (.pair (.int .i64) (.pair (.int .i64) .unit)))) :: (.v (.int .i64) :: (.addr 0 :: (u 5 ++ (.sl 1 :: (u 1 ++ (.sl 2 :: (.v (.int .i64) :: (.sl 3 :: (.v (.int .i64) :: (.sl 4 :: (.v (.int .i64) :: (u 91))))))))))))))) [(0, .box (.pair (.int .i64) (.pair (.ro (.pair (.int .i64) (.pair (.int .i64) (.pair (.int .i64) (.pair (.int .i64) (.pair (.int .i64) .unit)))))) .unit)) []), (1, .row (.pair (.int .i64) (.pair (.int .i64) .unit)) []), (2, .row (.own (.pair (.int .i64) (.pair (.int .i64) .unit))) []), (3, .row (.pair (.int .i64) (.pair (.int .i64) .unit)) []), (4, .row (.pair (.int .i64) (.pair (.int .i64) .unit)) [])] 5 (fun x y => p_law_GridSays_0 x.1 x.2.1 x.2.2.1 x.2.2.2.1 x.2.2.2.2.1 x.2.2.2.2.2.1 y.1 y.2.1 y.2.2.1 y.2.2.2.1 y.2.2.2.2.1) (fun x y => m_law_GridSays_0 x.1 x.2.1 x.2.2.1 x.2.2.2.1 x.2.2.2.2.1 x.2.2.2.2.2.1 y.1 y.2.1 y.2.2.1 y.2.2.2.1 y.2.2.2.2.1) (fun x y K => o_law_GridSays_0 x.1 x.2.1 x.2.2.1 x.2.2.2.1 x.2.2.2.2.1 x.2.2.2.2.2.1 y.1 y.2.1 y.2.2.1 y.2.2.2.1 y.2.2.2.2.1 K)
noncomputable def E_law_GridSays : Env := { P := Try.prog, sum := sumsOf [(30, S_R_GridError), (31, S_grid_Places), (32, S_grid_Check), (33, S_grid_Lay), (34, S_grid_Take), (35, S_R_PlacesOf), (36, S_law_laid), (37, S_law_taken)], nio := 0, head := fun b => if b = 0 then ([1, 2, 3, 4, 10, 12, 13, 14, 15, 16, 17, 102, 103, 104, 105, 106, 107], []) else ([], []), after := fun _ => none, leave := fun b => if b = 0 then [1, 2, 3, 4, 8, 12, 13, 14, 15, 102, 103, 104, 105, 106, 107] else [], loops := fun b => if b = 0 then some L_law_GridSays_0 else none }
def W_law_GridSays (a0 : (Int × ((List (Int × (Int × (Int × (Int × (Int × Unit)))))) × Unit))) (a1 : (List (Int × ((List (Int × (Int × Unit))) × Unit)))) (a2 : (List (List (Int × (Int × Unit))))) (a3 : Int) : Prop := (
  (True) ∧
  (True) ∧
  (True) ∧
  condP (if (gridErr a0 != gridErr a0) = true then true else Prod.snd (placesF a0 a3) != gridErr a0)
    ((false = true) ∧
    True)
    (((↑(List.length a1) : Int) ≤ big) ∧
    ((↑(List.length a2) : Int) ≤ big) ∧
    condP (gridErr a0 != (0 : Int))
      (((if (if (if (if (Prod.snd (layG a0 a1) == gridErr a0) = true then Prod.snd (takeG a0 a2 a3) == gridErr a0 else false) = true then (↑(List.length (Prod.fst (placesF a0 a3))) : Int) == (0 : Int) else false) = true then (↑(List.length (Prod.fst (layG a0 a1))) : Int) == (0 : Int) else false) = true then (↑(List.length (Prod.fst (takeG a0 a2 a3))) : Int) == (0 : Int) else false) = true) ∧
      True)
      ((gok a0) ∧
      condP ((↑(List.length (Prod.fst (placesF a0 a3))) : Int) != (↑(List.length (placesR a0 a3)) : Int))
        ((false = true) ∧
        True)
        ((p_law_GridSays_0 a1 a2 a3 (Prod.snd (layG a0 a1)) (Prod.snd (takeG a0 a2 a3)) (0 : Int) a0 (Prod.fst (placesF a0 a3)) (Prod.fst (layG a0 a1)) (Prod.fst (takeG a0 a2 a3)) (placesR a0 a3)) ∧
        (layP a0 a1 (Prod.fst (layG a0 a1)) (Prod.snd (layG a0 a1))) ∧
        (true = true → gridErr a0 = (0 : Int) ∧ (↑(List.length a2) : Int) ≤ big ∧ Prod.fst (takeG a0 a2 a3) = Prod.fst (takeG a0 a2 a3) ∧ Prod.snd (takeG a0 a2 a3) = Prod.snd (takeG a0 a2 a3)) ∧
        ((if true = true then true else false) = true) ∧
        True))))
theorem V_law_GridSays (a0 : (Int × ((List (Int × (Int × (Int × (Int × (Int × Unit)))))) × Unit))) (a1 : (List (Int × ((List (Int × (Int × Unit))) × Unit)))) (a2 : (List (List (Int × (Int × Unit))))) (a3 : Int) : awp E_law_GridSays (bodyOf Try.f6) 0 (fin Try.prog S_law_GridSays (a0, a1, a2, a3, ()) [(8, none)] 0) (initSt S_law_GridSays.par (a0, a1, a2, a3, ()) 109) = W_law_GridSays a0 a1 a2 a3 := by kernel_rfl
def B_law_GridSays_0 (t1 : (List (Int × ((List (Int × (Int × Unit))) × Unit)))) (t2 : (List (List (Int × (Int × Unit))))) (t3 : Int) (t13 : Int) (t15 : Int) (t17 : Int) (r0 : (Int × ((List (Int × (Int × (Int × (Int × (Int × Unit)))))) × Unit))) (r1 : (List (Int × (Int × Unit)))) (r2 : (List (List (Int × (Int × Unit))))) (r3 : (List (Int × (Int × Unit)))) (r4 : (List (Int × (Int × Unit)))) (m : Nat) (K : AExit → St → Prop) : Prop := (
  condP (decide (t17 < (↑(List.length r1) : Int)))
    (((0 : Int) ≤ t17) ∧
    (t17 < (↑(List.length r1) : Int)) ∧
    ((0 : Int) ≤ t17) ∧
    (t17 < (↑(List.length r4) : Int)) ∧
    condP (!(Prod.fst (List.getD r1 (Int.toNat t17) ((0 : Int), (0 : Int), ())) == Prod.fst (List.getD r4 (Int.toNat t17) ((0 : Int), (0 : Int), ())) && (Prod.fst (Prod.snd (List.getD r1 (Int.toNat t17) ((0 : Int), (0 : Int), ()))) == Prod.fst (Prod.snd (List.getD r4 (Int.toNat t17) ((0 : Int), (0 : Int), ()))) && true)))
      (X_law_GridSays_0_0 (t1) (t2) (t3) (false) (t13) (t15) (r0) (r2) (r3) K)
      ((p_law_GridSays_0 t1 t2 t3 t13 t15 (IntKind.wrap IntKind.i64 (t17 + (1 : Int))) r0 r1 r2 r3 r4) ∧
      (m_law_GridSays_0 t1 t2 t3 t13 t15 (IntKind.wrap IntKind.i64 (t17 + (1 : Int))) r0 r1 r2 r3 r4 < m) ∧
      o_law_GridSays_0 t1 t2 t3 t13 t15 (IntKind.wrap IntKind.i64 (t17 + (1 : Int))) r0 r1 r2 r3 r4 K))
    (X_law_GridSays_0_1 (t1) (t2) (t3) (t13) (t15) (r0) (r2) (r3) K))
theorem R_law_GridSays_0 (t1 : (List (Int × ((List (Int × (Int × Unit))) × Unit)))) (t2 : (List (List (Int × (Int × Unit))))) (t3 : Int) (t13 : Int) (t15 : Int) (t17 : Int) (r0 : (Int × ((List (Int × (Int × (Int × (Int × (Int × Unit)))))) × Unit))) (r1 : (List (Int × (Int × Unit)))) (r2 : (List (List (Int × (Int × Unit))))) (r3 : (List (Int × (Int × Unit)))) (r4 : (List (Int × (Int × Unit)))) (m : Nat) (K : AExit → St → Prop) : awp E_law_GridSays (loopAt (bodyOf Try.f6) 0) 0 (roundP E_law_GridSays 0 L_law_GridSays_0 m K) (L_law_GridSays_0.abs (t1, t2, t3, t13, t15, t17, ()) (r0, r1, r2, r3, r4, ())) = B_law_GridSays_0 t1 t2 t3 t13 t15 t17 r0 r1 r2 r3 r4 m K := by kernel_rfl
theorem I_law_GridSays_0 (h : ∀ (t1 : (List (Int × ((List (Int × (Int × Unit))) × Unit)))) (t2 : (List (List (Int × (Int × Unit))))) (t3 : Int) (t13 : Int) (t15 : Int) (t17 : Int) (r0 : (Int × ((List (Int × (Int × (Int × (Int × (Int × Unit)))))) × Unit))) (r1 : (List (Int × (Int × Unit)))) (r2 : (List (List (Int × (Int × Unit))))) (r3 : (List (Int × (Int × Unit)))) (r4 : (List (Int × (Int × Unit)))) (K : AExit → St → Prop), p_law_GridSays_0 t1 t2 t3 t13 t15 t17 r0 r1 r2 r3 r4 → o_law_GridSays_0 t1 t2 t3 t13 t15 t17 r0 r1 r2 r3 r4 K → B_law_GridSays_0 t1 t2 t3 t13 t15 t17 r0 r1 r2 r3 r4 (m_law_GridSays_0 t1 t2 t3 t13 t15 t17 r0 r1 r2 r3 r4) K) : LoopOK E_law_GridSays 0 (loopAt (bodyOf Try.f6) 0) L_law_GridSays_0 :=
  fun x y K hp ho => match x, y, hp, ho with | (t1, t2, t3, t13, t15, t17, ()), (r0, r1, r2, r3, r4, ()), hp, ho => (R_law_GridSays_0 t1 t2 t3 t13 t15 t17 r0 r1 r2 r3 r4 (m_law_GridSays_0 t1 t2 t3 t13 t15 t17 r0 r1 r2 r3 r4) K).mpr (h t1 t2 t3 t13 t15 t17 r0 r1 r2 r3 r4 K hp ho)
theorem G_law_GridSays : loopsAll E_law_GridSays (loopList (bodyOf Try.f6) 0) = (LoopOK E_law_GridSays 0 (loopAt (bodyOf Try.f6) 0) L_law_GridSays_0 ∧ True) := by kernel_rfl
theorem envok_law_GridSays (h_R_GridError : SumOK Try.prog 30 S_R_GridError) (h_grid_Places : SumOK Try.prog 31 S_grid_Places) (h_grid_Check : SumOK Try.prog 32 S_grid_Check) (h_grid_Lay : SumOK Try.prog 33 S_grid_Lay) (h_grid_Take : SumOK Try.prog 34 S_grid_Take) (h_R_PlacesOf : SumOK Try.prog 35 S_R_PlacesOf) (h_law_laid : SumOK Try.prog 36 S_law_laid) (h_law_taken : SumOK Try.prog 37 S_law_taken) : EnvOK E_law_GridSays := ⟨sumsOf_ok (List.forall_mem_cons.2 ⟨h_R_GridError, (List.forall_mem_cons.2 ⟨h_grid_Places, (List.forall_mem_cons.2 ⟨h_grid_Check, (List.forall_mem_cons.2 ⟨h_grid_Lay, (List.forall_mem_cons.2 ⟨h_grid_Take, (List.forall_mem_cons.2 ⟨h_R_PlacesOf, (List.forall_mem_cons.2 ⟨h_law_laid, (List.forall_mem_cons.2 ⟨h_law_taken, (fun _ h => nomatch h)⟩)⟩)⟩)⟩)⟩)⟩)⟩)⟩), follows⟩
theorem whole_law_GridSays (h_R_GridError : SumOK Try.prog 30 S_R_GridError) (h_grid_Places : SumOK Try.prog 31 S_grid_Places) (h_grid_Check : SumOK Try.prog 32 S_grid_Check) (h_grid_Lay : SumOK Try.prog 33 S_grid_Lay) (h_grid_Take : SumOK Try.prog 34 S_grid_Take) (h_R_PlacesOf : SumOK Try.prog 35 S_R_PlacesOf) (h_law_laid : SumOK Try.prog 36 S_law_laid) (h_law_taken : SumOK Try.prog 37 S_law_taken) (l0 : LoopOK E_law_GridSays 0 (loopAt (bodyOf Try.f6) 0) L_law_GridSays_0) (main : ∀ (a0 : (Int × ((List (Int × (Int × (Int × (Int × (Int × Unit)))))) × Unit))) (a1 : (List (Int × ((List (Int × (Int × Unit))) × Unit)))) (a2 : (List (List (Int × (Int × Unit))))) (a3 : Int), ((↑(List.length a1) : Int) ≤ big ∧ (↑(List.length a2) : Int) ≤ big) → W_law_GridSays a0 a1 a2 a3) : SumOK Try.prog 6 S_law_GridSays :=
  fun_sound (E := E_law_GridSays) (envok_law_GridSays h_R_GridError h_grid_Places h_grid_Check h_grid_Lay h_grid_Take h_R_PlacesOf h_law_laid h_law_taken) (fn := Try.f6) (c := bodyOf Try.f6) (ts := [(8, none)]) S_law_GridSays Try.func6 (body_some (by kernel_rfl)) (by kernel_rfl) (Nat.le_of_ble_eq_true (by kernel_rfl)) (by kernel_rfl) (by kernel_rfl) (G_law_GridSays.mpr ⟨l0, trivial⟩) (fun x hp => match x, hp with | (a0, a1, a2, a3, ()), hp => (V_law_GridSays a0 a1 a2 a3).mpr (main a0 a1 a2 a3 hp))
/-! ### law_taken -/
def L_law_taken_0 : Lift.Loop := Lift.Loop.mk 83 (u 1 ++ (.v (.ro (.ro (.pair (.int .i64) (.pair (.int .i64) .unit)))) :: (.v (.int .i64) :: (.v (.ro (.pair (.int .i64) (.pair (.int .i64) .unit))) :: (.v (.int .i64) :: (.addr 0 :: (u 5 ++ (.v .bool :: (.v (.int .i64) :: (u 70)))))))))) [(0, .box (.pair (.int .i64) (.pair (.ro (.pair (.int .i64) (.pair (.int .i64) (.pair (.int .i64) (.pair (.int .i64) (.pair (.int .i64) .unit)))))) .unit)) [])] 1 (fun x y => p_law_taken_0 x.1 x.2.1 x.2.2.1 x.2.2.2.1 x.2.2.2.2.1 x.2.2.2.2.2.1 y.1) (fun x y => m_law_taken_0 x.1 x.2.1 x.2.2.1 x.2.2.2.1 x.2.2.2.2.1 x.2.2.2.2.2.1 y.1) (fun x y K => o_law_taken_0 x.1 x.2.1 x.2.2.1 x.2.2.2.1 x.2.2.2.2.1 x.2.2.2.2.2.1 y.1 K)
def L_law_taken_2 : Lift.Loop := Lift.Loop.mk 83 (u 1 ++ (.v (.ro (.ro (.pair (.int .i64) (.pair (.int .i64) .unit)))) :: (u 1 ++ (.v (.ro (.pair (.int .i64) (.pair (.int .i64) .unit))) :: (u 9 ++ (.sl 0 :: (.v (.int .i64) :: (u 68)))))))) [(0, .row (.pair (.int .i64) (.pair (.int .i64) .unit)) [])] 1 (fun x y => p_law_taken_2 x.1 x.2.1 x.2.2.1 y.1) (fun x y => m_law_taken_2 x.1 x.2.1 x.2.2.1 y.1) (fun x y K => o_law_taken_2 x.1 x.2.1 x.2.2.1 y.1 K)
noncomputable def E_law_taken : Env := { P := Try.prog, sum := sumsOf [(35, S_R_PlacesOf)], nio := 0, head := fun b => if b = 2 then ([1, 3, 13, 14], []) else if b = 0 then ([1, 2, 3, 4, 5, 11, 12, 26, 27, 28, 29, 30, 31, 32, 33, 34, 41, 42, 43, 51, 52, 53, 54, 55], []) else ([], []), after := fun _ => none, leave := fun b => if b = 2 then [10] else if b = 0 then [1, 2, 3, 4, 5, 10, 11, 41, 42, 43, 51, 52, 53, 54, 55] else [], loops := fun b => if b = 2 then some L_law_taken_2 else if b = 0 then some L_law_taken_0 else none }
def W_law_taken (a0 : (Int × ((List (Int × (Int × (Int × (Int × (Int × Unit)))))) × Unit))) (a1 : (List (List (Int × (Int × Unit))))) (a2 : Int) (a3 : (List (Int × (Int × Unit)))) (a4 : Int) : Prop := (
  (p_law_taken_0 a1 a2 a3 a4 ((↑(List.length a1) : Int) == (14 : Int)) (0 : Int) a0) ∧
  condP (!formRows a0 a1)
    (((if (a4 == (3 : Int)) = true then (↑(List.length a3) : Int) == (0 : Int) else false) = true) ∧
    True)
    ((gok a0) ∧
    condP (if (a4 != (0 : Int)) = true then true else (↑(List.length a3) : Int) != (↑(List.length (placesR a0 a2)) : Int))
      ((false = true) ∧
      True)
      ((p_law_taken_2 a1 a3 (0 : Int) (placesR a0 a2)) ∧
      (true = true) ∧
      True)))
theorem V_law_taken (a0 : (Int × ((List (Int × (Int × (Int × (Int × (Int × Unit)))))) × Unit))) (a1 : (List (List (Int × (Int × Unit))))) (a2 : Int) (a3 : (List (Int × (Int × Unit)))) (a4 : Int) : awp E_law_taken (bodyOf Try.f37) 0 (fin Try.prog S_law_taken (a0, a1, a2, a3, a4, ()) [(10, none)] 0) (initSt S_law_taken.par (a0, a1, a2, a3, a4, ()) 83) = W_law_taken a0 a1 a2 a3 a4 := by kernel_rfl
def B_law_taken_0 (t1 : (List (List (Int × (Int × Unit))))) (t2 : Int) (t3 : (List (Int × (Int × Unit)))) (t4 : Int) (t11 : Bool) (t12 : Int) (r0 : (Int × ((List (Int × (Int × (Int × (Int × (Int × Unit)))))) × Unit))) (m : Nat) (K : AExit → St → Prop) : Prop := (
  condP (decide (t12 < (↑(List.length t1) : Int)))
    ((t11 = true → (0 : Int) ≤ t12) ∧
    (t11 = true → t12 < (↑(List.length t1) : Int)) ∧
    (p_law_taken_0 t1 t2 t3 t4 (if t11 = true then (↑(List.length (List.getD t1 (Int.toNat t12) (@List.nil (Int × Int × Unit)))) : Int) == IntKind.wrap IntKind.i64 ((12 : Int) * Prod.fst r0) else false) (IntKind.wrap IntKind.i64 (t12 + (1 : Int))) r0) ∧
    (m_law_taken_0 t1 t2 t3 t4 (if t11 = true then (↑(List.length (List.getD t1 (Int.toNat t12) (@List.nil (Int × Int × Unit)))) : Int) == IntKind.wrap IntKind.i64 ((12 : Int) * Prod.fst r0) else false) (IntKind.wrap IntKind.i64 (t12 + (1 : Int))) r0 < m) ∧
    o_law_taken_0 t1 t2 t3 t4 (if t11 = true then (↑(List.length (List.getD t1 (Int.toNat t12) (@List.nil (Int × Int × Unit)))) : Int) == IntKind.wrap IntKind.i64 ((12 : Int) * Prod.fst r0) else false) (IntKind.wrap IntKind.i64 (t12 + (1 : Int))) r0 K)
    (X_law_taken_0_0 (t1) (t2) (t3) (t4) (t11) (r0) K))
theorem R_law_taken_0 (t1 : (List (List (Int × (Int × Unit))))) (t2 : Int) (t3 : (List (Int × (Int × Unit)))) (t4 : Int) (t11 : Bool) (t12 : Int) (r0 : (Int × ((List (Int × (Int × (Int × (Int × (Int × Unit)))))) × Unit))) (m : Nat) (K : AExit → St → Prop) : awp E_law_taken (loopAt (bodyOf Try.f37) 0) 0 (roundP E_law_taken 0 L_law_taken_0 m K) (L_law_taken_0.abs (t1, t2, t3, t4, t11, t12, ()) (r0, ())) = B_law_taken_0 t1 t2 t3 t4 t11 t12 r0 m K := by kernel_rfl
theorem I_law_taken_0 (h : ∀ (t1 : (List (List (Int × (Int × Unit))))) (t2 : Int) (t3 : (List (Int × (Int × Unit)))) (t4 : Int) (t11 : Bool) (t12 : Int) (r0 : (Int × ((List (Int × (Int × (Int × (Int × (Int × Unit)))))) × Unit))) (K : AExit → St → Prop), p_law_taken_0 t1 t2 t3 t4 t11 t12 r0 → o_law_taken_0 t1 t2 t3 t4 t11 t12 r0 K → B_law_taken_0 t1 t2 t3 t4 t11 t12 r0 (m_law_taken_0 t1 t2 t3 t4 t11 t12 r0) K) : LoopOK E_law_taken 0 (loopAt (bodyOf Try.f37) 0) L_law_taken_0 :=
  fun x y K hp ho => match x, y, hp, ho with | (t1, t2, t3, t4, t11, t12, ()), (r0, ()), hp, ho => (R_law_taken_0 t1 t2 t3 t4 t11 t12 r0 (m_law_taken_0 t1 t2 t3 t4 t11 t12 r0) K).mpr (h t1 t2 t3 t4 t11 t12 r0 K hp ho)
def B_law_taken_2 (t1 : (List (List (Int × (Int × Unit))))) (t3 : (List (Int × (Int × Unit)))) (t14 : Int) (r0 : (List (Int × (Int × Unit)))) (m : Nat) (K : AExit → St → Prop) : Prop := (
  condP (decide (t14 < (↑(List.length r0) : Int)))
    (((0 : Int) ≤ t14) ∧
    (t14 < (↑(List.length t3) : Int)) ∧
    ((0 : Int) ≤ t14) ∧
    (t14 < (↑(List.length r0) : Int)) ∧
    ((0 : Int) ≤ Prod.fst (Prod.snd (List.getD r0 (Int.toNat t14) ((0 : Int), (0 : Int), ())))) ∧
    (Prod.fst (Prod.snd (List.getD r0 (Int.toNat t14) ((0 : Int), (0 : Int), ()))) < (↑(List.length t1) : Int)) ∧
    ((0 : Int) ≤ t14) ∧
    (t14 < (↑(List.length r0) : Int)) ∧
    ((0 : Int) ≤ Prod.fst (List.getD r0 (Int.toNat t14) ((0 : Int), (0 : Int), ()))) ∧
    (Prod.fst (List.getD r0 (Int.toNat t14) ((0 : Int), (0 : Int), ())) < (↑(List.length (List.getD t1 (Int.toNat (Prod.fst (Prod.snd (List.getD r0 (Int.toNat t14) ((0 : Int), (0 : Int), ()))))) (@List.nil (Int × Int × Unit)))) : Int)) ∧
    condP (!(Prod.fst (List.getD t3 (Int.toNat t14) ((0 : Int), (0 : Int), ())) == Prod.fst (List.getD (List.getD t1 (Int.toNat (Prod.fst (Prod.snd (List.getD r0 (Int.toNat t14) ((0 : Int), (0 : Int), ()))))) (@List.nil (Int × Int × Unit))) (Int.toNat (Prod.fst (List.getD r0 (Int.toNat t14) ((0 : Int), (0 : Int), ())))) ((0 : Int), (0 : Int), ())) && (Prod.fst (Prod.snd (List.getD t3 (Int.toNat t14) ((0 : Int), (0 : Int), ()))) == Prod.fst (Prod.snd (List.getD (List.getD t1 (Int.toNat (Prod.fst (Prod.snd (List.getD r0 (Int.toNat t14) ((0 : Int), (0 : Int), ()))))) (@List.nil (Int × Int × Unit))) (Int.toNat (Prod.fst (List.getD r0 (Int.toNat t14) ((0 : Int), (0 : Int), ())))) ((0 : Int), (0 : Int), ()))) && true)))
      (X_law_taken_2_0 (false) K)
      ((p_law_taken_2 t1 t3 (IntKind.wrap IntKind.i64 (t14 + (1 : Int))) r0) ∧
      (m_law_taken_2 t1 t3 (IntKind.wrap IntKind.i64 (t14 + (1 : Int))) r0 < m) ∧
      o_law_taken_2 t1 t3 (IntKind.wrap IntKind.i64 (t14 + (1 : Int))) r0 K))
    (X_law_taken_2_1  K))
theorem R_law_taken_2 (t1 : (List (List (Int × (Int × Unit))))) (t3 : (List (Int × (Int × Unit)))) (t14 : Int) (r0 : (List (Int × (Int × Unit)))) (m : Nat) (K : AExit → St → Prop) : awp E_law_taken (loopAt (bodyOf Try.f37) 2) 2 (roundP E_law_taken 2 L_law_taken_2 m K) (L_law_taken_2.abs (t1, t3, t14, ()) (r0, ())) = B_law_taken_2 t1 t3 t14 r0 m K := by kernel_rfl
theorem I_law_taken_2 (h : ∀ (t1 : (List (List (Int × (Int × Unit))))) (t3 : (List (Int × (Int × Unit)))) (t14 : Int) (r0 : (List (Int × (Int × Unit)))) (K : AExit → St → Prop), p_law_taken_2 t1 t3 t14 r0 → o_law_taken_2 t1 t3 t14 r0 K → B_law_taken_2 t1 t3 t14 r0 (m_law_taken_2 t1 t3 t14 r0) K) : LoopOK E_law_taken 2 (loopAt (bodyOf Try.f37) 2) L_law_taken_2 :=
  fun x y K hp ho => match x, y, hp, ho with | (t1, t3, t14, ()), (r0, ()), hp, ho => (R_law_taken_2 t1 t3 t14 r0 (m_law_taken_2 t1 t3 t14 r0) K).mpr (h t1 t3 t14 r0 K hp ho)
theorem G_law_taken : loopsAll E_law_taken (loopList (bodyOf Try.f37) 0) = (LoopOK E_law_taken 0 (loopAt (bodyOf Try.f37) 0) L_law_taken_0 ∧ LoopOK E_law_taken 2 (loopAt (bodyOf Try.f37) 2) L_law_taken_2 ∧ True) := by kernel_rfl
theorem envok_law_taken (h_R_PlacesOf : SumOK Try.prog 35 S_R_PlacesOf) : EnvOK E_law_taken := ⟨sumsOf_ok (List.forall_mem_cons.2 ⟨h_R_PlacesOf, (fun _ h => nomatch h)⟩), follows⟩
theorem whole_law_taken (h_R_PlacesOf : SumOK Try.prog 35 S_R_PlacesOf) (l0 : LoopOK E_law_taken 0 (loopAt (bodyOf Try.f37) 0) L_law_taken_0) (l2 : LoopOK E_law_taken 2 (loopAt (bodyOf Try.f37) 2) L_law_taken_2) (main : ∀ (a0 : (Int × ((List (Int × (Int × (Int × (Int × (Int × Unit)))))) × Unit))) (a1 : (List (List (Int × (Int × Unit))))) (a2 : Int) (a3 : (List (Int × (Int × Unit)))) (a4 : Int), (gridErr a0 = (0 : Int) ∧ (↑(List.length a1) : Int) ≤ big ∧ a3 = Prod.fst (takeG a0 a1 a2) ∧ a4 = Prod.snd (takeG a0 a1 a2)) → W_law_taken a0 a1 a2 a3 a4) : SumOK Try.prog 37 S_law_taken :=
  fun_sound (E := E_law_taken) (envok_law_taken h_R_PlacesOf) (fn := Try.f37) (c := bodyOf Try.f37) (ts := [(10, none)]) S_law_taken Try.func37 (body_some (by kernel_rfl)) (by kernel_rfl) (Nat.le_of_ble_eq_true (by kernel_rfl)) (by kernel_rfl) (by kernel_rfl) (G_law_taken.mpr ⟨l0, l2, trivial⟩) (fun x hp => match x, hp with | (a0, a1, a2, a3, a4, ()), hp => (V_law_taken a0 a1 a2 a3 a4).mpr (main a0 a1 a2 a3 a4 hp))
end Go.Spec
