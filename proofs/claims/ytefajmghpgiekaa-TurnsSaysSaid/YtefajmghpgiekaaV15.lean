/- The runs of the functions, told. -/
import Derived.Test.YtefajmghpgiekaaLF
import Derived.Test.YtefajmghpgiekaaProg
import Derived.Test.YtefajmghpgiekaaS15
import Derived.Test.YtefajmghpgiekaaV1
set_option linter.unusedVariables false
set_option linter.unusedSimpArgs false
namespace Go.Spec
open Go Go.Lift Go.Proofs
attribute [local irreducible] Go.Lift.awp
/-! ### law_TurnsSays -/
def L_law_TurnsSays_0 : Lift.Loop := Lift.Loop.mk (u 1 ++ (.v (.ro (.pair (.ro (.pair (.int .i64) (.pair (.int .i64) (.pair (.int .i64) .unit)))) (.pair (.int .i64) .unit))) :: (.v (.int .i64) :: (u 4 ++ (.addr 0 :: (u 1 ++ (.addr 1 :: (.v (.int .i64) :: (u 89))))))))) [(0, .obox (.pair (.int .i64) (.pair (.int .i64) (.pair .bool (.pair (.arr 17 (.int .i64)) .unit))))), (1, .box (.pair (.int .i64) (.pair (.int .i64) (.pair .bool (.pair (.arr 17 (.int .i64)) .unit)))))] 2 (fun x y => p_law_TurnsSays_0 x.1 x.2.1 x.2.2.1 y.1 y.2.1) (fun x y => m_law_TurnsSays_0 x.1 x.2.1 x.2.2.1 y.1 y.2.1) (fun x y K => o_law_TurnsSays_0 x.1 x.2.1 x.2.2.1 y.1 y.2.1 K)
noncomputable def E_law_TurnsSays : Env := { P := Try.prog, sum := sumsOf [(25, S_turns_New), (26, S_turns_Turns_Slot), (27, S_R_Turns_Slot), (20, S_R_SameInts), (28, S_turns_Turns_Credit)], nio := 0, head := fun b => if b = 0 then ([1, 2, 7, 9, 10, 79, 80, 81, 86, 87], []) else ([], []), after := fun _ => none, leave := fun b => if b = 0 then [6] else [], loops := fun b => if b = 0 then some L_law_TurnsSays_0 else none }
def W_law_TurnsSays (a0 : Int) (a1 : (List ((List (Int × (Int × (Int × Unit)))) × (Int × Unit)))) (a2 : Int) : Prop := (
  (True) ∧
  condP (if decide (a0 < (1 : Int)) = true then true else decide (a0 > (10000 : Int)))
    (((if ((if (1 : Int) ≤ a0 ∧ a0 ≤ (10000 : Int) then (0 : Int) else (1 : Int)) == (1 : Int)) = true then Option.isNone (if (1 : Int) ≤ a0 ∧ a0 ≤ (10000 : Int) then some (newT a0) else none) else false) = true) ∧
    True)
    (condP ((if (1 : Int) ≤ a0 ∧ a0 ≤ (10000 : Int) then (0 : Int) else (1 : Int)) != (0 : Int))
      ((false = true) ∧
      True)
      ((p_law_TurnsSays_0 a1 a2 (0 : Int) (if (1 : Int) ≤ a0 ∧ a0 ≤ (10000 : Int) then some (newT a0) else none) (a0, (0 : Int), false, List.replicate (17 : Nat) (0 : Int), ())) ∧
      (true = true) ∧
      True)))
theorem V_law_TurnsSays (a0 : Int) (a1 : (List ((List (Int × (Int × (Int × Unit)))) × (Int × Unit)))) (a2 : Int) : awp E_law_TurnsSays (bodyOf Try.f5) 0 (fin Try.prog S_law_TurnsSays (a0, a1, a2, ()) [(6, none)] 0) (initSt S_law_TurnsSays.par (a0, a1, a2, ()) 100) = W_law_TurnsSays a0 a1 a2 := by kernel_rfl
def B_law_TurnsSays_0 (t1 : (List ((List (Int × (Int × (Int × Unit)))) × (Int × Unit)))) (t2 : Int) (t10 : Int) (r0 : (Option (Int × (Int × (Bool × ((List Int) × Unit)))))) (r1 : (Int × (Int × (Bool × ((List Int) × Unit))))) (m : Nat) (K : AExit → St → Prop) : Prop := (
  condP (decide (t10 < (↑(List.length t1) : Int)))
    (((0 : Int) ≤ t10) ∧
    (t10 < (↑(List.length t1) : Int)) ∧
    ((0 : Int) ≤ t10) ∧
    (t10 < (↑(List.length t1) : Int)) ∧
    (Option.isSome r0 = true) ∧
    (tOK (Option.getD r0 ((0 : Int), (0 : Int), false, List.replicate (17 : Nat) (0 : Int), ())) ∧ (↑(List.length (Prod.fst (List.getD t1 (Int.toNat t10) (@List.nil (Int × Int × Int × Unit), (0 : Int), ())))) : Int) ≤ big) ∧
    ((0 : Int) ≤ t10) ∧
    (t10 < (↑(List.length t1) : Int)) ∧
    ((0 : Int) ≤ t10) ∧
    (t10 < (↑(List.length t1) : Int)) ∧
    (tOK r1 ∧ (↑(List.length (Prod.fst (List.getD t1 (Int.toNat t10) (@List.nil (Int × Int × Int × Unit), (0 : Int), ())))) : Int) ≤ big) ∧
    ((↑(List.length (hide slotO (Option.getD r0 ((0 : Int), (0 : Int), false, List.replicate (17 : Nat) (0 : Int), ())) (Prod.fst (List.getD t1 (Int.toNat t10) (@List.nil (Int × Int × Int × Unit), (0 : Int), ()))) (Prod.fst (Prod.snd (List.getD t1 (Int.toNat t10) (@List.nil (Int × Int × Int × Unit), (0 : Int), ())))))) : Int) ≤ big) ∧
    condP (if (!decide (hide slotO (Option.getD r0 ((0 : Int), (0 : Int), false, List.replicate (17 : Nat) (0 : Int), ())) (Prod.fst (List.getD t1 (Int.toNat t10) (@List.nil (Int × Int × Int × Unit), (0 : Int), ()))) (Prod.fst (Prod.snd (List.getD t1 (Int.toNat t10) (@List.nil (Int × Int × Int × Unit), (0 : Int), ())))) = hide slotO r1 (Prod.fst (List.getD t1 (Int.toNat t10) (@List.nil (Int × Int × Int × Unit), (0 : Int), ()))) (Prod.fst (Prod.snd (List.getD t1 (Int.toNat t10) (@List.nil (Int × Int × Int × Unit), (0 : Int), ())))))) = true then true else hide slotErr (Prod.fst (List.getD t1 (Int.toNat t10) (@List.nil (Int × Int × Int × Unit), (0 : Int), ()))) (Prod.fst (Prod.snd (List.getD t1 (Int.toNat t10) (@List.nil (Int × Int × Int × Unit), (0 : Int), ())))) != hide slotErr (Prod.fst (List.getD t1 (Int.toNat t10) (@List.nil (Int × Int × Int × Unit), (0 : Int), ()))) (Prod.fst (Prod.snd (List.getD t1 (Int.toNat t10) (@List.nil (Int × Int × Int × Unit), (0 : Int), ())))))
      (X_law_TurnsSays_0_0 (false) K)
      (condP (if decide (t2 ≥ (1 : Int)) = true then decide (t2 ≤ (16 : Int)) else false)
        (((0 : Int) ≤ t2) ∧
        (t2 < (↑(17 : Nat) : Int)) ∧
        (True) ∧
        condP ((if (1 : Int) ≤ t2 ∧ t2 ≤ (16 : Int) then List.getD (Prod.fst (Prod.snd (Prod.snd (Prod.snd (hide slotT (Option.getD r0 ((0 : Int), (0 : Int), false, List.replicate (17 : Nat) (0 : Int), ())) (Prod.fst (List.getD t1 (Int.toNat t10) (@List.nil (Int × Int × Int × Unit), (0 : Int), ()))) (Prod.fst (Prod.snd (List.getD t1 (Int.toNat t10) (@List.nil (Int × Int × Int × Unit), (0 : Int), ()))))))))) (Int.toNat t2) (0 : Int) else (0 : Int)) != List.getD (Prod.fst (Prod.snd (Prod.snd (Prod.snd (hide slotT r1 (Prod.fst (List.getD t1 (Int.toNat t10) (@List.nil (Int × Int × Int × Unit), (0 : Int), ()))) (Prod.fst (Prod.snd (List.getD t1 (Int.toNat t10) (@List.nil (Int × Int × Int × Unit), (0 : Int), ()))))))))) (Int.toNat t2) (0 : Int))
          (X_law_TurnsSays_0_0 (false) K)
          ((p_law_TurnsSays_0 t1 t2 (IntKind.wrap IntKind.i64 (t10 + (1 : Int))) (some (hide slotT (Option.getD r0 ((0 : Int), (0 : Int), false, List.replicate (17 : Nat) (0 : Int), ())) (Prod.fst (List.getD t1 (Int.toNat t10) (@List.nil (Int × Int × Int × Unit), (0 : Int), ()))) (Prod.fst (Prod.snd (List.getD t1 (Int.toNat t10) (@List.nil (Int × Int × Int × Unit), (0 : Int), ())))))) (hide slotT r1 (Prod.fst (List.getD t1 (Int.toNat t10) (@List.nil (Int × Int × Int × Unit), (0 : Int), ()))) (Prod.fst (Prod.snd (List.getD t1 (Int.toNat t10) (@List.nil (Int × Int × Int × Unit), (0 : Int), ())))))) ∧
          (m_law_TurnsSays_0 t1 t2 (IntKind.wrap IntKind.i64 (t10 + (1 : Int))) (some (hide slotT (Option.getD r0 ((0 : Int), (0 : Int), false, List.replicate (17 : Nat) (0 : Int), ())) (Prod.fst (List.getD t1 (Int.toNat t10) (@List.nil (Int × Int × Int × Unit), (0 : Int), ()))) (Prod.fst (Prod.snd (List.getD t1 (Int.toNat t10) (@List.nil (Int × Int × Int × Unit), (0 : Int), ())))))) (hide slotT r1 (Prod.fst (List.getD t1 (Int.toNat t10) (@List.nil (Int × Int × Int × Unit), (0 : Int), ()))) (Prod.fst (Prod.snd (List.getD t1 (Int.toNat t10) (@List.nil (Int × Int × Int × Unit), (0 : Int), ()))))) < m) ∧
          o_law_TurnsSays_0 t1 t2 (IntKind.wrap IntKind.i64 (t10 + (1 : Int))) (some (hide slotT (Option.getD r0 ((0 : Int), (0 : Int), false, List.replicate (17 : Nat) (0 : Int), ())) (Prod.fst (List.getD t1 (Int.toNat t10) (@List.nil (Int × Int × Int × Unit), (0 : Int), ()))) (Prod.fst (Prod.snd (List.getD t1 (Int.toNat t10) (@List.nil (Int × Int × Int × Unit), (0 : Int), ())))))) (hide slotT r1 (Prod.fst (List.getD t1 (Int.toNat t10) (@List.nil (Int × Int × Int × Unit), (0 : Int), ()))) (Prod.fst (Prod.snd (List.getD t1 (Int.toNat t10) (@List.nil (Int × Int × Int × Unit), (0 : Int), ()))))) K))
        ((True) ∧
        condP ((if (1 : Int) ≤ t2 ∧ t2 ≤ (16 : Int) then List.getD (Prod.fst (Prod.snd (Prod.snd (Prod.snd (hide slotT (Option.getD r0 ((0 : Int), (0 : Int), false, List.replicate (17 : Nat) (0 : Int), ())) (Prod.fst (List.getD t1 (Int.toNat t10) (@List.nil (Int × Int × Int × Unit), (0 : Int), ()))) (Prod.fst (Prod.snd (List.getD t1 (Int.toNat t10) (@List.nil (Int × Int × Int × Unit), (0 : Int), ()))))))))) (Int.toNat t2) (0 : Int) else (0 : Int)) != (0 : Int))
          (X_law_TurnsSays_0_0 (false) K)
          ((p_law_TurnsSays_0 t1 t2 (IntKind.wrap IntKind.i64 (t10 + (1 : Int))) (some (hide slotT (Option.getD r0 ((0 : Int), (0 : Int), false, List.replicate (17 : Nat) (0 : Int), ())) (Prod.fst (List.getD t1 (Int.toNat t10) (@List.nil (Int × Int × Int × Unit), (0 : Int), ()))) (Prod.fst (Prod.snd (List.getD t1 (Int.toNat t10) (@List.nil (Int × Int × Int × Unit), (0 : Int), ())))))) (hide slotT r1 (Prod.fst (List.getD t1 (Int.toNat t10) (@List.nil (Int × Int × Int × Unit), (0 : Int), ()))) (Prod.fst (Prod.snd (List.getD t1 (Int.toNat t10) (@List.nil (Int × Int × Int × Unit), (0 : Int), ())))))) ∧
          (m_law_TurnsSays_0 t1 t2 (IntKind.wrap IntKind.i64 (t10 + (1 : Int))) (some (hide slotT (Option.getD r0 ((0 : Int), (0 : Int), false, List.replicate (17 : Nat) (0 : Int), ())) (Prod.fst (List.getD t1 (Int.toNat t10) (@List.nil (Int × Int × Int × Unit), (0 : Int), ()))) (Prod.fst (Prod.snd (List.getD t1 (Int.toNat t10) (@List.nil (Int × Int × Int × Unit), (0 : Int), ())))))) (hide slotT r1 (Prod.fst (List.getD t1 (Int.toNat t10) (@List.nil (Int × Int × Int × Unit), (0 : Int), ()))) (Prod.fst (Prod.snd (List.getD t1 (Int.toNat t10) (@List.nil (Int × Int × Int × Unit), (0 : Int), ()))))) < m) ∧
          o_law_TurnsSays_0 t1 t2 (IntKind.wrap IntKind.i64 (t10 + (1 : Int))) (some (hide slotT (Option.getD r0 ((0 : Int), (0 : Int), false, List.replicate (17 : Nat) (0 : Int), ())) (Prod.fst (List.getD t1 (Int.toNat t10) (@List.nil (Int × Int × Int × Unit), (0 : Int), ()))) (Prod.fst (Prod.snd (List.getD t1 (Int.toNat t10) (@List.nil (Int × Int × Int × Unit), (0 : Int), ())))))) (hide slotT r1 (Prod.fst (List.getD t1 (Int.toNat t10) (@List.nil (Int × Int × Int × Unit), (0 : Int), ()))) (Prod.fst (Prod.snd (List.getD t1 (Int.toNat t10) (@List.nil (Int × Int × Int × Unit), (0 : Int), ()))))) K))))
    (X_law_TurnsSays_0_1  K))
theorem R_law_TurnsSays_0 (t1 : (List ((List (Int × (Int × (Int × Unit)))) × (Int × Unit)))) (t2 : Int) (t10 : Int) (r0 : (Option (Int × (Int × (Bool × ((List Int) × Unit)))))) (r1 : (Int × (Int × (Bool × ((List Int) × Unit))))) (m : Nat) (K : AExit → St → Prop) : awp E_law_TurnsSays (loopAt (bodyOf Try.f5) 0) 0 (roundP E_law_TurnsSays 0 L_law_TurnsSays_0 m K) (L_law_TurnsSays_0.abs (t1, t2, t10, ()) (r0, r1, ())) = B_law_TurnsSays_0 t1 t2 t10 r0 r1 m K := by kernel_rfl
theorem I_law_TurnsSays_0 (h : ∀ (t1 : (List ((List (Int × (Int × (Int × Unit)))) × (Int × Unit)))) (t2 : Int) (t10 : Int) (r0 : (Option (Int × (Int × (Bool × ((List Int) × Unit)))))) (r1 : (Int × (Int × (Bool × ((List Int) × Unit))))) (K : AExit → St → Prop), p_law_TurnsSays_0 t1 t2 t10 r0 r1 → o_law_TurnsSays_0 t1 t2 t10 r0 r1 K → B_law_TurnsSays_0 t1 t2 t10 r0 r1 (m_law_TurnsSays_0 t1 t2 t10 r0 r1) K) : LoopOK E_law_TurnsSays 0 (loopAt (bodyOf Try.f5) 0) L_law_TurnsSays_0 :=
  fun x y K hp ho => match x, y, hp, ho with | (t1, t2, t10, ()), (r0, r1, ()), hp, ho => (R_law_TurnsSays_0 t1 t2 t10 r0 r1 (m_law_TurnsSays_0 t1 t2 t10 r0 r1) K).mpr (h t1 t2 t10 r0 r1 K hp ho)
theorem G_law_TurnsSays : loopsAll E_law_TurnsSays (loopList (bodyOf Try.f5) 0) = (LoopOK E_law_TurnsSays 0 (loopAt (bodyOf Try.f5) 0) L_law_TurnsSays_0 ∧ True) := by kernel_rfl
theorem envok_law_TurnsSays (h_turns_New : SumOK Try.prog 25 S_turns_New) (h_turns_Turns_Slot : SumOK Try.prog 26 S_turns_Turns_Slot) (h_R_Turns_Slot : SumOK Try.prog 27 S_R_Turns_Slot) (h_R_SameInts : SumOK Try.prog 20 S_R_SameInts) (h_turns_Turns_Credit : SumOK Try.prog 28 S_turns_Turns_Credit) : EnvOK E_law_TurnsSays := ⟨sumsOf_ok (List.forall_mem_cons.2 ⟨h_turns_New, (List.forall_mem_cons.2 ⟨h_turns_Turns_Slot, (List.forall_mem_cons.2 ⟨h_R_Turns_Slot, (List.forall_mem_cons.2 ⟨h_R_SameInts, (List.forall_mem_cons.2 ⟨h_turns_Turns_Credit, (fun _ h => nomatch h)⟩)⟩)⟩)⟩)⟩), follows⟩
theorem whole_law_TurnsSays (h_turns_New : SumOK Try.prog 25 S_turns_New) (h_turns_Turns_Slot : SumOK Try.prog 26 S_turns_Turns_Slot) (h_R_Turns_Slot : SumOK Try.prog 27 S_R_Turns_Slot) (h_R_SameInts : SumOK Try.prog 20 S_R_SameInts) (h_turns_Turns_Credit : SumOK Try.prog 28 S_turns_Turns_Credit) (l0 : LoopOK E_law_TurnsSays 0 (loopAt (bodyOf Try.f5) 0) L_law_TurnsSays_0) (main : ∀ (a0 : Int) (a1 : (List ((List (Int × (Int × (Int × Unit)))) × (Int × Unit)))) (a2 : Int), (slotsOK a1) → W_law_TurnsSays a0 a1 a2) : SumOK Try.prog 5 S_law_TurnsSays :=
  fun_sound (E := E_law_TurnsSays) (envok_law_TurnsSays h_turns_New h_turns_Turns_Slot h_R_Turns_Slot h_R_SameInts h_turns_Turns_Credit) (fn := Try.f5) (c := bodyOf Try.f5) (ts := [(6, none)]) S_law_TurnsSays Try.func5 (body_some (by kernel_rfl)) (by kernel_rfl) (by kernel_rfl) (by kernel_rfl) (G_law_TurnsSays.mpr ⟨l0, trivial⟩) (fun x hp => match x, hp with | (a0, a1, a2, ()), hp => (V_law_TurnsSays a0 a1 a2).mpr (main a0 a1 a2 hp))
end Go.Spec
