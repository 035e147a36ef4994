/- The runs of the functions, told. -/
import Derived.Test.YtppemehkbnbjlaaLF
import Derived.Test.YtppemehkbnbjlaaProg
import Derived.Test.YtppemehkbnbjlaaS8
import Derived.Test.YtppemehkbnbjlaaV7
set_option linter.unusedVariables false
set_option linter.unusedSimpArgs false
namespace Go.Spec
open Go Go.Lift Go.Proofs
attribute [local irreducible] Go.Lift.awp
/-! ### law_MatchPicks -/
def L_law_MatchPicks_0 : Lift.Loop := Lift.Loop.mk 147 (.v (.ro (.int .u8)) :: (u 2 ++ (.v (.int .i64) :: (u 9 ++ (.sl 0 :: (u 2 ++ (.sl 1 :: (.v (.int .i64) :: (u 129))))))))) [(0, .row (.int .u8) []), (1, .row (.int .i64) [])] 2 (fun x y => p_law_MatchPicks_0 x.1 x.2.1 x.2.2.1 y.1 y.2.1) (fun x y => m_law_MatchPicks_0 x.1 x.2.1 x.2.2.1 y.1 y.2.1) (fun x y K => o_law_MatchPicks_0 x.1 x.2.1 x.2.2.1 y.1 y.2.1 K)
noncomputable def E_law_MatchPicks : Env := { P := Try.prog, sum := sumsOf [(15, S_match_Order), (17, S_R_Order), (16, S_R_SameInts), (18, S_match_Begin), (19, S_R_Version), (20, S_match_Pick), (21, S_R_Bits), (22, S_R_Picked)], nio := 0, head := fun b => if b = 0 then ([0, 3, 13, 16, 17], []) else ([], []), after := fun _ => none, leave := fun b => if b = 0 then [8] else [], loops := fun b => if b = 0 then some L_law_MatchPicks_0 else none }
def W_law_MatchPicks (a0 : (List Int)) (a1 : Int) (a2 : Int) (a3 : Int) : Prop := (
  (True) ∧
  condP (if decide (a1 < (0 : Int)) = true then true else decide (a1 > (4096 : Int)))
    (condP (if (orderErr a1 != (1 : Int)) = true then true else decide ((↑(List.length (orderOf a1)) : Int) > (0 : Int)))
      ((false = true) ∧
      True)
      ((True) ∧
      ((if decide (a1 < (1 : Int)) = true then true else decide (a1 > (4096 : Int))) = false → True) ∧
      condP (if (if decide (a1 < (1 : Int)) = true then true else decide (a1 > (4096 : Int))) = true then true else !versionB a2)
        (condP (if (Prod.snd (beginOf a1 a2) != (1 : Int)) = true then true else Prod.fst (beginOf a1 a2) != (0 : Int))
          ((false = true) ∧
          True)
          (((↑(List.length a0) : Int) ≤ big ∧ ∀ (y : Int), y ∈ a0 → (0 : Int) ≤ y) ∧
          ((↑(List.length a0) : Int) ≤ big) ∧
          (((bitsErr a0 == (0 : Int)) == true && ((↑(List.length a0) : Int) == (0 : Int)) == false) = true → True) ∧
          condP (if (bitsErr a0 == (0 : Int)) = true then if (if (if ((↑(List.length a0) : Int) == (0 : Int)) = true then true else !versionB a2) = true then true else decide (a3 < (0 : Int))) = true then true else decide (a3 > (4096 : Int)) else false)
            (condP ((1 : Int) != (0 : Int))
              (((if (pickErr a0 a2 a3 == (1 : Int)) = true then (↑(List.length (pickOf a0 a2 a3)) : Int) == (0 : Int) else false) = true) ∧
              True)
              (((1 : Int) ≤ (↑(List.length a0) : Int) ∧ (↑(List.length a0) : Int) ≤ (4096 : Int) ∧ (0 : Int) ≤ a2 ∧ a2 ≤ (3 : Int) ∧ (0 : Int) ≤ a3 ∧ a3 ≤ (4096 : Int)) ∧
              condP (if (pickErr a0 a2 a3 != (0 : Int)) = true then true else (↑(List.length (pickOf a0 a2 a3)) : Int) != a3)
                ((false = true) ∧
                True)
                ((p_law_MatchPicks_0 a0 a3 (0 : Int) (pickOf a0 a2 a3) (pickedL (↑(List.length a0) : Int) (Prod.fst (beginOf (↑(List.length a0) : Int) a2)) (Int.toNat a3))) ∧
                (true = true) ∧
                True)))
            (condP (bitsErr a0 != (0 : Int))
              (((if (pickErr a0 a2 a3 == bitsErr a0) = true then (↑(List.length (pickOf a0 a2 a3)) : Int) == (0 : Int) else false) = true) ∧
              True)
              (((1 : Int) ≤ (↑(List.length a0) : Int) ∧ (↑(List.length a0) : Int) ≤ (4096 : Int) ∧ (0 : Int) ≤ a2 ∧ a2 ≤ (3 : Int) ∧ (0 : Int) ≤ a3 ∧ a3 ≤ (4096 : Int)) ∧
              condP (if (pickErr a0 a2 a3 != (0 : Int)) = true then true else (↑(List.length (pickOf a0 a2 a3)) : Int) != a3)
                ((false = true) ∧
                True)
                ((p_law_MatchPicks_0 a0 a3 (0 : Int) (pickOf a0 a2 a3) (pickedL (↑(List.length a0) : Int) (Prod.fst (beginOf (↑(List.length a0) : Int) a2)) (Int.toNat a3))) ∧
                (true = true) ∧
                True)))))
        (((Prod.snd (beginOf a1 a2) != (0 : Int)) = false → (4 : Int) ≠ (0 : Int)) ∧
        condP (if (Prod.snd (beginOf a1 a2) != (0 : Int)) = true then true else Prod.fst (beginOf a1 a2) != IntKind.wrap IntKind.i64 (Int.tdiv (IntKind.wrap IntKind.i64 (a2 * a1)) (4 : Int)))
          ((false = true) ∧
          True)
          (((↑(List.length a0) : Int) ≤ big ∧ ∀ (y : Int), y ∈ a0 → (0 : Int) ≤ y) ∧
          ((↑(List.length a0) : Int) ≤ big) ∧
          (((bitsErr a0 == (0 : Int)) == true && ((↑(List.length a0) : Int) == (0 : Int)) == false) = true → True) ∧
          condP (if (bitsErr a0 == (0 : Int)) = true then if (if (if ((↑(List.length a0) : Int) == (0 : Int)) = true then true else !versionB a2) = true then true else decide (a3 < (0 : Int))) = true then true else decide (a3 > (4096 : Int)) else false)
            (condP ((1 : Int) != (0 : Int))
              (((if (pickErr a0 a2 a3 == (1 : Int)) = true then (↑(List.length (pickOf a0 a2 a3)) : Int) == (0 : Int) else false) = true) ∧
              True)
              (((1 : Int) ≤ (↑(List.length a0) : Int) ∧ (↑(List.length a0) : Int) ≤ (4096 : Int) ∧ (0 : Int) ≤ a2 ∧ a2 ≤ (3 : Int) ∧ (0 : Int) ≤ a3 ∧ a3 ≤ (4096 : Int)) ∧
              condP (if (pickErr a0 a2 a3 != (0 : Int)) = true then true else (↑(List.length (pickOf a0 a2 a3)) : Int) != a3)
                ((false = true) ∧
                True)
                ((p_law_MatchPicks_0 a0 a3 (0 : Int) (pickOf a0 a2 a3) (pickedL (↑(List.length a0) : Int) (Prod.fst (beginOf (↑(List.length a0) : Int) a2)) (Int.toNat a3))) ∧
                (true = true) ∧
                True)))
            (condP (bitsErr a0 != (0 : Int))
              (((if (pickErr a0 a2 a3 == bitsErr a0) = true then (↑(List.length (pickOf a0 a2 a3)) : Int) == (0 : Int) else false) = true) ∧
              True)
              (((1 : Int) ≤ (↑(List.length a0) : Int) ∧ (↑(List.length a0) : Int) ≤ (4096 : Int) ∧ (0 : Int) ≤ a2 ∧ a2 ≤ (3 : Int) ∧ (0 : Int) ≤ a3 ∧ a3 ≤ (4096 : Int)) ∧
              condP (if (pickErr a0 a2 a3 != (0 : Int)) = true then true else (↑(List.length (pickOf a0 a2 a3)) : Int) != a3)
                ((false = true) ∧
                True)
                ((p_law_MatchPicks_0 a0 a3 (0 : Int) (pickOf a0 a2 a3) (pickedL (↑(List.length a0) : Int) (Prod.fst (beginOf (↑(List.length a0) : Int) a2)) (Int.toNat a3))) ∧
                (true = true) ∧
                True)))))))
    (((orderErr a1 != (0 : Int)) = false → a1 ≤ (1000000 : Int)) ∧
    ((orderErr a1 != (0 : Int)) = false → (↑(List.length (orderOf a1)) : Int) ≤ big) ∧
    condP (if (orderErr a1 != (0 : Int)) = true then true else !decide (orderOf a1 = turnL a1))
      ((false = true) ∧
      True)
      ((True) ∧
      ((if decide (a1 < (1 : Int)) = true then true else decide (a1 > (4096 : Int))) = false → True) ∧
      condP (if (if decide (a1 < (1 : Int)) = true then true else decide (a1 > (4096 : Int))) = true then true else !versionB a2)
        (condP (if (Prod.snd (beginOf a1 a2) != (1 : Int)) = true then true else Prod.fst (beginOf a1 a2) != (0 : Int))
          ((false = true) ∧
          True)
          (((↑(List.length a0) : Int) ≤ big ∧ ∀ (y : Int), y ∈ a0 → (0 : Int) ≤ y) ∧
          ((↑(List.length a0) : Int) ≤ big) ∧
          (((bitsErr a0 == (0 : Int)) == true && ((↑(List.length a0) : Int) == (0 : Int)) == false) = true → True) ∧
          condP (if (bitsErr a0 == (0 : Int)) = true then if (if (if ((↑(List.length a0) : Int) == (0 : Int)) = true then true else !versionB a2) = true then true else decide (a3 < (0 : Int))) = true then true else decide (a3 > (4096 : Int)) else false)
            (condP ((1 : Int) != (0 : Int))
              (((if (pickErr a0 a2 a3 == (1 : Int)) = true then (↑(List.length (pickOf a0 a2 a3)) : Int) == (0 : Int) else false) = true) ∧
              True)
              (((1 : Int) ≤ (↑(List.length a0) : Int) ∧ (↑(List.length a0) : Int) ≤ (4096 : Int) ∧ (0 : Int) ≤ a2 ∧ a2 ≤ (3 : Int) ∧ (0 : Int) ≤ a3 ∧ a3 ≤ (4096 : Int)) ∧
              condP (if (pickErr a0 a2 a3 != (0 : Int)) = true then true else (↑(List.length (pickOf a0 a2 a3)) : Int) != a3)
                ((false = true) ∧
                True)
                ((p_law_MatchPicks_0 a0 a3 (0 : Int) (pickOf a0 a2 a3) (pickedL (↑(List.length a0) : Int) (Prod.fst (beginOf (↑(List.length a0) : Int) a2)) (Int.toNat a3))) ∧
                (true = true) ∧
                True)))
            (condP (bitsErr a0 != (0 : Int))
              (((if (pickErr a0 a2 a3 == bitsErr a0) = true then (↑(List.length (pickOf a0 a2 a3)) : Int) == (0 : Int) else false) = true) ∧
              True)
              (((1 : Int) ≤ (↑(List.length a0) : Int) ∧ (↑(List.length a0) : Int) ≤ (4096 : Int) ∧ (0 : Int) ≤ a2 ∧ a2 ≤ (3 : Int) ∧ (0 : Int) ≤ a3 ∧ a3 ≤ (4096 : Int)) ∧
              condP (if (pickErr a0 a2 a3 != (0 : Int)) = true then true else (↑(List.length (pickOf a0 a2 a3)) : Int) != a3)
                ((false = true) ∧
                True)
                ((p_law_MatchPicks_0 a0 a3 (0 : Int) (pickOf a0 a2 a3) (pickedL (↑(List.length a0) : Int) (Prod.fst (beginOf (↑(List.length a0) : Int) a2)) (Int.toNat a3))) ∧
                (true = true) ∧
                True)))))
        (((Prod.snd (beginOf a1 a2) != (0 : Int)) = false → (4 : Int) ≠ (0 : Int)) ∧
        condP (if (Prod.snd (beginOf a1 a2) != (0 : Int)) = true then true else Prod.fst (beginOf a1 a2) != IntKind.wrap IntKind.i64 (Int.tdiv (IntKind.wrap IntKind.i64 (a2 * a1)) (4 : Int)))
          ((false = true) ∧
          True)
          (((↑(List.length a0) : Int) ≤ big ∧ ∀ (y : Int), y ∈ a0 → (0 : Int) ≤ y) ∧
          ((↑(List.length a0) : Int) ≤ big) ∧
          (((bitsErr a0 == (0 : Int)) == true && ((↑(List.length a0) : Int) == (0 : Int)) == false) = true → True) ∧
          condP (if (bitsErr a0 == (0 : Int)) = true then if (if (if ((↑(List.length a0) : Int) == (0 : Int)) = true then true else !versionB a2) = true then true else decide (a3 < (0 : Int))) = true then true else decide (a3 > (4096 : Int)) else false)
            (condP ((1 : Int) != (0 : Int))
              (((if (pickErr a0 a2 a3 == (1 : Int)) = true then (↑(List.length (pickOf a0 a2 a3)) : Int) == (0 : Int) else false) = true) ∧
              True)
              (((1 : Int) ≤ (↑(List.length a0) : Int) ∧ (↑(List.length a0) : Int) ≤ (4096 : Int) ∧ (0 : Int) ≤ a2 ∧ a2 ≤ (3 : Int) ∧ (0 : Int) ≤ a3 ∧ a3 ≤ (4096 : Int)) ∧
              condP (if (pickErr a0 a2 a3 != (0 : Int)) = true then true else (↑(List.length (pickOf a0 a2 a3)) : Int) != a3)
                ((false = true) ∧
                True)
                ((p_law_MatchPicks_0 a0 a3 (0 : Int) (pickOf a0 a2 a3) (pickedL (↑(List.length a0) : Int) (Prod.fst (beginOf (↑(List.length a0) : Int) a2)) (Int.toNat a3))) ∧
                (true = true) ∧
                True)))
            (condP (bitsErr a0 != (0 : Int))
              (((if (pickErr a0 a2 a3 == bitsErr a0) = true then (↑(List.length (pickOf a0 a2 a3)) : Int) == (0 : Int) else false) = true) ∧
              True)
              (((1 : Int) ≤ (↑(List.length a0) : Int) ∧ (↑(List.length a0) : Int) ≤ (4096 : Int) ∧ (0 : Int) ≤ a2 ∧ a2 ≤ (3 : Int) ∧ (0 : Int) ≤ a3 ∧ a3 ≤ (4096 : Int)) ∧
              condP (if (pickErr a0 a2 a3 != (0 : Int)) = true then true else (↑(List.length (pickOf a0 a2 a3)) : Int) != a3)
                ((false = true) ∧
                True)
                ((p_law_MatchPicks_0 a0 a3 (0 : Int) (pickOf a0 a2 a3) (pickedL (↑(List.length a0) : Int) (Prod.fst (beginOf (↑(List.length a0) : Int) a2)) (Int.toNat a3))) ∧
                (true = true) ∧
                True))))))))
theorem V_law_MatchPicks (a0 : (List Int)) (a1 : Int) (a2 : Int) (a3 : Int) : awp E_law_MatchPicks (bodyOf Try.f3) 0 (fin Try.prog S_law_MatchPicks (a0, a1, a2, a3, ()) [(8, none)] 0) (initSt S_law_MatchPicks.par (a0, a1, a2, a3, ()) 147) = W_law_MatchPicks a0 a1 a2 a3 := by kernel_rfl
def B_law_MatchPicks_0 (t0 : (List Int)) (t3 : Int) (t17 : Int) (r0 : (List Int)) (r1 : (List Int)) (m : Nat) (K : AExit → St → Prop) : Prop := (
  condP (decide (t17 < t3))
    (((0 : Int) ≤ t17) ∧
    (t17 < (↑(List.length r0) : Int)) ∧
    ((0 : Int) ≤ t17) ∧
    (t17 < (↑(List.length r1) : Int)) ∧
    ((0 : Int) ≤ List.getD r1 (Int.toNat t17) (0 : Int)) ∧
    (List.getD r1 (Int.toNat t17) (0 : Int) < (↑(List.length t0) : Int)) ∧
    condP (List.getD r0 (Int.toNat t17) (0 : Int) != List.getD t0 (Int.toNat (List.getD r1 (Int.toNat t17) (0 : Int))) (0 : Int))
      (X_law_MatchPicks_0_0 (false) K)
      ((p_law_MatchPicks_0 t0 t3 (IntKind.wrap IntKind.i64 (t17 + (1 : Int))) r0 r1) ∧
      (m_law_MatchPicks_0 t0 t3 (IntKind.wrap IntKind.i64 (t17 + (1 : Int))) r0 r1 < m) ∧
      o_law_MatchPicks_0 t0 t3 (IntKind.wrap IntKind.i64 (t17 + (1 : Int))) r0 r1 K))
    (X_law_MatchPicks_0_1  K))
theorem R_law_MatchPicks_0 (t0 : (List Int)) (t3 : Int) (t17 : Int) (r0 : (List Int)) (r1 : (List Int)) (m : Nat) (K : AExit → St → Prop) : awp E_law_MatchPicks (loopAt (bodyOf Try.f3) 0) 0 (roundP E_law_MatchPicks 0 L_law_MatchPicks_0 m K) (L_law_MatchPicks_0.abs (t0, t3, t17, ()) (r0, r1, ())) = B_law_MatchPicks_0 t0 t3 t17 r0 r1 m K := by kernel_rfl
theorem I_law_MatchPicks_0 (h : ∀ (t0 : (List Int)) (t3 : Int) (t17 : Int) (r0 : (List Int)) (r1 : (List Int)) (K : AExit → St → Prop), p_law_MatchPicks_0 t0 t3 t17 r0 r1 → o_law_MatchPicks_0 t0 t3 t17 r0 r1 K → B_law_MatchPicks_0 t0 t3 t17 r0 r1 (m_law_MatchPicks_0 t0 t3 t17 r0 r1) K) : LoopOK E_law_MatchPicks 0 (loopAt (bodyOf Try.f3) 0) L_law_MatchPicks_0 :=
  fun x y K hp ho => match x, y, hp, ho with | (t0, t3, t17, ()), (r0, r1, ()), hp, ho => (R_law_MatchPicks_0 t0 t3 t17 r0 r1 (m_law_MatchPicks_0 t0 t3 t17 r0 r1) K).mpr (h t0 t3 t17 r0 r1 K hp ho)
theorem G_law_MatchPicks : loopsAll E_law_MatchPicks (loopList (bodyOf Try.f3) 0) = (LoopOK E_law_MatchPicks 0 (loopAt (bodyOf Try.f3) 0) L_law_MatchPicks_0 ∧ True) := by kernel_rfl
theorem envok_law_MatchPicks (h_match_Order : SumOK Try.prog 15 S_match_Order) (h_R_Order : SumOK Try.prog 17 S_R_Order) (h_R_SameInts : SumOK Try.prog 16 S_R_SameInts) (h_match_Begin : SumOK Try.prog 18 S_match_Begin) (h_R_Version : SumOK Try.prog 19 S_R_Version) (h_match_Pick : SumOK Try.prog 20 S_match_Pick) (h_R_Bits : SumOK Try.prog 21 S_R_Bits) (h_R_Picked : SumOK Try.prog 22 S_R_Picked) : EnvOK E_law_MatchPicks := ⟨sumsOf_ok (List.forall_mem_cons.2 ⟨h_match_Order, (List.forall_mem_cons.2 ⟨h_R_Order, (List.forall_mem_cons.2 ⟨h_R_SameInts, (List.forall_mem_cons.2 ⟨h_match_Begin, (List.forall_mem_cons.2 ⟨h_R_Version, (List.forall_mem_cons.2 ⟨h_match_Pick, (List.forall_mem_cons.2 ⟨h_R_Bits, (List.forall_mem_cons.2 ⟨h_R_Picked, (fun _ h => nomatch h)⟩)⟩)⟩)⟩)⟩)⟩)⟩)⟩), follows⟩
theorem whole_law_MatchPicks (h_match_Order : SumOK Try.prog 15 S_match_Order) (h_R_Order : SumOK Try.prog 17 S_R_Order) (h_R_SameInts : SumOK Try.prog 16 S_R_SameInts) (h_match_Begin : SumOK Try.prog 18 S_match_Begin) (h_R_Version : SumOK Try.prog 19 S_R_Version) (h_match_Pick : SumOK Try.prog 20 S_match_Pick) (h_R_Bits : SumOK Try.prog 21 S_R_Bits) (h_R_Picked : SumOK Try.prog 22 S_R_Picked) (l0 : LoopOK E_law_MatchPicks 0 (loopAt (bodyOf Try.f3) 0) L_law_MatchPicks_0) (main : ∀ (a0 : (List Int)) (a1 : Int) (a2 : Int) (a3 : Int), ((↑(List.length a0) : Int) ≤ big ∧ ∀ (y : Int), y ∈ a0 → (0 : Int) ≤ y) → W_law_MatchPicks a0 a1 a2 a3) : SumOK Try.prog 3 S_law_MatchPicks :=
  fun_sound (E := E_law_MatchPicks) (envok_law_MatchPicks h_match_Order h_R_Order h_R_SameInts h_match_Begin h_R_Version h_match_Pick h_R_Bits h_R_Picked) (fn := Try.f3) (c := bodyOf Try.f3) (ts := [(8, none)]) S_law_MatchPicks Try.func3 (body_some (by kernel_rfl)) (by kernel_rfl) (Nat.le_of_ble_eq_true (by kernel_rfl)) (by kernel_rfl) (by kernel_rfl) (G_law_MatchPicks.mpr ⟨l0, trivial⟩) (fun x hp => match x, hp with | (a0, a1, a2, a3, ()), hp => (V_law_MatchPicks a0 a1 a2 a3).mpr (main a0 a1 a2 a3 hp))
/-! ### law_MatchGathers -/
def L_law_MatchGathers_0 : Lift.Loop := Lift.Loop.mk 128 (.v (.int .i64) :: (.v (.ro (.pair (.ro (.int .i64)) (.pair (.int .i64) .unit))) :: (u 3 ++ (.addr 0 :: (u 1 ++ (.sl 1 :: (.v (.int .i64) :: (u 119)))))))) [(0, .obox (.pair (.ro (.int .i64)) .unit) []), (1, .row (.int .i64) [])] 2 (fun x y => p_law_MatchGathers_0 x.1 x.2.1 x.2.2.1 y.1 y.2.1) (fun x y => m_law_MatchGathers_0 x.1 x.2.1 x.2.2.1 y.1 y.2.1) (fun x y K => o_law_MatchGathers_0 x.1 x.2.1 x.2.2.1 y.1 y.2.1 K)
def L_law_MatchGathers_2 : Lift.Loop := Lift.Loop.mk 128 (.v (.int .i64) :: (.v (.ro (.pair (.ro (.int .i64)) (.pair (.int .i64) .unit))) :: (u 3 ++ (.addr 0 :: (u 1 ++ (.sl 1 :: (.v (.int .i64) :: (.v (.int .i64) :: (.sl 2 :: (.sl 3 :: (.v (.int .i64) :: (u 115)))))))))))) [(0, .obox (.pair (.ro (.int .i64)) .unit) []), (1, .row (.int .i64) []), (2, .row (.int .i64) []), (3, .row (.int .i64) [])] 4 (fun x y => p_law_MatchGathers_2 x.1 x.2.1 x.2.2.1 x.2.2.2.1 x.2.2.2.2.1 y.1 y.2.1 y.2.2.1 y.2.2.2.1) (fun x y => m_law_MatchGathers_2 x.1 x.2.1 x.2.2.1 x.2.2.2.1 x.2.2.2.2.1 y.1 y.2.1 y.2.2.1 y.2.2.2.1) (fun x y K => o_law_MatchGathers_2 x.1 x.2.1 x.2.2.1 x.2.2.2.1 x.2.2.2.2.1 y.1 y.2.1 y.2.2.1 y.2.2.2.1 K)
noncomputable def E_law_MatchGathers : Env := { P := Try.prog, sum := sumsOf [(23, S_match_New), (24, S_R_Soft), (19, S_R_Version), (22, S_R_Picked), (25, S_match_Buffer_Add), (26, S_match_Buffer_Soft), (16, S_R_SameInts)], nio := 0, head := fun b => if b = 2 then ([0, 1, 5, 7, 8, 9, 10, 11, 12, 50, 51, 52, 53, 54, 55, 56, 59, 60, 61, 62, 63, 64, 65, 122, 123, 124, 125, 126], []) else if b = 0 then ([0, 1, 5, 7, 8, 50, 51, 52, 53, 54, 55, 56, 59, 60, 61, 62, 63, 64, 65, 122, 123, 124, 125, 126], []) else ([], []), after := fun _ => none, leave := fun b => if b = 2 then [0, 1, 4, 5, 7, 8, 9, 10, 50, 51, 52, 53, 54, 55, 56, 59, 60, 61, 62, 63, 64, 65, 122, 123, 124, 125, 126] else if b = 0 then [4] else [], loops := fun b => if b = 2 then some L_law_MatchGathers_2 else if b = 0 then some L_law_MatchGathers_0 else none }
def W_law_MatchGathers (a0 : Int) (a1 : (List ((List Int) × (Int × Unit)))) : Prop := (
  (True) ∧
  condP (if decide (a0 < (1 : Int)) = true then true else decide (a0 > (4096 : Int)))
    (((if ((if (1 : Int) ≤ a0 ∧ a0 ≤ (4096 : Int) then (0 : Int) else (1 : Int)) == (1 : Int)) = true then Option.isNone (if (1 : Int) ≤ a0 ∧ a0 ≤ (4096 : Int) then some (List.replicate (Int.toNat a0) (0 : Int), ()) else none) else false) = true) ∧
    True)
    (condP ((if (1 : Int) ≤ a0 ∧ a0 ≤ (4096 : Int) then (0 : Int) else (1 : Int)) != (0 : Int))
      ((false = true) ∧
      True)
      (((0 : Int) ≤ a0) ∧
      (a0 ≤ a0) ∧
      ((↑(8 : Nat) : Int) * a0 ≤ (281474976710656 : Int)) ∧
      (p_law_MatchGathers_0 a0 a1 (0 : Int) (if (1 : Int) ≤ a0 ∧ a0 ≤ (4096 : Int) then some (List.replicate (Int.toNat a0) (0 : Int), ()) else none) (List.replicate (Int.toNat a0) (0 : Int))) ∧
      (true = true) ∧
      True)))
theorem V_law_MatchGathers (a0 : Int) (a1 : (List ((List Int) × (Int × Unit)))) : awp E_law_MatchGathers (bodyOf Try.f4) 0 (fin Try.prog S_law_MatchGathers (a0, a1, ()) [(4, none)] 0) (initSt S_law_MatchGathers.par (a0, a1, ()) 128) = W_law_MatchGathers a0 a1 := by kernel_rfl
def B_law_MatchGathers_0 (t0 : Int) (t1 : (List ((List Int) × (Int × Unit)))) (t8 : Int) (r0 : (Option ((List Int) × Unit))) (r1 : (List Int)) (m : Nat) (K : AExit → St → Prop) : Prop := (
  condP (decide (t8 < (↑(List.length t1) : Int)))
    ((List.length r1 * (8 : Nat) ≤ (140737488355328 : Nat)) ∧
    ((0 : Int) ≤ t8) ∧
    (t8 < (↑(List.length t1) : Int)) ∧
    ((↑(List.length (Prod.fst (List.getD t1 (Int.toNat t8) (@List.nil Int, (0 : Int), ())))) : Int) ≤ big) ∧
    ((!softB (Prod.fst (List.getD t1 (Int.toNat t8) (@List.nil Int, (0 : Int), ())))) = false → (0 : Int) ≤ t8) ∧
    ((!softB (Prod.fst (List.getD t1 (Int.toNat t8) (@List.nil Int, (0 : Int), ())))) = false → t8 < (↑(List.length t1) : Int)) ∧
    ((if (!softB (Prod.fst (List.getD t1 (Int.toNat t8) (@List.nil Int, (0 : Int), ())))) = true then true else decide ((↑(List.length (Prod.fst (List.getD t1 (Int.toNat t8) (@List.nil Int, (0 : Int), ())))) : Int) > (4096 : Int))) = false → (0 : Int) ≤ t8) ∧
    ((if (!softB (Prod.fst (List.getD t1 (Int.toNat t8) (@List.nil Int, (0 : Int), ())))) = true then true else decide ((↑(List.length (Prod.fst (List.getD t1 (Int.toNat t8) (@List.nil Int, (0 : Int), ())))) : Int) > (4096 : Int))) = false → t8 < (↑(List.length t1) : Int)) ∧
    ((if (!softB (Prod.fst (List.getD t1 (Int.toNat t8) (@List.nil Int, (0 : Int), ())))) = true then true else decide ((↑(List.length (Prod.fst (List.getD t1 (Int.toNat t8) (@List.nil Int, (0 : Int), ())))) : Int) > (4096 : Int))) = false → True) ∧
    condP (if (if (!softB (Prod.fst (List.getD t1 (Int.toNat t8) (@List.nil Int, (0 : Int), ())))) = true then true else decide ((↑(List.length (Prod.fst (List.getD t1 (Int.toNat t8) (@List.nil Int, (0 : Int), ())))) : Int) > (4096 : Int))) = true then true else !versionB (Prod.fst (Prod.snd (List.getD t1 (Int.toNat t8) (@List.nil Int, (0 : Int), ())))))
      (condP (!addErr (Prod.fst (Option.getD r0 (@List.nil Int, ()))) (Prod.fst (List.getD t1 (Int.toNat t8) (@List.nil Int, (0 : Int), ()))) (Prod.fst (Prod.snd (List.getD t1 (Int.toNat t8) (@List.nil Int, (0 : Int), ())))) != (1 : Int))
        (((0 : Int) ≤ t8) ∧
        (t8 < (↑(List.length t1) : Int)) ∧
        ((0 : Int) ≤ t8) ∧
        (t8 < (↑(List.length t1) : Int)) ∧
        (Option.isSome r0 = true) ∧
        (List.length (Prod.fst (Option.getD r0 (@List.nil Int, ()))) ≤ (4096 : Nat) ∧ (↑(List.length (Prod.fst (List.getD t1 (Int.toNat t8) (@List.nil Int, (0 : Int), ())))) : Int) ≤ big) ∧
        ((addErr (Prod.fst (Option.getD r0 (@List.nil Int, ()))) (Prod.fst (List.getD t1 (Int.toNat t8) (@List.nil Int, (0 : Int), ()))) (Prod.fst (Prod.snd (List.getD t1 (Int.toNat t8) (@List.nil Int, (0 : Int), ())))) != (1 : Int)) = false) ∧
        ((addErr (Prod.fst (Option.getD r0 (@List.nil Int, ()))) (Prod.fst (List.getD t1 (Int.toNat t8) (@List.nil Int, (0 : Int), ()))) (Prod.fst (Prod.snd (List.getD t1 (Int.toNat t8) (@List.nil Int, (0 : Int), ())))) != (1 : Int)) = false) ∧
        (List.length (addOf (Prod.fst (Option.getD r0 (@List.nil Int, ()))) (Prod.fst (List.getD t1 (Int.toNat t8) (@List.nil Int, (0 : Int), ()))) (Prod.fst (Prod.snd (List.getD t1 (Int.toNat t8) (@List.nil Int, (0 : Int), ()))))) ≤ (4096 : Nat)) ∧
        ((addErr (Prod.fst (Option.getD r0 (@List.nil Int, ()))) (Prod.fst (List.getD t1 (Int.toNat t8) (@List.nil Int, (0 : Int), ()))) (Prod.fst (Prod.snd (List.getD t1 (Int.toNat t8) (@List.nil Int, (0 : Int), ())))) != (1 : Int)) = false) ∧
        ((addErr (Prod.fst (Option.getD r0 (@List.nil Int, ()))) (Prod.fst (List.getD t1 (Int.toNat t8) (@List.nil Int, (0 : Int), ()))) (Prod.fst (Prod.snd (List.getD t1 (Int.toNat t8) (@List.nil Int, (0 : Int), ())))) != (1 : Int)) = false) ∧
        ((↑(List.length (addOf (Prod.fst (Option.getD r0 (@List.nil Int, ()))) (Prod.fst (List.getD t1 (Int.toNat t8) (@List.nil Int, (0 : Int), ()))) (Prod.fst (Prod.snd (List.getD t1 (Int.toNat t8) (@List.nil Int, (0 : Int), ())))))) : Int) ≤ big) ∧
        ((addErr (Prod.fst (Option.getD r0 (@List.nil Int, ()))) (Prod.fst (List.getD t1 (Int.toNat t8) (@List.nil Int, (0 : Int), ()))) (Prod.fst (Prod.snd (List.getD t1 (Int.toNat t8) (@List.nil Int, (0 : Int), ())))) != (1 : Int)) = false) ∧
        condP (if (addErr (Prod.fst (Option.getD r0 (@List.nil Int, ()))) (Prod.fst (List.getD t1 (Int.toNat t8) (@List.nil Int, (0 : Int), ()))) (Prod.fst (Prod.snd (List.getD t1 (Int.toNat t8) (@List.nil Int, (0 : Int), ())))) != (1 : Int)) = true then true else !decide (addOf (Prod.fst (Option.getD r0 (@List.nil Int, ()))) (Prod.fst (List.getD t1 (Int.toNat t8) (@List.nil Int, (0 : Int), ()))) (Prod.fst (Prod.snd (List.getD t1 (Int.toNat t8) (@List.nil Int, (0 : Int), ())))) = r1))
          (X_law_MatchGathers_0_0 (false) K)
          ((p_law_MatchGathers_0 t0 t1 (IntKind.wrap IntKind.i64 (t8 + (1 : Int))) (some (addOf (Prod.fst (Option.getD r0 (@List.nil Int, ()))) (Prod.fst (List.getD t1 (Int.toNat t8) (@List.nil Int, (0 : Int), ()))) (Prod.fst (Prod.snd (List.getD t1 (Int.toNat t8) (@List.nil Int, (0 : Int), ())))), ())) r1) ∧
          (m_law_MatchGathers_0 t0 t1 (IntKind.wrap IntKind.i64 (t8 + (1 : Int))) (some (addOf (Prod.fst (Option.getD r0 (@List.nil Int, ()))) (Prod.fst (List.getD t1 (Int.toNat t8) (@List.nil Int, (0 : Int), ()))) (Prod.fst (Prod.snd (List.getD t1 (Int.toNat t8) (@List.nil Int, (0 : Int), ())))), ())) r1 < m) ∧
          o_law_MatchGathers_0 t0 t1 (IntKind.wrap IntKind.i64 (t8 + (1 : Int))) (some (addOf (Prod.fst (Option.getD r0 (@List.nil Int, ()))) (Prod.fst (List.getD t1 (Int.toNat t8) (@List.nil Int, (0 : Int), ()))) (Prod.fst (Prod.snd (List.getD t1 (Int.toNat t8) (@List.nil Int, (0 : Int), ())))), ())) r1 K))
        (((0 : Int) ≤ t8) ∧
        (t8 < (↑(List.length t1) : Int)) ∧
        ((0 : Int) ≤ t8) ∧
        (t8 < (↑(List.length t1) : Int)) ∧
        (Option.isSome r0 = true) ∧
        (List.length (Prod.fst (Option.getD r0 (@List.nil Int, ()))) ≤ (4096 : Nat) ∧ (↑(List.length (Prod.fst (List.getD t1 (Int.toNat t8) (@List.nil Int, (0 : Int), ())))) : Int) ≤ big) ∧
        ((addErr (Prod.fst (Option.getD r0 (@List.nil Int, ()))) (Prod.fst (List.getD t1 (Int.toNat t8) (@List.nil Int, (0 : Int), ()))) (Prod.fst (Prod.snd (List.getD t1 (Int.toNat t8) (@List.nil Int, (0 : Int), ())))) != (1 : Int)) = false → False) ∧
        ((addErr (Prod.fst (Option.getD r0 (@List.nil Int, ()))) (Prod.fst (List.getD t1 (Int.toNat t8) (@List.nil Int, (0 : Int), ()))) (Prod.fst (Prod.snd (List.getD t1 (Int.toNat t8) (@List.nil Int, (0 : Int), ())))) != (1 : Int)) = false → False) ∧
        ((addErr (Prod.fst (Option.getD r0 (@List.nil Int, ()))) (Prod.fst (List.getD t1 (Int.toNat t8) (@List.nil Int, (0 : Int), ()))) (Prod.fst (Prod.snd (List.getD t1 (Int.toNat t8) (@List.nil Int, (0 : Int), ())))) != (1 : Int)) = false → False) ∧
        ((addErr (Prod.fst (Option.getD r0 (@List.nil Int, ()))) (Prod.fst (List.getD t1 (Int.toNat t8) (@List.nil Int, (0 : Int), ()))) (Prod.fst (Prod.snd (List.getD t1 (Int.toNat t8) (@List.nil Int, (0 : Int), ())))) != (1 : Int)) = false → False) ∧
        ((addErr (Prod.fst (Option.getD r0 (@List.nil Int, ()))) (Prod.fst (List.getD t1 (Int.toNat t8) (@List.nil Int, (0 : Int), ()))) (Prod.fst (Prod.snd (List.getD t1 (Int.toNat t8) (@List.nil Int, (0 : Int), ())))) != (1 : Int)) = false → False) ∧
        ((addErr (Prod.fst (Option.getD r0 (@List.nil Int, ()))) (Prod.fst (List.getD t1 (Int.toNat t8) (@List.nil Int, (0 : Int), ()))) (Prod.fst (Prod.snd (List.getD t1 (Int.toNat t8) (@List.nil Int, (0 : Int), ())))) != (1 : Int)) = false → False) ∧
        condP (true)
          (X_law_MatchGathers_0_0 (false) K)
          ((p_law_MatchGathers_0 t0 t1 (IntKind.wrap IntKind.i64 (t8 + (1 : Int))) (some (addOf (Prod.fst (Option.getD r0 (@List.nil Int, ()))) (Prod.fst (List.getD t1 (Int.toNat t8) (@List.nil Int, (0 : Int), ()))) (Prod.fst (Prod.snd (List.getD t1 (Int.toNat t8) (@List.nil Int, (0 : Int), ())))), ())) r1) ∧
          (m_law_MatchGathers_0 t0 t1 (IntKind.wrap IntKind.i64 (t8 + (1 : Int))) (some (addOf (Prod.fst (Option.getD r0 (@List.nil Int, ()))) (Prod.fst (List.getD t1 (Int.toNat t8) (@List.nil Int, (0 : Int), ()))) (Prod.fst (Prod.snd (List.getD t1 (Int.toNat t8) (@List.nil Int, (0 : Int), ())))), ())) r1 < m) ∧
          o_law_MatchGathers_0 t0 t1 (IntKind.wrap IntKind.i64 (t8 + (1 : Int))) (some (addOf (Prod.fst (Option.getD r0 (@List.nil Int, ()))) (Prod.fst (List.getD t1 (Int.toNat t8) (@List.nil Int, (0 : Int), ()))) (Prod.fst (Prod.snd (List.getD t1 (Int.toNat t8) (@List.nil Int, (0 : Int), ())))), ())) r1 K)))
      (((0 : Int) ≤ t8) ∧
      (t8 < (↑(List.length t1) : Int)) ∧
      ((0 : Int) ≤ t8) ∧
      (t8 < (↑(List.length t1) : Int)) ∧
      ((1 : Int) ≤ t0 ∧ t0 ≤ (4096 : Int) ∧ (0 : Int) ≤ Prod.fst (Prod.snd (List.getD t1 (Int.toNat t8) (@List.nil Int, (0 : Int), ()))) ∧ Prod.fst (Prod.snd (List.getD t1 (Int.toNat t8) (@List.nil Int, (0 : Int), ()))) ≤ (3 : Int) ∧ (0 : Int) ≤ (↑(List.length (Prod.fst (List.getD t1 (Int.toNat t8) (@List.nil Int, (0 : Int), ())))) : Int) ∧ (↑(List.length (Prod.fst (List.getD t1 (Int.toNat t8) (@List.nil Int, (0 : Int), ())))) : Int) ≤ (4096 : Int)) ∧
      (p_law_MatchGathers_2 t0 t1 t8 (0 : Int) (0 : Int) r0 r1 r1 (pickedL t0 (Prod.fst (beginOf t0 (Prod.fst (Prod.snd (List.getD t1 (Int.toNat t8) (@List.nil Int, (0 : Int), ())))))) (Int.toNat (↑(List.length (Prod.fst (List.getD t1 (Int.toNat t8) (@List.nil Int, (0 : Int), ())))) : Int)))) ∧
      ((↑(List.length (addP r1 (List.drop (0 : Nat) (pickedL t0 (Prod.fst (beginOf t0 (Prod.fst (Prod.snd (List.getD t1 (Int.toNat t8) (@List.nil Int, (0 : Int), ())))))) (Int.toNat (↑(List.length (Prod.fst (List.getD t1 (Int.toNat t8) (@List.nil Int, (0 : Int), ())))) : Int)))) (List.drop (0 : Nat) (softAt t1 t8)))) : Int) ≤ big) ∧
      condP (!softB (addP r1 (List.drop (0 : Nat) (pickedL t0 (Prod.fst (beginOf t0 (Prod.fst (Prod.snd (List.getD t1 (Int.toNat t8) (@List.nil Int, (0 : Int), ())))))) (Int.toNat (↑(List.length (Prod.fst (List.getD t1 (Int.toNat t8) (@List.nil Int, (0 : Int), ())))) : Int)))) (List.drop (0 : Nat) (softAt t1 t8))))
        (condP (!addErr (Prod.fst (Option.getD r0 (@List.nil Int, ()))) (Prod.fst (List.getD t1 (Int.toNat t8) (@List.nil Int, (0 : Int), ()))) (Prod.fst (Prod.snd (List.getD t1 (Int.toNat t8) (@List.nil Int, (0 : Int), ())))) != (2 : Int))
          (((0 : Int) ≤ t8) ∧
          (t8 < (↑(List.length t1) : Int)) ∧
          ((0 : Int) ≤ t8) ∧
          (t8 < (↑(List.length t1) : Int)) ∧
          (Option.isSome r0 = true) ∧
          (List.length (Prod.fst (Option.getD r0 (@List.nil Int, ()))) ≤ (4096 : Nat) ∧ (↑(List.length (Prod.fst (List.getD t1 (Int.toNat t8) (@List.nil Int, (0 : Int), ())))) : Int) ≤ big) ∧
          ((addErr (Prod.fst (Option.getD r0 (@List.nil Int, ()))) (Prod.fst (List.getD t1 (Int.toNat t8) (@List.nil Int, (0 : Int), ()))) (Prod.fst (Prod.snd (List.getD t1 (Int.toNat t8) (@List.nil Int, (0 : Int), ())))) != (2 : Int)) = false) ∧
          ((addErr (Prod.fst (Option.getD r0 (@List.nil Int, ()))) (Prod.fst (List.getD t1 (Int.toNat t8) (@List.nil Int, (0 : Int), ()))) (Prod.fst (Prod.snd (List.getD t1 (Int.toNat t8) (@List.nil Int, (0 : Int), ())))) != (2 : Int)) = false) ∧
          (List.length (addOf (Prod.fst (Option.getD r0 (@List.nil Int, ()))) (Prod.fst (List.getD t1 (Int.toNat t8) (@List.nil Int, (0 : Int), ()))) (Prod.fst (Prod.snd (List.getD t1 (Int.toNat t8) (@List.nil Int, (0 : Int), ()))))) ≤ (4096 : Nat)) ∧
          ((addErr (Prod.fst (Option.getD r0 (@List.nil Int, ()))) (Prod.fst (List.getD t1 (Int.toNat t8) (@List.nil Int, (0 : Int), ()))) (Prod.fst (Prod.snd (List.getD t1 (Int.toNat t8) (@List.nil Int, (0 : Int), ())))) != (2 : Int)) = false) ∧
          ((addErr (Prod.fst (Option.getD r0 (@List.nil Int, ()))) (Prod.fst (List.getD t1 (Int.toNat t8) (@List.nil Int, (0 : Int), ()))) (Prod.fst (Prod.snd (List.getD t1 (Int.toNat t8) (@List.nil Int, (0 : Int), ())))) != (2 : Int)) = false) ∧
          ((↑(List.length (addOf (Prod.fst (Option.getD r0 (@List.nil Int, ()))) (Prod.fst (List.getD t1 (Int.toNat t8) (@List.nil Int, (0 : Int), ()))) (Prod.fst (Prod.snd (List.getD t1 (Int.toNat t8) (@List.nil Int, (0 : Int), ())))))) : Int) ≤ big) ∧
          ((addErr (Prod.fst (Option.getD r0 (@List.nil Int, ()))) (Prod.fst (List.getD t1 (Int.toNat t8) (@List.nil Int, (0 : Int), ()))) (Prod.fst (Prod.snd (List.getD t1 (Int.toNat t8) (@List.nil Int, (0 : Int), ())))) != (2 : Int)) = false) ∧
          condP (if (addErr (Prod.fst (Option.getD r0 (@List.nil Int, ()))) (Prod.fst (List.getD t1 (Int.toNat t8) (@List.nil Int, (0 : Int), ()))) (Prod.fst (Prod.snd (List.getD t1 (Int.toNat t8) (@List.nil Int, (0 : Int), ())))) != (2 : Int)) = true then true else !decide (addOf (Prod.fst (Option.getD r0 (@List.nil Int, ()))) (Prod.fst (List.getD t1 (Int.toNat t8) (@List.nil Int, (0 : Int), ()))) (Prod.fst (Prod.snd (List.getD t1 (Int.toNat t8) (@List.nil Int, (0 : Int), ())))) = r1))
            (X_law_MatchGathers_0_0 (false) K)
            ((p_law_MatchGathers_0 t0 t1 (IntKind.wrap IntKind.i64 (t8 + (1 : Int))) (some (addOf (Prod.fst (Option.getD r0 (@List.nil Int, ()))) (Prod.fst (List.getD t1 (Int.toNat t8) (@List.nil Int, (0 : Int), ()))) (Prod.fst (Prod.snd (List.getD t1 (Int.toNat t8) (@List.nil Int, (0 : Int), ())))), ())) r1) ∧
            (m_law_MatchGathers_0 t0 t1 (IntKind.wrap IntKind.i64 (t8 + (1 : Int))) (some (addOf (Prod.fst (Option.getD r0 (@List.nil Int, ()))) (Prod.fst (List.getD t1 (Int.toNat t8) (@List.nil Int, (0 : Int), ()))) (Prod.fst (Prod.snd (List.getD t1 (Int.toNat t8) (@List.nil Int, (0 : Int), ())))), ())) r1 < m) ∧
            o_law_MatchGathers_0 t0 t1 (IntKind.wrap IntKind.i64 (t8 + (1 : Int))) (some (addOf (Prod.fst (Option.getD r0 (@List.nil Int, ()))) (Prod.fst (List.getD t1 (Int.toNat t8) (@List.nil Int, (0 : Int), ()))) (Prod.fst (Prod.snd (List.getD t1 (Int.toNat t8) (@List.nil Int, (0 : Int), ())))), ())) r1 K))
          (((0 : Int) ≤ t8) ∧
          (t8 < (↑(List.length t1) : Int)) ∧
          ((0 : Int) ≤ t8) ∧
          (t8 < (↑(List.length t1) : Int)) ∧
          (Option.isSome r0 = true) ∧
          (List.length (Prod.fst (Option.getD r0 (@List.nil Int, ()))) ≤ (4096 : Nat) ∧ (↑(List.length (Prod.fst (List.getD t1 (Int.toNat t8) (@List.nil Int, (0 : Int), ())))) : Int) ≤ big) ∧
          ((addErr (Prod.fst (Option.getD r0 (@List.nil Int, ()))) (Prod.fst (List.getD t1 (Int.toNat t8) (@List.nil Int, (0 : Int), ()))) (Prod.fst (Prod.snd (List.getD t1 (Int.toNat t8) (@List.nil Int, (0 : Int), ())))) != (2 : Int)) = false → False) ∧
          ((addErr (Prod.fst (Option.getD r0 (@List.nil Int, ()))) (Prod.fst (List.getD t1 (Int.toNat t8) (@List.nil Int, (0 : Int), ()))) (Prod.fst (Prod.snd (List.getD t1 (Int.toNat t8) (@List.nil Int, (0 : Int), ())))) != (2 : Int)) = false → False) ∧
          ((addErr (Prod.fst (Option.getD r0 (@List.nil Int, ()))) (Prod.fst (List.getD t1 (Int.toNat t8) (@List.nil Int, (0 : Int), ()))) (Prod.fst (Prod.snd (List.getD t1 (Int.toNat t8) (@List.nil Int, (0 : Int), ())))) != (2 : Int)) = false → False) ∧
          ((addErr (Prod.fst (Option.getD r0 (@List.nil Int, ()))) (Prod.fst (List.getD t1 (Int.toNat t8) (@List.nil Int, (0 : Int), ()))) (Prod.fst (Prod.snd (List.getD t1 (Int.toNat t8) (@List.nil Int, (0 : Int), ())))) != (2 : Int)) = false → False) ∧
          ((addErr (Prod.fst (Option.getD r0 (@List.nil Int, ()))) (Prod.fst (List.getD t1 (Int.toNat t8) (@List.nil Int, (0 : Int), ()))) (Prod.fst (Prod.snd (List.getD t1 (Int.toNat t8) (@List.nil Int, (0 : Int), ())))) != (2 : Int)) = false → False) ∧
          ((addErr (Prod.fst (Option.getD r0 (@List.nil Int, ()))) (Prod.fst (List.getD t1 (Int.toNat t8) (@List.nil Int, (0 : Int), ()))) (Prod.fst (Prod.snd (List.getD t1 (Int.toNat t8) (@List.nil Int, (0 : Int), ())))) != (2 : Int)) = false → False) ∧
          condP (true)
            (X_law_MatchGathers_0_0 (false) K)
            ((p_law_MatchGathers_0 t0 t1 (IntKind.wrap IntKind.i64 (t8 + (1 : Int))) (some (addOf (Prod.fst (Option.getD r0 (@List.nil Int, ()))) (Prod.fst (List.getD t1 (Int.toNat t8) (@List.nil Int, (0 : Int), ()))) (Prod.fst (Prod.snd (List.getD t1 (Int.toNat t8) (@List.nil Int, (0 : Int), ())))), ())) r1) ∧
            (m_law_MatchGathers_0 t0 t1 (IntKind.wrap IntKind.i64 (t8 + (1 : Int))) (some (addOf (Prod.fst (Option.getD r0 (@List.nil Int, ()))) (Prod.fst (List.getD t1 (Int.toNat t8) (@List.nil Int, (0 : Int), ()))) (Prod.fst (Prod.snd (List.getD t1 (Int.toNat t8) (@List.nil Int, (0 : Int), ())))), ())) r1 < m) ∧
            o_law_MatchGathers_0 t0 t1 (IntKind.wrap IntKind.i64 (t8 + (1 : Int))) (some (addOf (Prod.fst (Option.getD r0 (@List.nil Int, ()))) (Prod.fst (List.getD t1 (Int.toNat t8) (@List.nil Int, (0 : Int), ()))) (Prod.fst (Prod.snd (List.getD t1 (Int.toNat t8) (@List.nil Int, (0 : Int), ())))), ())) r1 K)))
        (condP (!addErr (Prod.fst (Option.getD r0 (@List.nil Int, ()))) (Prod.fst (List.getD t1 (Int.toNat t8) (@List.nil Int, (0 : Int), ()))) (Prod.fst (Prod.snd (List.getD t1 (Int.toNat t8) (@List.nil Int, (0 : Int), ())))) != (0 : Int))
          (((0 : Int) ≤ t8) ∧
          (t8 < (↑(List.length t1) : Int)) ∧
          ((0 : Int) ≤ t8) ∧
          (t8 < (↑(List.length t1) : Int)) ∧
          (Option.isSome r0 = true) ∧
          (List.length (Prod.fst (Option.getD r0 (@List.nil Int, ()))) ≤ (4096 : Nat) ∧ (↑(List.length (Prod.fst (List.getD t1 (Int.toNat t8) (@List.nil Int, (0 : Int), ())))) : Int) ≤ big) ∧
          ((addErr (Prod.fst (Option.getD r0 (@List.nil Int, ()))) (Prod.fst (List.getD t1 (Int.toNat t8) (@List.nil Int, (0 : Int), ()))) (Prod.fst (Prod.snd (List.getD t1 (Int.toNat t8) (@List.nil Int, (0 : Int), ())))) != (0 : Int)) = false) ∧
          ((addErr (Prod.fst (Option.getD r0 (@List.nil Int, ()))) (Prod.fst (List.getD t1 (Int.toNat t8) (@List.nil Int, (0 : Int), ()))) (Prod.fst (Prod.snd (List.getD t1 (Int.toNat t8) (@List.nil Int, (0 : Int), ())))) != (0 : Int)) = false) ∧
          (List.length (addOf (Prod.fst (Option.getD r0 (@List.nil Int, ()))) (Prod.fst (List.getD t1 (Int.toNat t8) (@List.nil Int, (0 : Int), ()))) (Prod.fst (Prod.snd (List.getD t1 (Int.toNat t8) (@List.nil Int, (0 : Int), ()))))) ≤ (4096 : Nat)) ∧
          ((addErr (Prod.fst (Option.getD r0 (@List.nil Int, ()))) (Prod.fst (List.getD t1 (Int.toNat t8) (@List.nil Int, (0 : Int), ()))) (Prod.fst (Prod.snd (List.getD t1 (Int.toNat t8) (@List.nil Int, (0 : Int), ())))) != (0 : Int)) = false) ∧
          ((addErr (Prod.fst (Option.getD r0 (@List.nil Int, ()))) (Prod.fst (List.getD t1 (Int.toNat t8) (@List.nil Int, (0 : Int), ()))) (Prod.fst (Prod.snd (List.getD t1 (Int.toNat t8) (@List.nil Int, (0 : Int), ())))) != (0 : Int)) = false) ∧
          ((↑(List.length (addOf (Prod.fst (Option.getD r0 (@List.nil Int, ()))) (Prod.fst (List.getD t1 (Int.toNat t8) (@List.nil Int, (0 : Int), ()))) (Prod.fst (Prod.snd (List.getD t1 (Int.toNat t8) (@List.nil Int, (0 : Int), ())))))) : Int) ≤ big) ∧
          ((addErr (Prod.fst (Option.getD r0 (@List.nil Int, ()))) (Prod.fst (List.getD t1 (Int.toNat t8) (@List.nil Int, (0 : Int), ()))) (Prod.fst (Prod.snd (List.getD t1 (Int.toNat t8) (@List.nil Int, (0 : Int), ())))) != (0 : Int)) = false) ∧
          condP (if (addErr (Prod.fst (Option.getD r0 (@List.nil Int, ()))) (Prod.fst (List.getD t1 (Int.toNat t8) (@List.nil Int, (0 : Int), ()))) (Prod.fst (Prod.snd (List.getD t1 (Int.toNat t8) (@List.nil Int, (0 : Int), ())))) != (0 : Int)) = true then true else !decide (addOf (Prod.fst (Option.getD r0 (@List.nil Int, ()))) (Prod.fst (List.getD t1 (Int.toNat t8) (@List.nil Int, (0 : Int), ()))) (Prod.fst (Prod.snd (List.getD t1 (Int.toNat t8) (@List.nil Int, (0 : Int), ())))) = addP r1 (List.drop (0 : Nat) (pickedL t0 (Prod.fst (beginOf t0 (Prod.fst (Prod.snd (List.getD t1 (Int.toNat t8) (@List.nil Int, (0 : Int), ())))))) (Int.toNat (↑(List.length (Prod.fst (List.getD t1 (Int.toNat t8) (@List.nil Int, (0 : Int), ())))) : Int)))) (List.drop (0 : Nat) (softAt t1 t8))))
            (X_law_MatchGathers_0_0 (false) K)
            ((p_law_MatchGathers_0 t0 t1 (IntKind.wrap IntKind.i64 (t8 + (1 : Int))) (some (addOf (Prod.fst (Option.getD r0 (@List.nil Int, ()))) (Prod.fst (List.getD t1 (Int.toNat t8) (@List.nil Int, (0 : Int), ()))) (Prod.fst (Prod.snd (List.getD t1 (Int.toNat t8) (@List.nil Int, (0 : Int), ())))), ())) (addP r1 (List.drop (0 : Nat) (pickedL t0 (Prod.fst (beginOf t0 (Prod.fst (Prod.snd (List.getD t1 (Int.toNat t8) (@List.nil Int, (0 : Int), ())))))) (Int.toNat (↑(List.length (Prod.fst (List.getD t1 (Int.toNat t8) (@List.nil Int, (0 : Int), ())))) : Int)))) (List.drop (0 : Nat) (softAt t1 t8)))) ∧
            (m_law_MatchGathers_0 t0 t1 (IntKind.wrap IntKind.i64 (t8 + (1 : Int))) (some (addOf (Prod.fst (Option.getD r0 (@List.nil Int, ()))) (Prod.fst (List.getD t1 (Int.toNat t8) (@List.nil Int, (0 : Int), ()))) (Prod.fst (Prod.snd (List.getD t1 (Int.toNat t8) (@List.nil Int, (0 : Int), ())))), ())) (addP r1 (List.drop (0 : Nat) (pickedL t0 (Prod.fst (beginOf t0 (Prod.fst (Prod.snd (List.getD t1 (Int.toNat t8) (@List.nil Int, (0 : Int), ())))))) (Int.toNat (↑(List.length (Prod.fst (List.getD t1 (Int.toNat t8) (@List.nil Int, (0 : Int), ())))) : Int)))) (List.drop (0 : Nat) (softAt t1 t8))) < m) ∧
            o_law_MatchGathers_0 t0 t1 (IntKind.wrap IntKind.i64 (t8 + (1 : Int))) (some (addOf (Prod.fst (Option.getD r0 (@List.nil Int, ()))) (Prod.fst (List.getD t1 (Int.toNat t8) (@List.nil Int, (0 : Int), ()))) (Prod.fst (Prod.snd (List.getD t1 (Int.toNat t8) (@List.nil Int, (0 : Int), ())))), ())) (addP r1 (List.drop (0 : Nat) (pickedL t0 (Prod.fst (beginOf t0 (Prod.fst (Prod.snd (List.getD t1 (Int.toNat t8) (@List.nil Int, (0 : Int), ())))))) (Int.toNat (↑(List.length (Prod.fst (List.getD t1 (Int.toNat t8) (@List.nil Int, (0 : Int), ())))) : Int)))) (List.drop (0 : Nat) (softAt t1 t8))) K))
          (((0 : Int) ≤ t8) ∧
          (t8 < (↑(List.length t1) : Int)) ∧
          ((0 : Int) ≤ t8) ∧
          (t8 < (↑(List.length t1) : Int)) ∧
          (Option.isSome r0 = true) ∧
          (List.length (Prod.fst (Option.getD r0 (@List.nil Int, ()))) ≤ (4096 : Nat) ∧ (↑(List.length (Prod.fst (List.getD t1 (Int.toNat t8) (@List.nil Int, (0 : Int), ())))) : Int) ≤ big) ∧
          ((addErr (Prod.fst (Option.getD r0 (@List.nil Int, ()))) (Prod.fst (List.getD t1 (Int.toNat t8) (@List.nil Int, (0 : Int), ()))) (Prod.fst (Prod.snd (List.getD t1 (Int.toNat t8) (@List.nil Int, (0 : Int), ())))) != (0 : Int)) = false → False) ∧
          ((addErr (Prod.fst (Option.getD r0 (@List.nil Int, ()))) (Prod.fst (List.getD t1 (Int.toNat t8) (@List.nil Int, (0 : Int), ()))) (Prod.fst (Prod.snd (List.getD t1 (Int.toNat t8) (@List.nil Int, (0 : Int), ())))) != (0 : Int)) = false → False) ∧
          ((addErr (Prod.fst (Option.getD r0 (@List.nil Int, ()))) (Prod.fst (List.getD t1 (Int.toNat t8) (@List.nil Int, (0 : Int), ()))) (Prod.fst (Prod.snd (List.getD t1 (Int.toNat t8) (@List.nil Int, (0 : Int), ())))) != (0 : Int)) = false → False) ∧
          ((addErr (Prod.fst (Option.getD r0 (@List.nil Int, ()))) (Prod.fst (List.getD t1 (Int.toNat t8) (@List.nil Int, (0 : Int), ()))) (Prod.fst (Prod.snd (List.getD t1 (Int.toNat t8) (@List.nil Int, (0 : Int), ())))) != (0 : Int)) = false → False) ∧
          ((addErr (Prod.fst (Option.getD r0 (@List.nil Int, ()))) (Prod.fst (List.getD t1 (Int.toNat t8) (@List.nil Int, (0 : Int), ()))) (Prod.fst (Prod.snd (List.getD t1 (Int.toNat t8) (@List.nil Int, (0 : Int), ())))) != (0 : Int)) = false → False) ∧
          ((addErr (Prod.fst (Option.getD r0 (@List.nil Int, ()))) (Prod.fst (List.getD t1 (Int.toNat t8) (@List.nil Int, (0 : Int), ()))) (Prod.fst (Prod.snd (List.getD t1 (Int.toNat t8) (@List.nil Int, (0 : Int), ())))) != (0 : Int)) = false → False) ∧
          condP (true)
            (X_law_MatchGathers_0_0 (false) K)
            ((p_law_MatchGathers_0 t0 t1 (IntKind.wrap IntKind.i64 (t8 + (1 : Int))) (some (addOf (Prod.fst (Option.getD r0 (@List.nil Int, ()))) (Prod.fst (List.getD t1 (Int.toNat t8) (@List.nil Int, (0 : Int), ()))) (Prod.fst (Prod.snd (List.getD t1 (Int.toNat t8) (@List.nil Int, (0 : Int), ())))), ())) (addP r1 (List.drop (0 : Nat) (pickedL t0 (Prod.fst (beginOf t0 (Prod.fst (Prod.snd (List.getD t1 (Int.toNat t8) (@List.nil Int, (0 : Int), ())))))) (Int.toNat (↑(List.length (Prod.fst (List.getD t1 (Int.toNat t8) (@List.nil Int, (0 : Int), ())))) : Int)))) (List.drop (0 : Nat) (softAt t1 t8)))) ∧
            (m_law_MatchGathers_0 t0 t1 (IntKind.wrap IntKind.i64 (t8 + (1 : Int))) (some (addOf (Prod.fst (Option.getD r0 (@List.nil Int, ()))) (Prod.fst (List.getD t1 (Int.toNat t8) (@List.nil Int, (0 : Int), ()))) (Prod.fst (Prod.snd (List.getD t1 (Int.toNat t8) (@List.nil Int, (0 : Int), ())))), ())) (addP r1 (List.drop (0 : Nat) (pickedL t0 (Prod.fst (beginOf t0 (Prod.fst (Prod.snd (List.getD t1 (Int.toNat t8) (@List.nil Int, (0 : Int), ())))))) (Int.toNat (↑(List.length (Prod.fst (List.getD t1 (Int.toNat t8) (@List.nil Int, (0 : Int), ())))) : Int)))) (List.drop (0 : Nat) (softAt t1 t8))) < m) ∧
            o_law_MatchGathers_0 t0 t1 (IntKind.wrap IntKind.i64 (t8 + (1 : Int))) (some (addOf (Prod.fst (Option.getD r0 (@List.nil Int, ()))) (Prod.fst (List.getD t1 (Int.toNat t8) (@List.nil Int, (0 : Int), ()))) (Prod.fst (Prod.snd (List.getD t1 (Int.toNat t8) (@List.nil Int, (0 : Int), ())))), ())) (addP r1 (List.drop (0 : Nat) (pickedL t0 (Prod.fst (beginOf t0 (Prod.fst (Prod.snd (List.getD t1 (Int.toNat t8) (@List.nil Int, (0 : Int), ())))))) (Int.toNat (↑(List.length (Prod.fst (List.getD t1 (Int.toNat t8) (@List.nil Int, (0 : Int), ())))) : Int)))) (List.drop (0 : Nat) (softAt t1 t8))) K)))))
    (X_law_MatchGathers_0_1  K))
theorem R_law_MatchGathers_0 (t0 : Int) (t1 : (List ((List Int) × (Int × Unit)))) (t8 : Int) (r0 : (Option ((List Int) × Unit))) (r1 : (List Int)) (m : Nat) (K : AExit → St → Prop) : awp E_law_MatchGathers (loopAt (bodyOf Try.f4) 0) 0 (roundP E_law_MatchGathers 0 L_law_MatchGathers_0 m K) (L_law_MatchGathers_0.abs (t0, t1, t8, ()) (r0, r1, ())) = B_law_MatchGathers_0 t0 t1 t8 r0 r1 m K := by kernel_rfl
theorem I_law_MatchGathers_0 (h : ∀ (t0 : Int) (t1 : (List ((List Int) × (Int × Unit)))) (t8 : Int) (r0 : (Option ((List Int) × Unit))) (r1 : (List Int)) (K : AExit → St → Prop), p_law_MatchGathers_0 t0 t1 t8 r0 r1 → o_law_MatchGathers_0 t0 t1 t8 r0 r1 K → B_law_MatchGathers_0 t0 t1 t8 r0 r1 (m_law_MatchGathers_0 t0 t1 t8 r0 r1) K) : LoopOK E_law_MatchGathers 0 (loopAt (bodyOf Try.f4) 0) L_law_MatchGathers_0 :=
  fun x y K hp ho => match x, y, hp, ho with | (t0, t1, t8, ()), (r0, r1, ()), hp, ho => (R_law_MatchGathers_0 t0 t1 t8 r0 r1 (m_law_MatchGathers_0 t0 t1 t8 r0 r1) K).mpr (h t0 t1 t8 r0 r1 K hp ho)
def B_law_MatchGathers_2 (t0 : Int) (t1 : (List ((List Int) × (Int × Unit)))) (t8 : Int) (t9 : Int) (t12 : Int) (r0 : (Option ((List Int) × Unit))) (r1 : (List Int)) (r2 : (List Int)) (r3 : (List Int)) (m : Nat) (K : AExit → St → Prop) : Prop := (
  condP (decide (t12 < (↑(List.length r3) : Int)))
    (((0 : Int) ≤ t12) ∧
    (t12 < (↑(List.length r3) : Int)) ∧
    ((0 : Int) ≤ List.getD r3 (Int.toNat t12) (0 : Int)) ∧
    (List.getD r3 (Int.toNat t12) (0 : Int) < (↑(List.length r2) : Int)) ∧
    ((0 : Int) ≤ t8) ∧
    (t8 < (↑(List.length t1) : Int)) ∧
    ((0 : Int) ≤ t12) ∧
    (t12 < (↑(List.length (Prod.fst (List.getD t1 (Int.toNat t8) (@List.nil Int, (0 : Int), ())))) : Int)) ∧
    ((0 : Int) ≤ List.getD r3 (Int.toNat t12) (0 : Int)) ∧
    (List.getD r3 (Int.toNat t12) (0 : Int) < (↑(List.length r2) : Int)) ∧
    (p_law_MatchGathers_2 t0 t1 t8 t9 (IntKind.wrap IntKind.i64 (t12 + (1 : Int))) r0 r1 (List.set r2 (Int.toNat (List.getD r3 (Int.toNat t12) (0 : Int))) (IntKind.wrap IntKind.i64 (List.getD r2 (Int.toNat (List.getD r3 (Int.toNat t12) (0 : Int))) (0 : Int) + List.getD (Prod.fst (List.getD t1 (Int.toNat t8) (@List.nil Int, (0 : Int), ()))) (Int.toNat t12) (0 : Int)))) r3) ∧
    (m_law_MatchGathers_2 t0 t1 t8 t9 (IntKind.wrap IntKind.i64 (t12 + (1 : Int))) r0 r1 (List.set r2 (Int.toNat (List.getD r3 (Int.toNat t12) (0 : Int))) (IntKind.wrap IntKind.i64 (List.getD r2 (Int.toNat (List.getD r3 (Int.toNat t12) (0 : Int))) (0 : Int) + List.getD (Prod.fst (List.getD t1 (Int.toNat t8) (@List.nil Int, (0 : Int), ()))) (Int.toNat t12) (0 : Int)))) r3 < m) ∧
    o_law_MatchGathers_2 t0 t1 t8 t9 (IntKind.wrap IntKind.i64 (t12 + (1 : Int))) r0 r1 (List.set r2 (Int.toNat (List.getD r3 (Int.toNat t12) (0 : Int))) (IntKind.wrap IntKind.i64 (List.getD r2 (Int.toNat (List.getD r3 (Int.toNat t12) (0 : Int))) (0 : Int) + List.getD (Prod.fst (List.getD t1 (Int.toNat t8) (@List.nil Int, (0 : Int), ()))) (Int.toNat t12) (0 : Int)))) r3 K)
    (X_law_MatchGathers_2_0 (t0) (t1) (t8) (t9) (r0) (r1) (r2) K))
theorem R_law_MatchGathers_2 (t0 : Int) (t1 : (List ((List Int) × (Int × Unit)))) (t8 : Int) (t9 : Int) (t12 : Int) (r0 : (Option ((List Int) × Unit))) (r1 : (List Int)) (r2 : (List Int)) (r3 : (List Int)) (m : Nat) (K : AExit → St → Prop) : awp E_law_MatchGathers (loopAt (bodyOf Try.f4) 2) 2 (roundP E_law_MatchGathers 2 L_law_MatchGathers_2 m K) (L_law_MatchGathers_2.abs (t0, t1, t8, t9, t12, ()) (r0, r1, r2, r3, ())) = B_law_MatchGathers_2 t0 t1 t8 t9 t12 r0 r1 r2 r3 m K := by kernel_rfl
theorem I_law_MatchGathers_2 (h : ∀ (t0 : Int) (t1 : (List ((List Int) × (Int × Unit)))) (t8 : Int) (t9 : Int) (t12 : Int) (r0 : (Option ((List Int) × Unit))) (r1 : (List Int)) (r2 : (List Int)) (r3 : (List Int)) (K : AExit → St → Prop), p_law_MatchGathers_2 t0 t1 t8 t9 t12 r0 r1 r2 r3 → o_law_MatchGathers_2 t0 t1 t8 t9 t12 r0 r1 r2 r3 K → B_law_MatchGathers_2 t0 t1 t8 t9 t12 r0 r1 r2 r3 (m_law_MatchGathers_2 t0 t1 t8 t9 t12 r0 r1 r2 r3) K) : LoopOK E_law_MatchGathers 2 (loopAt (bodyOf Try.f4) 2) L_law_MatchGathers_2 :=
  fun x y K hp ho => match x, y, hp, ho with | (t0, t1, t8, t9, t12, ()), (r0, r1, r2, r3, ()), hp, ho => (R_law_MatchGathers_2 t0 t1 t8 t9 t12 r0 r1 r2 r3 (m_law_MatchGathers_2 t0 t1 t8 t9 t12 r0 r1 r2 r3) K).mpr (h t0 t1 t8 t9 t12 r0 r1 r2 r3 K hp ho)
theorem G_law_MatchGathers : loopsAll E_law_MatchGathers (loopList (bodyOf Try.f4) 0) = (LoopOK E_law_MatchGathers 0 (loopAt (bodyOf Try.f4) 0) L_law_MatchGathers_0 ∧ LoopOK E_law_MatchGathers 2 (loopAt (bodyOf Try.f4) 2) L_law_MatchGathers_2 ∧ True) := by kernel_rfl
theorem envok_law_MatchGathers (h_match_New : SumOK Try.prog 23 S_match_New) (h_R_Soft : SumOK Try.prog 24 S_R_Soft) (h_R_Version : SumOK Try.prog 19 S_R_Version) (h_R_Picked : SumOK Try.prog 22 S_R_Picked) (h_match_Buffer_Add : SumOK Try.prog 25 S_match_Buffer_Add) (h_match_Buffer_Soft : SumOK Try.prog 26 S_match_Buffer_Soft) (h_R_SameInts : SumOK Try.prog 16 S_R_SameInts) : EnvOK E_law_MatchGathers := ⟨sumsOf_ok (List.forall_mem_cons.2 ⟨h_match_New, (List.forall_mem_cons.2 ⟨h_R_Soft, (List.forall_mem_cons.2 ⟨h_R_Version, (List.forall_mem_cons.2 ⟨h_R_Picked, (List.forall_mem_cons.2 ⟨h_match_Buffer_Add, (List.forall_mem_cons.2 ⟨h_match_Buffer_Soft, (List.forall_mem_cons.2 ⟨h_R_SameInts, (fun _ h => nomatch h)⟩)⟩)⟩)⟩)⟩)⟩)⟩), follows⟩
theorem whole_law_MatchGathers (h_match_New : SumOK Try.prog 23 S_match_New) (h_R_Soft : SumOK Try.prog 24 S_R_Soft) (h_R_Version : SumOK Try.prog 19 S_R_Version) (h_R_Picked : SumOK Try.prog 22 S_R_Picked) (h_match_Buffer_Add : SumOK Try.prog 25 S_match_Buffer_Add) (h_match_Buffer_Soft : SumOK Try.prog 26 S_match_Buffer_Soft) (h_R_SameInts : SumOK Try.prog 16 S_R_SameInts) (l0 : LoopOK E_law_MatchGathers 0 (loopAt (bodyOf Try.f4) 0) L_law_MatchGathers_0) (l2 : LoopOK E_law_MatchGathers 2 (loopAt (bodyOf Try.f4) 2) L_law_MatchGathers_2) (main : ∀ (a0 : Int) (a1 : (List ((List Int) × (Int × Unit)))), (heardOK a1) → W_law_MatchGathers a0 a1) : SumOK Try.prog 4 S_law_MatchGathers :=
  fun_sound (E := E_law_MatchGathers) (envok_law_MatchGathers h_match_New h_R_Soft h_R_Version h_R_Picked h_match_Buffer_Add h_match_Buffer_Soft h_R_SameInts) (fn := Try.f4) (c := bodyOf Try.f4) (ts := [(4, none)]) S_law_MatchGathers Try.func4 (body_some (by kernel_rfl)) (by kernel_rfl) (Nat.le_of_ble_eq_true (by kernel_rfl)) (by kernel_rfl) (by kernel_rfl) (G_law_MatchGathers.mpr ⟨l0, l2, trivial⟩) (fun x hp => match x, hp with | (a0, a1, ()), hp => (V_law_MatchGathers a0 a1).mpr (main a0 a1 hp))
end Go.Spec
