/- The runs of the functions, told. -/
import Derived.Test.YtppemehkbnbjlaaLF
import Derived.Test.YtppemehkbnbjlaaProg
import Derived.Test.YtppemehkbnbjlaaS9
import Derived.Test.YtppemehkbnbjlaaV7
set_option linter.unusedVariables false
set_option linter.unusedSimpArgs false
namespace Go.Spec
open Go Go.Lift Go.Proofs
attribute [local irreducible] Go.Lift.awp
/-! ### keep_good -/
def L_keep_good_0 : Lift.Loop := Lift.Loop.mk 27 (.v (.ro (.int .u8)) :: (.v (.int .i64) :: (u 3 ++ (.sl 0 :: (.v (.int .i64) :: (u 20)))))) [(0, .row (.int .u8) [])] 1 (fun x y => p_keep_good_0 x.1 x.2.1 x.2.2.1 y.1) (fun x y => m_keep_good_0 x.1 x.2.1 x.2.2.1 y.1) (fun x y K => o_keep_good_0 x.1 x.2.1 x.2.2.1 y.1 K)
noncomputable def E_keep_good : Env := { P := Try.prog, sum := sumsOf [], nio := 0, head := fun b => if b = 0 then ([0, 1, 5, 6, 12, 13, 14], [(5, (.int .u8))]) else ([], []), after := fun _ => none, leave := fun b => if b = 0 then [4, 5] else [], loops := fun b => if b = 0 then some L_keep_good_0 else none }
def W_keep_good (a0 : (List Int)) (a1 : Int) : Prop := (
  (p_keep_good_0 a0 a1 (0 : Int) (@List.nil Int)) ∧
  (@List.nil Int ++ goodL (List.drop (0 : Nat) a0) (Int.toNat (a1 - (0 : Int))) = goodL a0 (Int.toNat a1)) ∧
  True)
theorem V_keep_good (a0 : (List Int)) (a1 : Int) : awp E_keep_good (bodyOf Try.f27) 0 (fin Try.prog S_keep_good (a0, a1, ()) [(4, none)] 0) (initSt S_keep_good.par (a0, a1, ()) 27) = W_keep_good a0 a1 := by kernel_rfl
def B_keep_good_0 (t0 : (List Int)) (t1 : Int) (t6 : Int) (r0 : (List Int)) (m : Nat) (K : AExit → St → Prop) : Prop := (
  condP (if decide (t6 < (↑(List.length t0) : Int)) = true then decide (t6 < t1) else false)
    (((0 : Int) ≤ t6) ∧
    (t6 < (↑(List.length t0) : Int)) ∧
    ((2 : Int) ≠ (0 : Int)) ∧
    ((List.length r0 + List.length [Int.tmod (List.getD t0 (Int.toNat t6) (0 : Int)) (2 : Int)]) * (1 : Nat) ≤ (140737488355328 : Nat)) ∧
    (p_keep_good_0 t0 t1 (IntKind.wrap IntKind.i64 (t6 + (1 : Int))) (List.append r0 [Int.tmod (List.getD t0 (Int.toNat t6) (0 : Int)) (2 : Int)])) ∧
    (m_keep_good_0 t0 t1 (IntKind.wrap IntKind.i64 (t6 + (1 : Int))) (List.append r0 [Int.tmod (List.getD t0 (Int.toNat t6) (0 : Int)) (2 : Int)]) < m) ∧
    o_keep_good_0 t0 t1 (IntKind.wrap IntKind.i64 (t6 + (1 : Int))) (List.append r0 [Int.tmod (List.getD t0 (Int.toNat t6) (0 : Int)) (2 : Int)]) K)
    (X_keep_good_0_0 (r0) K))
theorem R_keep_good_0 (t0 : (List Int)) (t1 : Int) (t6 : Int) (r0 : (List Int)) (m : Nat) (K : AExit → St → Prop) : awp E_keep_good (loopAt (bodyOf Try.f27) 0) 0 (roundP E_keep_good 0 L_keep_good_0 m K) (L_keep_good_0.abs (t0, t1, t6, ()) (r0, ())) = B_keep_good_0 t0 t1 t6 r0 m K := by kernel_rfl
theorem I_keep_good_0 (h : ∀ (t0 : (List Int)) (t1 : Int) (t6 : Int) (r0 : (List Int)) (K : AExit → St → Prop), p_keep_good_0 t0 t1 t6 r0 → o_keep_good_0 t0 t1 t6 r0 K → B_keep_good_0 t0 t1 t6 r0 (m_keep_good_0 t0 t1 t6 r0) K) : LoopOK E_keep_good 0 (loopAt (bodyOf Try.f27) 0) L_keep_good_0 :=
  fun x y K hp ho => match x, y, hp, ho with | (t0, t1, t6, ()), (r0, ()), hp, ho => (R_keep_good_0 t0 t1 t6 r0 (m_keep_good_0 t0 t1 t6 r0) K).mpr (h t0 t1 t6 r0 K hp ho)
theorem G_keep_good : loopsAll E_keep_good (loopList (bodyOf Try.f27) 0) = (LoopOK E_keep_good 0 (loopAt (bodyOf Try.f27) 0) L_keep_good_0 ∧ True) := by kernel_rfl
theorem envok_keep_good  : EnvOK E_keep_good := ⟨sumsOf_ok (fun _ h => nomatch h), follows⟩
theorem whole_keep_good  (l0 : LoopOK E_keep_good 0 (loopAt (bodyOf Try.f27) 0) L_keep_good_0) (main : ∀ (a0 : (List Int)) (a1 : Int), ((↑(List.length a0) : Int) ≤ big ∧ (∀ (y : Int), y ∈ a0 → (0 : Int) ≤ y) ∧ (0 : Int) ≤ a1 ∧ a1 ≤ (100000 : Int)) → W_keep_good a0 a1) : SumOK Try.prog 27 S_keep_good :=
  fun_sound (E := E_keep_good) (envok_keep_good ) (fn := Try.f27) (c := bodyOf Try.f27) (ts := [(4, none)]) S_keep_good Try.func27 (body_some (by kernel_rfl)) (by kernel_rfl) (Nat.le_of_ble_eq_true (by kernel_rfl)) (by kernel_rfl) (by kernel_rfl) (G_keep_good.mpr ⟨l0, trivial⟩) (fun x hp => match x, hp with | (a0, a1, ()), hp => (V_keep_good a0 a1).mpr (main a0 a1 hp))
/-! ### keep_heard -/
def L_keep_heard_0 : Lift.Loop := Lift.Loop.mk 43 (.v (.ro (.int .u8)) :: (.v (.ro (.int .i64)) :: (u 4 ++ (.sl 0 :: (.v (.int .i64) :: (u 35)))))) [(0, .row (.int .i64) [])] 1 (fun x y => p_keep_heard_0 x.1 x.2.1 x.2.2.1 y.1) (fun x y => m_keep_heard_0 x.1 x.2.1 x.2.2.1 y.1) (fun x y K => o_keep_heard_0 x.1 x.2.1 x.2.2.1 y.1 K)
noncomputable def E_keep_heard : Env := { P := Try.prog, sum := sumsOf [], nio := 0, head := fun b => if b = 0 then ([0, 1, 6, 7, 28, 29], [(6, (.int .i64))]) else ([], []), after := fun _ => none, leave := fun b => if b = 0 then [4, 5, 6] else [], loops := fun b => if b = 0 then some L_keep_heard_0 else none }
def W_keep_heard (a0 : (List Int)) (a1 : (List Int)) : Prop := (
  (p_keep_heard_0 a0 a1 (0 : Int) (@List.nil Int)) ∧
  (@List.nil Int ++ seg (fun (i : Nat) => sgS (List.getD a0 i (0 : Int)) (lvF a1 i)) (0 : Nat) (List.length a0) = hrd a0 a1) ∧
  (true = true) ∧
  True)
theorem V_keep_heard (a0 : (List Int)) (a1 : (List Int)) : awp E_keep_heard (bodyOf Try.f28) 0 (fin Try.prog S_keep_heard (a0, a1, ()) [(4, none), (5, none)] 0) (initSt S_keep_heard.par (a0, a1, ()) 43) = W_keep_heard a0 a1 := by kernel_rfl
def B_keep_heard_0 (t0 : (List Int)) (t1 : (List Int)) (t7 : Int) (r0 : (List Int)) (m : Nat) (K : AExit → St → Prop) : Prop := (
  condP (decide (t7 < (↑(List.length t0) : Int)))
    (condP (decide ((↑(List.length t1) : Int) > (0 : Int)))
      (((↑(List.length t1) : Int) ≠ (0 : Int)) ∧
      ((0 : Int) ≤ Int.tmod t7 (↑(List.length t1) : Int)) ∧
      (Int.tmod t7 (↑(List.length t1) : Int) < (↑(List.length t1) : Int)) ∧
      condP (if decide (List.getD t1 (Int.toNat (Int.tmod t7 (↑(List.length t1) : Int))) (0 : Int) < (1 : Int)) = true then true else decide (List.getD t1 (Int.toNat (Int.tmod t7 (↑(List.length t1) : Int))) (0 : Int) > (100000 : Int)))
        (((0 : Int) ≤ t7) ∧
        (t7 < (↑(List.length t0) : Int)) ∧
        condP (List.getD t0 (Int.toNat t7) (0 : Int) == (1 : Int))
          (((List.length r0 + List.length [IntKind.wrap IntKind.i64 ((0 : Int) - (7 : Int))]) * (8 : Nat) ≤ (140737488355328 : Nat)) ∧
          (p_keep_heard_0 t0 t1 (IntKind.wrap IntKind.i64 (t7 + (1 : Int))) (List.append r0 [IntKind.wrap IntKind.i64 ((0 : Int) - (7 : Int))])) ∧
          (m_keep_heard_0 t0 t1 (IntKind.wrap IntKind.i64 (t7 + (1 : Int))) (List.append r0 [IntKind.wrap IntKind.i64 ((0 : Int) - (7 : Int))]) < m) ∧
          o_keep_heard_0 t0 t1 (IntKind.wrap IntKind.i64 (t7 + (1 : Int))) (List.append r0 [IntKind.wrap IntKind.i64 ((0 : Int) - (7 : Int))]) K)
          (((List.length r0 + List.length [(7 : Int)]) * (8 : Nat) ≤ (140737488355328 : Nat)) ∧
          (p_keep_heard_0 t0 t1 (IntKind.wrap IntKind.i64 (t7 + (1 : Int))) (List.append r0 [(7 : Int)])) ∧
          (m_keep_heard_0 t0 t1 (IntKind.wrap IntKind.i64 (t7 + (1 : Int))) (List.append r0 [(7 : Int)]) < m) ∧
          o_keep_heard_0 t0 t1 (IntKind.wrap IntKind.i64 (t7 + (1 : Int))) (List.append r0 [(7 : Int)]) K))
        (((0 : Int) ≤ t7) ∧
        (t7 < (↑(List.length t0) : Int)) ∧
        condP (List.getD t0 (Int.toNat t7) (0 : Int) == (1 : Int))
          (((List.length r0 + List.length [IntKind.wrap IntKind.i64 ((0 : Int) - List.getD t1 (Int.toNat (Int.tmod t7 (↑(List.length t1) : Int))) (0 : Int))]) * (8 : Nat) ≤ (140737488355328 : Nat)) ∧
          (p_keep_heard_0 t0 t1 (IntKind.wrap IntKind.i64 (t7 + (1 : Int))) (List.append r0 [IntKind.wrap IntKind.i64 ((0 : Int) - List.getD t1 (Int.toNat (Int.tmod t7 (↑(List.length t1) : Int))) (0 : Int))])) ∧
          (m_keep_heard_0 t0 t1 (IntKind.wrap IntKind.i64 (t7 + (1 : Int))) (List.append r0 [IntKind.wrap IntKind.i64 ((0 : Int) - List.getD t1 (Int.toNat (Int.tmod t7 (↑(List.length t1) : Int))) (0 : Int))]) < m) ∧
          o_keep_heard_0 t0 t1 (IntKind.wrap IntKind.i64 (t7 + (1 : Int))) (List.append r0 [IntKind.wrap IntKind.i64 ((0 : Int) - List.getD t1 (Int.toNat (Int.tmod t7 (↑(List.length t1) : Int))) (0 : Int))]) K)
          (((List.length r0 + List.length [List.getD t1 (Int.toNat (Int.tmod t7 (↑(List.length t1) : Int))) (0 : Int)]) * (8 : Nat) ≤ (140737488355328 : Nat)) ∧
          (p_keep_heard_0 t0 t1 (IntKind.wrap IntKind.i64 (t7 + (1 : Int))) (List.append r0 [List.getD t1 (Int.toNat (Int.tmod t7 (↑(List.length t1) : Int))) (0 : Int)])) ∧
          (m_keep_heard_0 t0 t1 (IntKind.wrap IntKind.i64 (t7 + (1 : Int))) (List.append r0 [List.getD t1 (Int.toNat (Int.tmod t7 (↑(List.length t1) : Int))) (0 : Int)]) < m) ∧
          o_keep_heard_0 t0 t1 (IntKind.wrap IntKind.i64 (t7 + (1 : Int))) (List.append r0 [List.getD t1 (Int.toNat (Int.tmod t7 (↑(List.length t1) : Int))) (0 : Int)]) K)))
      (condP (if decide ((1 : Int) < (1 : Int)) = true then true else decide ((1 : Int) > (100000 : Int)))
        (((0 : Int) ≤ t7) ∧
        (t7 < (↑(List.length t0) : Int)) ∧
        condP (List.getD t0 (Int.toNat t7) (0 : Int) == (1 : Int))
          (((List.length r0 + List.length [IntKind.wrap IntKind.i64 ((0 : Int) - (7 : Int))]) * (8 : Nat) ≤ (140737488355328 : Nat)) ∧
          (p_keep_heard_0 t0 t1 (IntKind.wrap IntKind.i64 (t7 + (1 : Int))) (List.append r0 [IntKind.wrap IntKind.i64 ((0 : Int) - (7 : Int))])) ∧
          (m_keep_heard_0 t0 t1 (IntKind.wrap IntKind.i64 (t7 + (1 : Int))) (List.append r0 [IntKind.wrap IntKind.i64 ((0 : Int) - (7 : Int))]) < m) ∧
          o_keep_heard_0 t0 t1 (IntKind.wrap IntKind.i64 (t7 + (1 : Int))) (List.append r0 [IntKind.wrap IntKind.i64 ((0 : Int) - (7 : Int))]) K)
          (((List.length r0 + List.length [(7 : Int)]) * (8 : Nat) ≤ (140737488355328 : Nat)) ∧
          (p_keep_heard_0 t0 t1 (IntKind.wrap IntKind.i64 (t7 + (1 : Int))) (List.append r0 [(7 : Int)])) ∧
          (m_keep_heard_0 t0 t1 (IntKind.wrap IntKind.i64 (t7 + (1 : Int))) (List.append r0 [(7 : Int)]) < m) ∧
          o_keep_heard_0 t0 t1 (IntKind.wrap IntKind.i64 (t7 + (1 : Int))) (List.append r0 [(7 : Int)]) K))
        (((0 : Int) ≤ t7) ∧
        (t7 < (↑(List.length t0) : Int)) ∧
        condP (List.getD t0 (Int.toNat t7) (0 : Int) == (1 : Int))
          (((List.length r0 + List.length [IntKind.wrap IntKind.i64 ((0 : Int) - (1 : Int))]) * (8 : Nat) ≤ (140737488355328 : Nat)) ∧
          (p_keep_heard_0 t0 t1 (IntKind.wrap IntKind.i64 (t7 + (1 : Int))) (List.append r0 [IntKind.wrap IntKind.i64 ((0 : Int) - (1 : Int))])) ∧
          (m_keep_heard_0 t0 t1 (IntKind.wrap IntKind.i64 (t7 + (1 : Int))) (List.append r0 [IntKind.wrap IntKind.i64 ((0 : Int) - (1 : Int))]) < m) ∧
          o_keep_heard_0 t0 t1 (IntKind.wrap IntKind.i64 (t7 + (1 : Int))) (List.append r0 [IntKind.wrap IntKind.i64 ((0 : Int) - (1 : Int))]) K)
          (((List.length r0 + List.length [(1 : Int)]) * (8 : Nat) ≤ (140737488355328 : Nat)) ∧
          (p_keep_heard_0 t0 t1 (IntKind.wrap IntKind.i64 (t7 + (1 : Int))) (List.append r0 [(1 : Int)])) ∧
          (m_keep_heard_0 t0 t1 (IntKind.wrap IntKind.i64 (t7 + (1 : Int))) (List.append r0 [(1 : Int)]) < m) ∧
          o_keep_heard_0 t0 t1 (IntKind.wrap IntKind.i64 (t7 + (1 : Int))) (List.append r0 [(1 : Int)]) K))))
    (X_keep_heard_0_0 (r0) K))
theorem R_keep_heard_0 (t0 : (List Int)) (t1 : (List Int)) (t7 : Int) (r0 : (List Int)) (m : Nat) (K : AExit → St → Prop) : awp E_keep_heard (loopAt (bodyOf Try.f28) 0) 0 (roundP E_keep_heard 0 L_keep_heard_0 m K) (L_keep_heard_0.abs (t0, t1, t7, ()) (r0, ())) = B_keep_heard_0 t0 t1 t7 r0 m K := by kernel_rfl
theorem I_keep_heard_0 (h : ∀ (t0 : (List Int)) (t1 : (List Int)) (t7 : Int) (r0 : (List Int)) (K : AExit → St → Prop), p_keep_heard_0 t0 t1 t7 r0 → o_keep_heard_0 t0 t1 t7 r0 K → B_keep_heard_0 t0 t1 t7 r0 (m_keep_heard_0 t0 t1 t7 r0) K) : LoopOK E_keep_heard 0 (loopAt (bodyOf Try.f28) 0) L_keep_heard_0 :=
  fun x y K hp ho => match x, y, hp, ho with | (t0, t1, t7, ()), (r0, ()), hp, ho => (R_keep_heard_0 t0 t1 t7 r0 (m_keep_heard_0 t0 t1 t7 r0) K).mpr (h t0 t1 t7 r0 K hp ho)
theorem G_keep_heard : loopsAll E_keep_heard (loopList (bodyOf Try.f28) 0) = (LoopOK E_keep_heard 0 (loopAt (bodyOf Try.f28) 0) L_keep_heard_0 ∧ True) := by kernel_rfl
theorem envok_keep_heard  : EnvOK E_keep_heard := ⟨sumsOf_ok (fun _ h => nomatch h), follows⟩
theorem whole_keep_heard  (l0 : LoopOK E_keep_heard 0 (loopAt (bodyOf Try.f28) 0) L_keep_heard_0) (main : ∀ (a0 : (List Int)) (a1 : (List Int)), ((↑(List.length a0) : Int) ≤ (1000000 : Int) ∧ (↑(List.length a1) : Int) ≤ big) → W_keep_heard a0 a1) : SumOK Try.prog 28 S_keep_heard :=
  fun_sound (E := E_keep_heard) (envok_keep_heard ) (fn := Try.f28) (c := bodyOf Try.f28) (ts := [(4, none), (5, none)]) S_keep_heard Try.func28 (body_some (by kernel_rfl)) (by kernel_rfl) (Nat.le_of_ble_eq_true (by kernel_rfl)) (by kernel_rfl) (by kernel_rfl) (G_keep_heard.mpr ⟨l0, trivial⟩) (fun x hp => match x, hp with | (a0, a1, ()), hp => (V_keep_heard a0 a1).mpr (main a0 a1 hp))
/-! ### keep_small -/
def L_keep_small_0 : Lift.Loop := Lift.Loop.mk 21 (.v (.ro (.int .i64)) :: (u 2 ++ (.sl 0 :: (.v (.int .i64) :: (u 16))))) [(0, .row (.int .i64) [])] 1 (fun x y => p_keep_small_0 x.1 x.2.1 y.1) (fun x y => m_keep_small_0 x.1 x.2.1 y.1) (fun x y K => o_keep_small_0 x.1 x.2.1 y.1 K)
noncomputable def E_keep_small : Env := { P := Try.prog, sum := sumsOf [], nio := 0, head := fun b => if b = 0 then ([0, 3, 4], [(3, (.int .i64))]) else ([], []), after := fun _ => none, leave := fun b => if b = 0 then [2, 3] else [], loops := fun b => if b = 0 then some L_keep_small_0 else none }
def W_keep_small (a0 : (List Int)) : Prop := (
  (p_keep_small_0 a0 (0 : Int) (@List.nil Int)) ∧
  (@List.nil Int ++ smallL (List.drop (0 : Nat) a0) = smallL a0) ∧
  True)
theorem V_keep_small (a0 : (List Int)) : awp E_keep_small (bodyOf Try.f29) 0 (fin Try.prog S_keep_small (a0, ()) [(2, none)] 0) (initSt S_keep_small.par (a0, ()) 21) = W_keep_small a0 := by kernel_rfl
def B_keep_small_0 (t0 : (List Int)) (t4 : Int) (r0 : (List Int)) (m : Nat) (K : AExit → St → Prop) : Prop := (
  condP (decide (t4 < (↑(List.length t0) : Int)))
    (((0 : Int) ≤ t4) ∧
    (t4 < (↑(List.length t0) : Int)) ∧
    ((List.length r0 + List.length [IntKind.wrap IntKind.i64 ((1 : Int) + bits BinOp.and IntKind.i64 (List.getD t0 (Int.toNat t4) (0 : Int)) (3 : Int))]) * (8 : Nat) ≤ (140737488355328 : Nat)) ∧
    (p_keep_small_0 t0 (IntKind.wrap IntKind.i64 (t4 + (1 : Int))) (List.append r0 [IntKind.wrap IntKind.i64 ((1 : Int) + bits BinOp.and IntKind.i64 (List.getD t0 (Int.toNat t4) (0 : Int)) (3 : Int))])) ∧
    (m_keep_small_0 t0 (IntKind.wrap IntKind.i64 (t4 + (1 : Int))) (List.append r0 [IntKind.wrap IntKind.i64 ((1 : Int) + bits BinOp.and IntKind.i64 (List.getD t0 (Int.toNat t4) (0 : Int)) (3 : Int))]) < m) ∧
    o_keep_small_0 t0 (IntKind.wrap IntKind.i64 (t4 + (1 : Int))) (List.append r0 [IntKind.wrap IntKind.i64 ((1 : Int) + bits BinOp.and IntKind.i64 (List.getD t0 (Int.toNat t4) (0 : Int)) (3 : Int))]) K)
    (X_keep_small_0_0 (r0) K))
theorem R_keep_small_0 (t0 : (List Int)) (t4 : Int) (r0 : (List Int)) (m : Nat) (K : AExit → St → Prop) : awp E_keep_small (loopAt (bodyOf Try.f29) 0) 0 (roundP E_keep_small 0 L_keep_small_0 m K) (L_keep_small_0.abs (t0, t4, ()) (r0, ())) = B_keep_small_0 t0 t4 r0 m K := by kernel_rfl
theorem I_keep_small_0 (h : ∀ (t0 : (List Int)) (t4 : Int) (r0 : (List Int)) (K : AExit → St → Prop), p_keep_small_0 t0 t4 r0 → o_keep_small_0 t0 t4 r0 K → B_keep_small_0 t0 t4 r0 (m_keep_small_0 t0 t4 r0) K) : LoopOK E_keep_small 0 (loopAt (bodyOf Try.f29) 0) L_keep_small_0 :=
  fun x y K hp ho => match x, y, hp, ho with | (t0, t4, ()), (r0, ()), hp, ho => (R_keep_small_0 t0 t4 r0 (m_keep_small_0 t0 t4 r0) K).mpr (h t0 t4 r0 K hp ho)
theorem G_keep_small : loopsAll E_keep_small (loopList (bodyOf Try.f29) 0) = (LoopOK E_keep_small 0 (loopAt (bodyOf Try.f29) 0) L_keep_small_0 ∧ True) := by kernel_rfl
theorem envok_keep_small  : EnvOK E_keep_small := ⟨sumsOf_ok (fun _ h => nomatch h), follows⟩
theorem whole_keep_small  (l0 : LoopOK E_keep_small 0 (loopAt (bodyOf Try.f29) 0) L_keep_small_0) (main : ∀ (a0 : (List Int)), (smallOK a0) → W_keep_small a0) : SumOK Try.prog 29 S_keep_small :=
  fun_sound (E := E_keep_small) (envok_keep_small ) (fn := Try.f29) (c := bodyOf Try.f29) (ts := [(2, none)]) S_keep_small Try.func29 (body_some (by kernel_rfl)) (by kernel_rfl) (Nat.le_of_ble_eq_true (by kernel_rfl)) (by kernel_rfl) (by kernel_rfl) (G_keep_small.mpr ⟨l0, trivial⟩) (fun x hp => match x, hp with | (a0, ()), hp => (V_keep_small a0).mpr (main a0 hp))
/-! ### keep_MatchAll -/
def L_keep_MatchAll_0 : Lift.Loop := Lift.Loop.mk 175 (.sl 0 :: (.v (.ro (.int .i64)) :: (.v (.ro (.int .i64)) :: (u 4 ++ (.sl 1 :: (.v (.int .i64) :: (.mp 2 :: (.v (.int .i64) :: (u 164))))))))) [(0, .row (.int .u8) []), (1, .row (.int .i64) []), (2, .mp (.int .i64) (.int .i64) [])] 3 (fun x y => p_keep_MatchAll_0 x.1 x.2.1 x.2.2.1 x.2.2.2.1 y.1 y.2.1 y.2.2.1) (fun x y => m_keep_MatchAll_0 x.1 x.2.1 x.2.2.1 x.2.2.2.1 y.1 y.2.1 y.2.2.1) (fun x y K => o_keep_MatchAll_0 x.1 x.2.1 x.2.2.1 x.2.2.2.1 y.1 y.2.1 y.2.2.1 K)
def L_keep_MatchAll_2 : Lift.Loop := Lift.Loop.mk 175 (.sl 0 :: (.v (.ro (.int .i64)) :: (.v (.ro (.int .i64)) :: (u 8 ++ (.addr 1 :: (u 1 ++ (.addr 2 :: (u 1 ++ (.v (.int .i64) :: (.v (.int .i64) :: (u 158))))))))))) [(0, .row (.int .u8) []), (1, .obox (.pair (.own (.int .i64)) .unit) []), (2, .obox (.pair (.own (.int .i64)) .unit) [])] 3 (fun x y => p_keep_MatchAll_2 x.1 x.2.1 x.2.2.1 x.2.2.2.1 y.1 y.2.1 y.2.2.1) (fun x y => m_keep_MatchAll_2 x.1 x.2.1 x.2.2.1 x.2.2.2.1 y.1 y.2.1 y.2.2.1) (fun x y K => o_keep_MatchAll_2 x.1 x.2.1 x.2.2.1 x.2.2.2.1 y.1 y.2.1 y.2.2.1 K)
def L_keep_MatchAll_4 : Lift.Loop := Lift.Loop.mk 175 (.sl 0 :: (.v (.ro (.int .i64)) :: (.v (.ro (.int .i64)) :: (u 8 ++ (.addr 1 :: (u 1 ++ (.addr 2 :: (u 1 ++ (.v (.int .i64) :: (.v (.int .i64) :: (.v (.int .i64) :: (u 157)))))))))))) [(0, .row (.int .u8) []), (1, .obox (.pair (.own (.int .i64)) .unit) []), (2, .obox (.pair (.own (.int .i64)) .unit) [])] 3 (fun x y => p_keep_MatchAll_4 x.1 x.2.1 x.2.2.1 x.2.2.2.1 x.2.2.2.2.1 y.1 y.2.1 y.2.2.1) (fun x y => m_keep_MatchAll_4 x.1 x.2.1 x.2.2.1 x.2.2.2.1 x.2.2.2.2.1 y.1 y.2.1 y.2.2.1) (fun x y K => o_keep_MatchAll_4 x.1 x.2.1 x.2.2.1 x.2.2.2.1 x.2.2.2.2.1 y.1 y.2.1 y.2.2.1 K)
def L_keep_MatchAll_6 : Lift.Loop := Lift.Loop.mk 175 (.sl 0 :: (u 23 ++ (.sl 1 :: (.v (.int .i64) :: (u 149))))) [(0, .row (.int .u8) []), (1, .row (.int .i64) [])] 2 (fun x y => p_keep_MatchAll_6 x.1 y.1 y.2.1) (fun x y => m_keep_MatchAll_6 x.1 y.1 y.2.1) (fun x y K => o_keep_MatchAll_6 x.1 y.1 y.2.1 K)
noncomputable def E_keep_MatchAll : Env := { P := Try.prog, sum := sumsOf [(27, S_keep_good), (15, S_match_Order), (23, S_match_New), (20, S_match_Pick), (29, S_keep_small), (28, S_keep_heard), (25, S_match_Buffer_Add), (26, S_match_Buffer_Soft), (16, S_R_SameInts)], nio := 0, head := fun b => if b = 6 then ([0, 24, 25, 155, 156, 157, 158, 159, 162, 163, 164, 165, 166, 167, 168, 169, 170, 171, 172, 173], []) else if b = 4 then ([0, 1, 2, 11, 13, 15, 16, 17, 137, 138, 139, 140, 141, 155, 156, 157, 158, 159, 162, 163, 164, 165, 166, 167, 168, 169, 170, 171, 172, 173], []) else if b = 2 then ([0, 1, 2, 11, 13, 15, 16, 137, 138, 139, 140, 141, 155, 156, 157, 158, 159, 162, 163, 164, 165, 166, 167, 168, 169, 170, 171, 172, 173], []) else if b = 0 then ([0, 1, 2, 7, 8, 9, 10, 51, 52, 53, 54, 55, 58, 59, 60, 61, 62, 137, 138, 139, 140, 141, 155, 156, 157, 158, 159, 162, 163, 164, 165, 166, 167, 168, 169, 170, 171, 172, 173], []) else ([], []), after := fun _ => none, leave := fun b => if b = 6 then [6] else if b = 4 then [0, 1, 2, 6, 11, 13, 15, 16, 137, 138, 139, 140, 141, 155, 156, 157, 158, 159, 162, 163, 164, 165, 166, 167, 168, 169, 170, 171, 172, 173] else if b = 2 then [0, 6, 11, 13, 137, 138, 139, 140, 141, 155, 156, 157, 158, 159, 162, 163, 164, 165, 166, 167, 168, 169, 170, 171, 172, 173] else if b = 0 then [0, 1, 2, 6, 7, 8, 9, 51, 52, 53, 54, 55, 58, 59, 60, 61, 62, 137, 138, 139, 140, 141, 155, 156, 157, 158, 159, 162, 163, 164, 165, 166, 167, 168, 169, 170, 171, 172, 173] else [], loops := fun b => if b = 6 then some L_keep_MatchAll_6 else if b = 4 then some L_keep_MatchAll_4 else if b = 2 then some L_keep_MatchAll_2 else if b = 0 then some L_keep_MatchAll_0 else none }
def W_keep_MatchAll (a0 : (List Int)) (a1 : (List Int)) (a2 : (List Int)) : Prop := (
  ((↑(List.length a0) : Int) ≤ big ∧ (∀ (y : Int), y ∈ a0 → (0 : Int) ≤ y) ∧ (0 : Int) ≤ (600 : Int) ∧ (600 : Int) ≤ (100000 : Int)) ∧
  (True) ∧
  (p_keep_MatchAll_0 a1 a2 (orderErr (↑(List.length (goodL a0 (600 : Nat))) : Int)) (0 : Int) (goodL a0 (600 : Nat)) (orderOf (↑(List.length (goodL a0 (600 : Nat))) : Int)) (some (@List.nil (Int × Int)))) ∧
  ∀ es : List (Int × Int), (List.length es = List.length (orderOf (↑(List.length (goodL a0 (600 : Nat))) : Int))) →
   condP (if (if (orderErr (↑(List.length (goodL a0 (600 : Nat))) : Int) != (0 : Int)) = true then true else (↑(List.length (orderOf (↑(List.length (goodL a0 (600 : Nat))) : Int))) : Int) != (↑(List.length (goodL a0 (600 : Nat))) : Int)) = true then true else mlen (Ty.int IntKind.i64) (Ty.int IntKind.i64) (some es) != (↑(List.length (goodL a0 (600 : Nat))) : Int))
     ((false = true) ∧
     True)
     ((True) ∧
     (True) ∧
     condP ((if (1 : Int) ≤ (↑(List.length (goodL a0 (600 : Nat))) : Int) ∧ (↑(List.length (goodL a0 (600 : Nat))) : Int) ≤ (4096 : Int) then (0 : Int) else (1 : Int)) != (0 : Int))
       ((((↑(List.length (goodL a0 (600 : Nat))) : Int) == (0 : Int)) = true) ∧
       True)
       ((p_keep_MatchAll_2 a1 a2 (lesser false (↑(List.length a2) : Int) (8 : Int)) (0 : Int) (goodL a0 (600 : Nat)) (if (1 : Int) ≤ (↑(List.length (goodL a0 (600 : Nat))) : Int) ∧ (↑(List.length (goodL a0 (600 : Nat))) : Int) ≤ (4096 : Int) then some (List.replicate (Int.toNat (↑(List.length (goodL a0 (600 : Nat))) : Int)) (0 : Int), ()) else none) (if (1 : Int) ≤ (↑(List.length (goodL a0 (600 : Nat))) : Int) ∧ (↑(List.length (goodL a0 (600 : Nat))) : Int) ≤ (4096 : Int) then some (List.replicate (Int.toNat (↑(List.length (goodL a0 (600 : Nat))) : Int)) (0 : Int), ()) else none)) ∧
       ∀ a : List Int, ∀ b : List Int, (AB (goodL a0 (600 : Nat)) a1 a2 (Int.toNat (lesser false (↑(List.length a2) : Int) (8 : Int))) (Int.toNat (lesser false (↑(List.length a2) : Int) (8 : Int))) (0 : Nat) (some (a, ())) (some (b, ()))) →
         (Option.isSome (some (a, ())) = true) ∧
         (List.length (Prod.fst (a, ())) ≤ (4096 : Nat)) ∧
         condP (!(↑(List.length (Prod.fst (a, ()))) : Int) != (↑(List.length (goodL a0 (600 : Nat))) : Int))
           ((((↑(List.length (Prod.fst (a, ()))) : Int) != (↑(List.length (goodL a0 (600 : Nat))) : Int)) = false) ∧
           (((↑(List.length (Prod.fst (a, ()))) : Int) != (↑(List.length (goodL a0 (600 : Nat))) : Int)) = false) ∧
           (((↑(List.length (Prod.fst (a, ()))) : Int) != (↑(List.length (goodL a0 (600 : Nat))) : Int)) = false) ∧
           (Option.isSome (some (b, ())) = true) ∧
           (List.length (Prod.fst (b, ())) ≤ (4096 : Nat)) ∧
           (((↑(List.length (Prod.fst (a, ()))) : Int) != (↑(List.length (goodL a0 (600 : Nat))) : Int)) = false) ∧
           ((↑(List.length (Prod.fst (a, ()))) : Int) ≤ big) ∧
           (((↑(List.length (Prod.fst (a, ()))) : Int) != (↑(List.length (goodL a0 (600 : Nat))) : Int)) = false) ∧
           condP (if ((↑(List.length (Prod.fst (a, ()))) : Int) != (↑(List.length (goodL a0 (600 : Nat))) : Int)) = true then true else !decide (Prod.fst (a, ()) = Prod.fst (b, ())))
             ((false = true) ∧
             True)
             ((p_keep_MatchAll_6 (0 : Int) (goodL a0 (600 : Nat)) (Prod.fst (a, ()))) ∧
             (true = true) ∧
             True))
           ((((↑(List.length (Prod.fst (a, ()))) : Int) != (↑(List.length (goodL a0 (600 : Nat))) : Int)) = false → False) ∧
           (((↑(List.length (Prod.fst (a, ()))) : Int) != (↑(List.length (goodL a0 (600 : Nat))) : Int)) = false → False) ∧
           (((↑(List.length (Prod.fst (a, ()))) : Int) != (↑(List.length (goodL a0 (600 : Nat))) : Int)) = false → False) ∧
           (((↑(List.length (Prod.fst (a, ()))) : Int) != (↑(List.length (goodL a0 (600 : Nat))) : Int)) = false → False) ∧
           (((↑(List.length (Prod.fst (a, ()))) : Int) != (↑(List.length (goodL a0 (600 : Nat))) : Int)) = false → False) ∧
           (((↑(List.length (Prod.fst (a, ()))) : Int) != (↑(List.length (goodL a0 (600 : Nat))) : Int)) = false → False) ∧
           condP (true)
             ((false = true) ∧
             True)
             ((p_keep_MatchAll_6 (0 : Int) (goodL a0 (600 : Nat)) (Prod.fst (a, ()))) ∧
             (true = true) ∧
             True)))))
theorem V_keep_MatchAll (a0 : (List Int)) (a1 : (List Int)) (a2 : (List Int)) : awp E_keep_MatchAll (bodyOf Try.f5) 0 (fin Try.prog S_keep_MatchAll (a0, a1, a2, ()) [(6, none)] 0) (initSt S_keep_MatchAll.par (a0, a1, a2, ()) 175) = W_keep_MatchAll a0 a1 a2 := by kernel_rfl
def B_keep_MatchAll_0 (t1 : (List Int)) (t2 : (List Int)) (t8 : Int) (t10 : Int) (r0 : (List Int)) (r1 : (List Int)) (r2 : (Option (List (Int × Int)))) (m : Nat) (K : AExit → St → Prop) : Prop := (
  condP (decide (t10 < (↑(List.length r1) : Int)))
    (((0 : Int) ≤ t10) ∧
    (t10 < (↑(List.length r1) : Int)) ∧
    (Option.isSome r2 = true) ∧
    (p_keep_MatchAll_0 t1 t2 t8 (IntKind.wrap IntKind.i64 (t10 + (1 : Int))) r0 r1 (putO r2 (List.getD r1 (Int.toNat t10) (0 : Int)) (IntKind.wrap IntKind.i64 (Option.getD (getO r2 (List.getD r1 (Int.toNat t10) (0 : Int))) (0 : Int) + (1 : Int))))) ∧
    (m_keep_MatchAll_0 t1 t2 t8 (IntKind.wrap IntKind.i64 (t10 + (1 : Int))) r0 r1 (putO r2 (List.getD r1 (Int.toNat t10) (0 : Int)) (IntKind.wrap IntKind.i64 (Option.getD (getO r2 (List.getD r1 (Int.toNat t10) (0 : Int))) (0 : Int) + (1 : Int)))) < m) ∧
    o_keep_MatchAll_0 t1 t2 t8 (IntKind.wrap IntKind.i64 (t10 + (1 : Int))) r0 r1 (putO r2 (List.getD r1 (Int.toNat t10) (0 : Int)) (IntKind.wrap IntKind.i64 (Option.getD (getO r2 (List.getD r1 (Int.toNat t10) (0 : Int))) (0 : Int) + (1 : Int)))) K)
    (X_keep_MatchAll_0_0 (t1) (t2) (t8) (r0) (r1) (r2) K))
theorem R_keep_MatchAll_0 (t1 : (List Int)) (t2 : (List Int)) (t8 : Int) (t10 : Int) (r0 : (List Int)) (r1 : (List Int)) (r2 : (Option (List (Int × Int)))) (m : Nat) (K : AExit → St → Prop) : awp E_keep_MatchAll (loopAt (bodyOf Try.f5) 0) 0 (roundP E_keep_MatchAll 0 L_keep_MatchAll_0 m K) (L_keep_MatchAll_0.abs (t1, t2, t8, t10, ()) (r0, r1, r2, ())) = B_keep_MatchAll_0 t1 t2 t8 t10 r0 r1 r2 m K := by kernel_rfl
theorem I_keep_MatchAll_0 (h : ∀ (t1 : (List Int)) (t2 : (List Int)) (t8 : Int) (t10 : Int) (r0 : (List Int)) (r1 : (List Int)) (r2 : (Option (List (Int × Int)))) (K : AExit → St → Prop), p_keep_MatchAll_0 t1 t2 t8 t10 r0 r1 r2 → o_keep_MatchAll_0 t1 t2 t8 t10 r0 r1 r2 K → B_keep_MatchAll_0 t1 t2 t8 t10 r0 r1 r2 (m_keep_MatchAll_0 t1 t2 t8 t10 r0 r1 r2) K) : LoopOK E_keep_MatchAll 0 (loopAt (bodyOf Try.f5) 0) L_keep_MatchAll_0 :=
  fun x y K hp ho => match x, y, hp, ho with | (t1, t2, t8, t10, ()), (r0, r1, r2, ()), hp, ho => (R_keep_MatchAll_0 t1 t2 t8 t10 r0 r1 r2 (m_keep_MatchAll_0 t1 t2 t8 t10 r0 r1 r2) K).mpr (h t1 t2 t8 t10 r0 r1 r2 K hp ho)
def B_keep_MatchAll_2 (t1 : (List Int)) (t2 : (List Int)) (t15 : Int) (t16 : Int) (r0 : (List Int)) (r1 : (Option ((List Int) × Unit))) (r2 : (Option ((List Int) × Unit))) (m : Nat) (K : AExit → St → Prop) : Prop := (
  condP (decide (t16 < t15))
    ((p_keep_MatchAll_4 t1 t2 t15 t16 (0 : Int) r0 r1 r2) ∧
    ∀ a : List Int, ∀ b : List Int, (AB r0 t1 t2 (Int.toNat t15) (Int.toNat (t16 + (1 : Int))) (Int.toNat (t15 - (t16 + (1 : Int)))) (some (a, ())) (some (b, ()))) →
      (p_keep_MatchAll_2 t1 t2 t15 (IntKind.wrap IntKind.i64 (t16 + (1 : Int))) r0 (some (a, ())) (some (b, ()))) ∧
      (m_keep_MatchAll_2 t1 t2 t15 (IntKind.wrap IntKind.i64 (t16 + (1 : Int))) r0 (some (a, ())) (some (b, ())) < m) ∧
      o_keep_MatchAll_2 t1 t2 t15 (IntKind.wrap IntKind.i64 (t16 + (1 : Int))) r0 (some (a, ())) (some (b, ())) K)
    (X_keep_MatchAll_2_3 (r0) (r1) (r2) K))
theorem R_keep_MatchAll_2 (t1 : (List Int)) (t2 : (List Int)) (t15 : Int) (t16 : Int) (r0 : (List Int)) (r1 : (Option ((List Int) × Unit))) (r2 : (Option ((List Int) × Unit))) (m : Nat) (K : AExit → St → Prop) : awp E_keep_MatchAll (loopAt (bodyOf Try.f5) 2) 2 (roundP E_keep_MatchAll 2 L_keep_MatchAll_2 m K) (L_keep_MatchAll_2.abs (t1, t2, t15, t16, ()) (r0, r1, r2, ())) = B_keep_MatchAll_2 t1 t2 t15 t16 r0 r1 r2 m K := by kernel_rfl
theorem I_keep_MatchAll_2 (h : ∀ (t1 : (List Int)) (t2 : (List Int)) (t15 : Int) (t16 : Int) (r0 : (List Int)) (r1 : (Option ((List Int) × Unit))) (r2 : (Option ((List Int) × Unit))) (K : AExit → St → Prop), p_keep_MatchAll_2 t1 t2 t15 t16 r0 r1 r2 → o_keep_MatchAll_2 t1 t2 t15 t16 r0 r1 r2 K → B_keep_MatchAll_2 t1 t2 t15 t16 r0 r1 r2 (m_keep_MatchAll_2 t1 t2 t15 t16 r0 r1 r2) K) : LoopOK E_keep_MatchAll 2 (loopAt (bodyOf Try.f5) 2) L_keep_MatchAll_2 :=
  fun x y K hp ho => match x, y, hp, ho with | (t1, t2, t15, t16, ()), (r0, r1, r2, ()), hp, ho => (R_keep_MatchAll_2 t1 t2 t15 t16 r0 r1 r2 (m_keep_MatchAll_2 t1 t2 t15 t16 r0 r1 r2) K).mpr (h t1 t2 t15 t16 r0 r1 r2 K hp ho)
def B_keep_MatchAll_4 (t1 : (List Int)) (t2 : (List Int)) (t15 : Int) (t16 : Int) (t17 : Int) (r0 : (List Int)) (r1 : (Option ((List Int) × Unit))) (r2 : (Option ((List Int) × Unit))) (m : Nat) (K : AExit → St → Prop) : Prop := (
  condP (decide (t17 < (2 : Int)))
    (condP (t17 == (1 : Int))
      (((4 : Int) ≠ (0 : Int)) ∧
      ((0 : Int) ≤ IntKind.wrap IntKind.i64 (IntKind.wrap IntKind.i64 (t15 - (1 : Int)) - t16)) ∧
      (IntKind.wrap IntKind.i64 (IntKind.wrap IntKind.i64 (t15 - (1 : Int)) - t16) < (↑(List.length t2) : Int)) ∧
      ((↑(List.length r0) : Int) ≤ big ∧ ∀ (y : Int), y ∈ r0 → (0 : Int) ≤ y) ∧
      condP (pickErr r0 (Int.tmod (IntKind.wrap IntKind.i64 (IntKind.wrap IntKind.i64 (t15 - (1 : Int)) - t16)) (4 : Int)) (bits BinOp.and IntKind.i64 (List.getD t2 (Int.toNat (IntKind.wrap IntKind.i64 (IntKind.wrap IntKind.i64 (t15 - (1 : Int)) - t16))) (0 : Int)) (1023 : Int)) != (0 : Int))
        (X_keep_MatchAll_4_0 (t1) (t2) (false) (t15) (t16) (r0) (r1) (r2) K)
        ((smallOK t1) ∧
        ((↑(List.length (pickOf r0 (Int.tmod (IntKind.wrap IntKind.i64 (IntKind.wrap IntKind.i64 (t15 - (1 : Int)) - t16)) (4 : Int)) (bits BinOp.and IntKind.i64 (List.getD t2 (Int.toNat (IntKind.wrap IntKind.i64 (IntKind.wrap IntKind.i64 (t15 - (1 : Int)) - t16))) (0 : Int)) (1023 : Int)))) : Int) ≤ (1000000 : Int) ∧ (↑(List.length (smallL t1)) : Int) ≤ big) ∧
        ((4 : Int) ≠ (0 : Int)) ∧
        (Option.isSome r2 = true) ∧
        (List.length (Prod.fst (Option.getD r2 (@List.nil Int, ()))) ≤ (4096 : Nat) ∧ (↑(List.length (hrd (pickOf r0 (Int.tmod (IntKind.wrap IntKind.i64 (IntKind.wrap IntKind.i64 (t15 - (1 : Int)) - t16)) (4 : Int)) (bits BinOp.and IntKind.i64 (List.getD t2 (Int.toNat (IntKind.wrap IntKind.i64 (IntKind.wrap IntKind.i64 (t15 - (1 : Int)) - t16))) (0 : Int)) (1023 : Int))) (smallL t1))) : Int) ≤ big) ∧
        condP (addErr (Prod.fst (Option.getD r2 (@List.nil Int, ()))) (hrd (pickOf r0 (Int.tmod (IntKind.wrap IntKind.i64 (IntKind.wrap IntKind.i64 (t15 - (1 : Int)) - t16)) (4 : Int)) (bits BinOp.and IntKind.i64 (List.getD t2 (Int.toNat (IntKind.wrap IntKind.i64 (IntKind.wrap IntKind.i64 (t15 - (1 : Int)) - t16))) (0 : Int)) (1023 : Int))) (smallL t1)) (Int.tmod (IntKind.wrap IntKind.i64 (IntKind.wrap IntKind.i64 (t15 - (1 : Int)) - t16)) (4 : Int)) != (0 : Int))
          (X_keep_MatchAll_4_1 (t1) (t2) (false) (t15) (t16) (r0) (r1) ((addOf (Prod.fst (Option.getD r2 (@List.nil Int, ()))) (hrd (pickOf r0 (Int.tmod (IntKind.wrap IntKind.i64 (IntKind.wrap IntKind.i64 (t15 - (1 : Int)) - t16)) (4 : Int)) (bits BinOp.and IntKind.i64 (List.getD t2 (Int.toNat (IntKind.wrap IntKind.i64 (IntKind.wrap IntKind.i64 (t15 - (1 : Int)) - t16))) (0 : Int)) (1023 : Int))) (smallL t1)) (Int.tmod (IntKind.wrap IntKind.i64 (IntKind.wrap IntKind.i64 (t15 - (1 : Int)) - t16)) (4 : Int)), ())) K)
          ((p_keep_MatchAll_4 t1 t2 t15 t16 (IntKind.wrap IntKind.i64 (t17 + (1 : Int))) r0 r1 (some (addOf (Prod.fst (Option.getD r2 (@List.nil Int, ()))) (hrd (pickOf r0 (Int.tmod (IntKind.wrap IntKind.i64 (IntKind.wrap IntKind.i64 (t15 - (1 : Int)) - t16)) (4 : Int)) (bits BinOp.and IntKind.i64 (List.getD t2 (Int.toNat (IntKind.wrap IntKind.i64 (IntKind.wrap IntKind.i64 (t15 - (1 : Int)) - t16))) (0 : Int)) (1023 : Int))) (smallL t1)) (Int.tmod (IntKind.wrap IntKind.i64 (IntKind.wrap IntKind.i64 (t15 - (1 : Int)) - t16)) (4 : Int)), ()))) ∧
          (m_keep_MatchAll_4 t1 t2 t15 t16 (IntKind.wrap IntKind.i64 (t17 + (1 : Int))) r0 r1 (some (addOf (Prod.fst (Option.getD r2 (@List.nil Int, ()))) (hrd (pickOf r0 (Int.tmod (IntKind.wrap IntKind.i64 (IntKind.wrap IntKind.i64 (t15 - (1 : Int)) - t16)) (4 : Int)) (bits BinOp.and IntKind.i64 (List.getD t2 (Int.toNat (IntKind.wrap IntKind.i64 (IntKind.wrap IntKind.i64 (t15 - (1 : Int)) - t16))) (0 : Int)) (1023 : Int))) (smallL t1)) (Int.tmod (IntKind.wrap IntKind.i64 (IntKind.wrap IntKind.i64 (t15 - (1 : Int)) - t16)) (4 : Int)), ())) < m) ∧
          o_keep_MatchAll_4 t1 t2 t15 t16 (IntKind.wrap IntKind.i64 (t17 + (1 : Int))) r0 r1 (some (addOf (Prod.fst (Option.getD r2 (@List.nil Int, ()))) (hrd (pickOf r0 (Int.tmod (IntKind.wrap IntKind.i64 (IntKind.wrap IntKind.i64 (t15 - (1 : Int)) - t16)) (4 : Int)) (bits BinOp.and IntKind.i64 (List.getD t2 (Int.toNat (IntKind.wrap IntKind.i64 (IntKind.wrap IntKind.i64 (t15 - (1 : Int)) - t16))) (0 : Int)) (1023 : Int))) (smallL t1)) (Int.tmod (IntKind.wrap IntKind.i64 (IntKind.wrap IntKind.i64 (t15 - (1 : Int)) - t16)) (4 : Int)), ())) K)))
      (((4 : Int) ≠ (0 : Int)) ∧
      ((0 : Int) ≤ t16) ∧
      (t16 < (↑(List.length t2) : Int)) ∧
      ((↑(List.length r0) : Int) ≤ big ∧ ∀ (y : Int), y ∈ r0 → (0 : Int) ≤ y) ∧
      condP (pickErr r0 (Int.tmod t16 (4 : Int)) (bits BinOp.and IntKind.i64 (List.getD t2 (Int.toNat t16) (0 : Int)) (1023 : Int)) != (0 : Int))
        (X_keep_MatchAll_4_0 (t1) (t2) (false) (t15) (t16) (r0) (r1) (r2) K)
        ((smallOK t1) ∧
        ((↑(List.length (pickOf r0 (Int.tmod t16 (4 : Int)) (bits BinOp.and IntKind.i64 (List.getD t2 (Int.toNat t16) (0 : Int)) (1023 : Int)))) : Int) ≤ (1000000 : Int) ∧ (↑(List.length (smallL t1)) : Int) ≤ big) ∧
        ((4 : Int) ≠ (0 : Int)) ∧
        (Option.isSome r1 = true) ∧
        (List.length (Prod.fst (Option.getD r1 (@List.nil Int, ()))) ≤ (4096 : Nat) ∧ (↑(List.length (hrd (pickOf r0 (Int.tmod t16 (4 : Int)) (bits BinOp.and IntKind.i64 (List.getD t2 (Int.toNat t16) (0 : Int)) (1023 : Int))) (smallL t1))) : Int) ≤ big) ∧
        condP (addErr (Prod.fst (Option.getD r1 (@List.nil Int, ()))) (hrd (pickOf r0 (Int.tmod t16 (4 : Int)) (bits BinOp.and IntKind.i64 (List.getD t2 (Int.toNat t16) (0 : Int)) (1023 : Int))) (smallL t1)) (Int.tmod t16 (4 : Int)) != (0 : Int))
          (X_keep_MatchAll_4_2 (t1) (t2) (false) (t15) (t16) (r0) ((addOf (Prod.fst (Option.getD r1 (@List.nil Int, ()))) (hrd (pickOf r0 (Int.tmod t16 (4 : Int)) (bits BinOp.and IntKind.i64 (List.getD t2 (Int.toNat t16) (0 : Int)) (1023 : Int))) (smallL t1)) (Int.tmod t16 (4 : Int)), ())) (r2) K)
          ((p_keep_MatchAll_4 t1 t2 t15 t16 (IntKind.wrap IntKind.i64 (t17 + (1 : Int))) r0 (some (addOf (Prod.fst (Option.getD r1 (@List.nil Int, ()))) (hrd (pickOf r0 (Int.tmod t16 (4 : Int)) (bits BinOp.and IntKind.i64 (List.getD t2 (Int.toNat t16) (0 : Int)) (1023 : Int))) (smallL t1)) (Int.tmod t16 (4 : Int)), ())) r2) ∧
          (m_keep_MatchAll_4 t1 t2 t15 t16 (IntKind.wrap IntKind.i64 (t17 + (1 : Int))) r0 (some (addOf (Prod.fst (Option.getD r1 (@List.nil Int, ()))) (hrd (pickOf r0 (Int.tmod t16 (4 : Int)) (bits BinOp.and IntKind.i64 (List.getD t2 (Int.toNat t16) (0 : Int)) (1023 : Int))) (smallL t1)) (Int.tmod t16 (4 : Int)), ())) r2 < m) ∧
          o_keep_MatchAll_4 t1 t2 t15 t16 (IntKind.wrap IntKind.i64 (t17 + (1 : Int))) r0 (some (addOf (Prod.fst (Option.getD r1 (@List.nil Int, ()))) (hrd (pickOf r0 (Int.tmod t16 (4 : Int)) (bits BinOp.and IntKind.i64 (List.getD t2 (Int.toNat t16) (0 : Int)) (1023 : Int))) (smallL t1)) (Int.tmod t16 (4 : Int)), ())) r2 K))))
    (X_keep_MatchAll_4_3 (t1) (t2) (t15) (t16) (r0) (r1) (r2) K))
theorem R_keep_MatchAll_4 (t1 : (List Int)) (t2 : (List Int)) (t15 : Int) (t16 : Int) (t17 : Int) (r0 : (List Int)) (r1 : (Option ((List Int) × Unit))) (r2 : (Option ((List Int) × Unit))) (m : Nat) (K : AExit → St → Prop) : awp E_keep_MatchAll (loopAt (bodyOf Try.f5) 4) 4 (roundP E_keep_MatchAll 4 L_keep_MatchAll_4 m K) (L_keep_MatchAll_4.abs (t1, t2, t15, t16, t17, ()) (r0, r1, r2, ())) = B_keep_MatchAll_4 t1 t2 t15 t16 t17 r0 r1 r2 m K := by kernel_rfl
theorem I_keep_MatchAll_4 (h : ∀ (t1 : (List Int)) (t2 : (List Int)) (t15 : Int) (t16 : Int) (t17 : Int) (r0 : (List Int)) (r1 : (Option ((List Int) × Unit))) (r2 : (Option ((List Int) × Unit))) (K : AExit → St → Prop), p_keep_MatchAll_4 t1 t2 t15 t16 t17 r0 r1 r2 → o_keep_MatchAll_4 t1 t2 t15 t16 t17 r0 r1 r2 K → B_keep_MatchAll_4 t1 t2 t15 t16 t17 r0 r1 r2 (m_keep_MatchAll_4 t1 t2 t15 t16 t17 r0 r1 r2) K) : LoopOK E_keep_MatchAll 4 (loopAt (bodyOf Try.f5) 4) L_keep_MatchAll_4 :=
  fun x y K hp ho => match x, y, hp, ho with | (t1, t2, t15, t16, t17, ()), (r0, r1, r2, ()), hp, ho => (R_keep_MatchAll_4 t1 t2 t15 t16 t17 r0 r1 r2 (m_keep_MatchAll_4 t1 t2 t15 t16 t17 r0 r1 r2) K).mpr (h t1 t2 t15 t16 t17 r0 r1 r2 K hp ho)
def B_keep_MatchAll_6 (t25 : Int) (r0 : (List Int)) (r1 : (List Int)) (m : Nat) (K : AExit → St → Prop) : Prop := (
  condP (decide (t25 < (↑(List.length r1) : Int)))
    (((0 : Int) ≤ t25) ∧
    (t25 < (↑(List.length r1) : Int)) ∧
    (decide (List.getD r1 (Int.toNat t25) (0 : Int) > (0 : Int)) = true → (0 : Int) ≤ t25) ∧
    (decide (List.getD r1 (Int.toNat t25) (0 : Int) > (0 : Int)) = true → t25 < (↑(List.length r0) : Int)) ∧
    ((if decide (List.getD r1 (Int.toNat t25) (0 : Int) > (0 : Int)) = true then List.getD r0 (Int.toNat t25) (0 : Int) == (1 : Int) else false) = false → (0 : Int) ≤ t25) ∧
    ((if decide (List.getD r1 (Int.toNat t25) (0 : Int) > (0 : Int)) = true then List.getD r0 (Int.toNat t25) (0 : Int) == (1 : Int) else false) = false → t25 < (↑(List.length r1) : Int)) ∧
    (((if decide (List.getD r1 (Int.toNat t25) (0 : Int) > (0 : Int)) = true then List.getD r0 (Int.toNat t25) (0 : Int) == (1 : Int) else false) == false && decide (List.getD r1 (Int.toNat t25) (0 : Int) < (0 : Int)) == true) = true → (0 : Int) ≤ t25) ∧
    (((if decide (List.getD r1 (Int.toNat t25) (0 : Int) > (0 : Int)) = true then List.getD r0 (Int.toNat t25) (0 : Int) == (1 : Int) else false) == false && decide (List.getD r1 (Int.toNat t25) (0 : Int) < (0 : Int)) == true) = true → t25 < (↑(List.length r0) : Int)) ∧
    condP (if (if decide (List.getD r1 (Int.toNat t25) (0 : Int) > (0 : Int)) = true then List.getD r0 (Int.toNat t25) (0 : Int) == (1 : Int) else false) = true then true else if decide (List.getD r1 (Int.toNat t25) (0 : Int) < (0 : Int)) = true then List.getD r0 (Int.toNat t25) (0 : Int) == (0 : Int) else false)
      (X_keep_MatchAll_6_0 (false) K)
      ((p_keep_MatchAll_6 (IntKind.wrap IntKind.i64 (t25 + (1 : Int))) r0 r1) ∧
      (m_keep_MatchAll_6 (IntKind.wrap IntKind.i64 (t25 + (1 : Int))) r0 r1 < m) ∧
      o_keep_MatchAll_6 (IntKind.wrap IntKind.i64 (t25 + (1 : Int))) r0 r1 K))
    (X_keep_MatchAll_6_1  K))
theorem R_keep_MatchAll_6 (t25 : Int) (r0 : (List Int)) (r1 : (List Int)) (m : Nat) (K : AExit → St → Prop) : awp E_keep_MatchAll (loopAt (bodyOf Try.f5) 6) 6 (roundP E_keep_MatchAll 6 L_keep_MatchAll_6 m K) (L_keep_MatchAll_6.abs (t25, ()) (r0, r1, ())) = B_keep_MatchAll_6 t25 r0 r1 m K := by kernel_rfl
theorem I_keep_MatchAll_6 (h : ∀ (t25 : Int) (r0 : (List Int)) (r1 : (List Int)) (K : AExit → St → Prop), p_keep_MatchAll_6 t25 r0 r1 → o_keep_MatchAll_6 t25 r0 r1 K → B_keep_MatchAll_6 t25 r0 r1 (m_keep_MatchAll_6 t25 r0 r1) K) : LoopOK E_keep_MatchAll 6 (loopAt (bodyOf Try.f5) 6) L_keep_MatchAll_6 :=
  fun x y K hp ho => match x, y, hp, ho with | (t25, ()), (r0, r1, ()), hp, ho => (R_keep_MatchAll_6 t25 r0 r1 (m_keep_MatchAll_6 t25 r0 r1) K).mpr (h t25 r0 r1 K hp ho)
theorem G_keep_MatchAll : loopsAll E_keep_MatchAll (loopList (bodyOf Try.f5) 0) = (LoopOK E_keep_MatchAll 0 (loopAt (bodyOf Try.f5) 0) L_keep_MatchAll_0 ∧ LoopOK E_keep_MatchAll 2 (loopAt (bodyOf Try.f5) 2) L_keep_MatchAll_2 ∧ LoopOK E_keep_MatchAll 4 (loopAt (bodyOf Try.f5) 4) L_keep_MatchAll_4 ∧ LoopOK E_keep_MatchAll 6 (loopAt (bodyOf Try.f5) 6) L_keep_MatchAll_6 ∧ True) := by kernel_rfl
theorem envok_keep_MatchAll (h_keep_good : SumOK Try.prog 27 S_keep_good) (h_match_Order : SumOK Try.prog 15 S_match_Order) (h_match_New : SumOK Try.prog 23 S_match_New) (h_match_Pick : SumOK Try.prog 20 S_match_Pick) (h_keep_small : SumOK Try.prog 29 S_keep_small) (h_keep_heard : SumOK Try.prog 28 S_keep_heard) (h_match_Buffer_Add : SumOK Try.prog 25 S_match_Buffer_Add) (h_match_Buffer_Soft : SumOK Try.prog 26 S_match_Buffer_Soft) (h_R_SameInts : SumOK Try.prog 16 S_R_SameInts) : EnvOK E_keep_MatchAll := ⟨sumsOf_ok (List.forall_mem_cons.2 ⟨h_keep_good, (List.forall_mem_cons.2 ⟨h_match_Order, (List.forall_mem_cons.2 ⟨h_match_New, (List.forall_mem_cons.2 ⟨h_match_Pick, (List.forall_mem_cons.2 ⟨h_keep_small, (List.forall_mem_cons.2 ⟨h_keep_heard, (List.forall_mem_cons.2 ⟨h_match_Buffer_Add, (List.forall_mem_cons.2 ⟨h_match_Buffer_Soft, (List.forall_mem_cons.2 ⟨h_R_SameInts, (fun _ h => nomatch h)⟩)⟩)⟩)⟩)⟩)⟩)⟩)⟩)⟩), follows⟩
theorem whole_keep_MatchAll (h_keep_good : SumOK Try.prog 27 S_keep_good) (h_match_Order : SumOK Try.prog 15 S_match_Order) (h_match_New : SumOK Try.prog 23 S_match_New) (h_match_Pick : SumOK Try.prog 20 S_match_Pick) (h_keep_small : SumOK Try.prog 29 S_keep_small) (h_keep_heard : SumOK Try.prog 28 S_keep_heard) (h_match_Buffer_Add : SumOK Try.prog 25 S_match_Buffer_Add) (h_match_Buffer_Soft : SumOK Try.prog 26 S_match_Buffer_Soft) (h_R_SameInts : SumOK Try.prog 16 S_R_SameInts) (l0 : LoopOK E_keep_MatchAll 0 (loopAt (bodyOf Try.f5) 0) L_keep_MatchAll_0) (l2 : LoopOK E_keep_MatchAll 2 (loopAt (bodyOf Try.f5) 2) L_keep_MatchAll_2) (l4 : LoopOK E_keep_MatchAll 4 (loopAt (bodyOf Try.f5) 4) L_keep_MatchAll_4) (l6 : LoopOK E_keep_MatchAll 6 (loopAt (bodyOf Try.f5) 6) L_keep_MatchAll_6) (main : ∀ (a0 : (List Int)) (a1 : (List Int)) (a2 : (List Int)), (allOK a0 a1 a2) → W_keep_MatchAll a0 a1 a2) : SumOK Try.prog 5 S_keep_MatchAll :=
  fun_sound (E := E_keep_MatchAll) (envok_keep_MatchAll h_keep_good h_match_Order h_match_New h_match_Pick h_keep_small h_keep_heard h_match_Buffer_Add h_match_Buffer_Soft h_R_SameInts) (fn := Try.f5) (c := bodyOf Try.f5) (ts := [(6, none)]) S_keep_MatchAll Try.func5 (body_some (by kernel_rfl)) (by kernel_rfl) (Nat.le_of_ble_eq_true (by kernel_rfl)) (by kernel_rfl) (by kernel_rfl) (G_keep_MatchAll.mpr ⟨l0, l2, l4, l6, trivial⟩) (fun x hp => match x, hp with | (a0, a1, a2, ()), hp => (V_keep_MatchAll a0 a1 a2).mpr (main a0 a1 a2 hp))
end Go.Spec
