/- The runs of the functions, told. -/
import Derived.Test.YtfjoackkcflbkaaLF
import Derived.Test.YtfjoackkcflbkaaProg
import Derived.Test.YtfjoackkcflbkaaE3
import Derived.Test.YtfjoackkcflbkaaV1
import Derived.Test.YtfjoackkcflbkaaV2
set_option linter.unusedVariables false
set_option linter.unusedSimpArgs false
namespace Go.Spec
open Go Go.Lift Go.Proofs
attribute [local irreducible] Go.Lift.awp
/-! ### keep_good -/
def L_keep_good_0 : Lift.Loop := Lift.Loop.mk (.v (.ro (.int .u8)) :: (.v (.int .i64) :: (u 3 ++ (.sl 0 :: (.v (.int .i64) :: (u 20)))))) [(0, .row (.int .u8))] 1 (fun x y => p_keep_good_0 x.1 x.2.1 x.2.2.1 y.1) (fun x y => m_keep_good_0 x.1 x.2.1 x.2.2.1 y.1) (fun x y K => o_keep_good_0 x.1 x.2.1 x.2.2.1 y.1 K)
noncomputable def E_keep_good : Env := { P := Try.prog, sum := sumsOf [], nio := 0, head := fun b => if b = 0 then ([0, 1, 5, 6, 12, 13, 14], [(5, (.int .u8))]) else ([], []), after := fun _ => none, leave := fun b => if b = 0 then [4, 5] else [], loops := fun b => if b = 0 then some L_keep_good_0 else none }
def W_keep_good (a0 : (List Int)) (a1 : Int) : Prop := (
  (p_keep_good_0 a0 a1 (0 : Int) []) ∧
  ([] ++ goodL (List.drop (0 : Nat) a0) (Int.toNat (a1 - (0 : Int))) = goodL a0 (Int.toNat a1)) ∧
  True)
theorem V_keep_good (a0 : (List Int)) (a1 : Int) : awp E_keep_good (bodyOf Try.f25) 0 (fin Try.prog S_keep_good (a0, a1, ()) [(4, none)] 0) (initSt S_keep_good.par (a0, a1, ()) 27) = W_keep_good a0 a1 := by kernel_rfl
def B_keep_good_0 (t0 : (List Int)) (t1 : Int) (t6 : Int) (r0 : (List Int)) (m : Nat) (K : AExit → St → Prop) : Prop := (
  condP (if decide (t6 < (↑(List.length t0) : Int)) = true then decide (t6 < t1) else false)
    (((0 : Int) ≤ t6) ∧
    (t6 < (↑(List.length t0) : Int)) ∧
    ((2 : Int) ≠ (0 : Int)) ∧
    ((List.length r0 + List.length [Int.tmod (List.getD t0 (Int.toNat t6) (0 : Int)) (2 : Int)]) * (1 : Nat) ≤ (140737488355328 : Nat)) ∧
    (p_keep_good_0 t0 t1 (IntKind.wrap IntKind.i64 (t6 + (1 : Int))) (List.append r0 [Int.tmod (List.getD t0 (Int.toNat t6) (0 : Int)) (2 : Int)])) ∧
    (m_keep_good_0 t0 t1 (IntKind.wrap IntKind.i64 (t6 + (1 : Int))) (List.append r0 [Int.tmod (List.getD t0 (Int.toNat t6) (0 : Int)) (2 : Int)]) < m) ∧
    o_keep_good_0 t0 t1 (IntKind.wrap IntKind.i64 (t6 + (1 : Int))) (List.append r0 [Int.tmod (List.getD t0 (Int.toNat t6) (0 : Int)) (2 : Int)]) K)
    (X_keep_good_0_0 (r0) K))
theorem R_keep_good_0 (t0 : (List Int)) (t1 : Int) (t6 : Int) (r0 : (List Int)) (m : Nat) (K : AExit → St → Prop) : awp E_keep_good (loopAt (bodyOf Try.f25) 0) 0 (roundP E_keep_good 0 L_keep_good_0 m K) (L_keep_good_0.abs (t0, t1, t6, ()) (r0, ())) = B_keep_good_0 t0 t1 t6 r0 m K := by kernel_rfl
theorem I_keep_good_0 (h : ∀ (t0 : (List Int)) (t1 : Int) (t6 : Int) (r0 : (List Int)) (K : AExit → St → Prop), p_keep_good_0 t0 t1 t6 r0 → o_keep_good_0 t0 t1 t6 r0 K → B_keep_good_0 t0 t1 t6 r0 (m_keep_good_0 t0 t1 t6 r0) K) : LoopOK E_keep_good 0 (loopAt (bodyOf Try.f25) 0) L_keep_good_0 :=
  fun x y K hp ho => match x, y, hp, ho with | (t0, t1, t6, ()), (r0, ()), hp, ho => (R_keep_good_0 t0 t1 t6 r0 (m_keep_good_0 t0 t1 t6 r0) K).mpr (h t0 t1 t6 r0 K hp ho)
theorem G_keep_good : loopsAll E_keep_good (loopList (bodyOf Try.f25) 0) = (LoopOK E_keep_good 0 (loopAt (bodyOf Try.f25) 0) L_keep_good_0 ∧ True) := by kernel_rfl
theorem envok_keep_good  : EnvOK E_keep_good := ⟨sumsOf_ok (fun _ h => nomatch h), follows⟩
theorem whole_keep_good  (l0 : LoopOK E_keep_good 0 (loopAt (bodyOf Try.f25) 0) L_keep_good_0) (main : ∀ (a0 : (List Int)) (a1 : Int), ((↑(List.length a0) : Int) ≤ big ∧ (∀ (y : Int), y ∈ a0 → (0 : Int) ≤ y) ∧ (0 : Int) ≤ a1 ∧ a1 ≤ (100000 : Int)) → W_keep_good a0 a1) : SumOK Try.prog 25 S_keep_good :=
  fun_sound (E := E_keep_good) (envok_keep_good ) (fn := Try.f25) (c := bodyOf Try.f25) (ts := [(4, none)]) S_keep_good Try.func25 (body_some (by kernel_rfl)) (by kernel_rfl) (by kernel_rfl) (by kernel_rfl) (G_keep_good.mpr ⟨l0, trivial⟩) (fun x hp => match x, hp with | (a0, a1, ()), hp => (V_keep_good a0 a1).mpr (main a0 a1 hp))
/-! ### polar_power -/
noncomputable def E_polar_power : Env := { P := Try.prog, sum := sumsOf [], nio := 0, head := fun b => ([], []), after := fun _ => none, leave := fun b => [], loops := fun b => none }
def W_polar_power (a0 : Int) : Prop := (
  ((if (if decide (a0 ≥ (1 : Int)) = true then decide (a0 ≤ (512 : Int)) else false) = true then bits BinOp.and IntKind.i64 a0 (IntKind.wrap IntKind.i64 (a0 - (1 : Int))) == (0 : Int) else false) = powB a0) ∧
  True)
theorem V_polar_power (a0 : Int) : awp E_polar_power (bodyOf Try.f96) 0 (fin Try.prog S_polar_power (a0, ()) [(2, none)] 0) (initSt S_polar_power.par (a0, ()) 16) = W_polar_power a0 := by kernel_rfl
theorem G_polar_power : loopsAll E_polar_power (loopList (bodyOf Try.f96) 0) = (True) := by kernel_rfl
theorem envok_polar_power  : EnvOK E_polar_power := ⟨sumsOf_ok (fun _ h => nomatch h), follows⟩
theorem whole_polar_power   (main : ∀ (a0 : Int), (True) → W_polar_power a0) : SumOK Try.prog 96 S_polar_power :=
  fun_sound (E := E_polar_power) (envok_polar_power ) (fn := Try.f96) (c := bodyOf Try.f96) (ts := [(2, none)]) S_polar_power Try.func96 (body_some (by kernel_rfl)) (by kernel_rfl) (by kernel_rfl) (by kernel_rfl) (G_polar_power.mpr trivial) (fun x hp => match x, hp with | (a0, ()), hp => (V_polar_power a0).mpr (main a0 hp))
/-! ### slices_Clone_byte_byte -/
noncomputable def E_slices_Clone_byte_byte : Env := { P := Try.prog, sum := sumsOf [], nio := 0, head := fun b => ([], []), after := fun _ => none, leave := fun b => [], loops := fun b => none }
def W_slices_Clone_byte_byte (a0 : (List Int)) : Prop := (
  condQ (List.isEmpty a0) false
    (([] = a0) ∧
    True)
    (((List.length (List.replicate (0 : Nat) (0 : Int)) + List.length a0) * (1 : Nat) ≤ (140737488355328 : Nat)) ∧
    (List.append (List.replicate (0 : Nat) (0 : Int)) a0 = a0) ∧
    True))
theorem V_slices_Clone_byte_byte (a0 : (List Int)) : awp E_slices_Clone_byte_byte (bodyOf Try.f97) 0 (fin Try.prog S_slices_Clone_byte_byte (a0, ()) [(2, none)] 0) (initSt S_slices_Clone_byte_byte.par (a0, ()) 8) = W_slices_Clone_byte_byte a0 := by kernel_rfl
theorem G_slices_Clone_byte_byte : loopsAll E_slices_Clone_byte_byte (loopList (bodyOf Try.f97) 0) = (True) := by kernel_rfl
theorem envok_slices_Clone_byte_byte  : EnvOK E_slices_Clone_byte_byte := ⟨sumsOf_ok (fun _ h => nomatch h), follows⟩
theorem whole_slices_Clone_byte_byte   (main : ∀ (a0 : (List Int)), ((↑(List.length a0) : Int) ≤ (140737488355328 : Int)) → W_slices_Clone_byte_byte a0) : SumOK Try.prog 97 S_slices_Clone_byte_byte :=
  fun_sound (E := E_slices_Clone_byte_byte) (envok_slices_Clone_byte_byte ) (fn := Try.f97) (c := bodyOf Try.f97) (ts := [(2, none)]) S_slices_Clone_byte_byte Try.func97 (body_some (by kernel_rfl)) (by kernel_rfl) (by kernel_rfl) (by kernel_rfl) (G_slices_Clone_byte_byte.mpr trivial) (fun x hp => match x, hp with | (a0, ()), hp => (V_slices_Clone_byte_byte a0).mpr (main a0 hp))
/-! ### polar_turn -/
def L_polar_turn_0 : Lift.Loop := Lift.Loop.mk (.sl 0 :: (u 1 ++ (.v (.int .i64) :: (u 36)))) [(0, .row (.int .u8))] 2 (fun x y => p_polar_turn_0 x.1 y.1) (fun x y => m_polar_turn_0 x.1 y.1) (fun x y K => o_polar_turn_0 x.1 y.1 K)
def L_polar_turn_2 : Lift.Loop := Lift.Loop.mk (.sl 0 :: (u 1 ++ (.v (.int .i64) :: (.v (.int .i64) :: (u 35))))) [(0, .row (.int .u8))] 2 (fun x y => p_polar_turn_2 x.1 x.2.1 y.1) (fun x y => m_polar_turn_2 x.1 x.2.1 y.1) (fun x y K => o_polar_turn_2 x.1 x.2.1 y.1 K)
def L_polar_turn_4 : Lift.Loop := Lift.Loop.mk (.sl 0 :: (u 1 ++ (.v (.int .i64) :: (.v (.int .i64) :: (.v (.int .i64) :: (u 34)))))) [(0, .row (.int .u8))] 2 (fun x y => p_polar_turn_4 x.1 x.2.1 x.2.2.1 y.1) (fun x y => m_polar_turn_4 x.1 x.2.1 x.2.2.1 y.1) (fun x y K => o_polar_turn_4 x.1 x.2.1 x.2.2.1 y.1 K)
noncomputable def E_polar_turn : Env := { P := Try.prog, sum := sumsOf [], nio := 1, head := fun b => if b = 4 then ([0, 2, 3, 4], []) else if b = 2 then ([0, 2, 3], []) else if b = 0 then ([0, 2], []) else ([], []), after := fun _ => none, leave := fun b => if b = 4 then [0, 2, 3] else if b = 2 then [0, 2] else if b = 0 then [] else [], loops := fun b => if b = 4 then some L_polar_turn_4 else if b = 2 then some L_polar_turn_2 else if b = 0 then some L_polar_turn_0 else none }
def W_polar_turn (a0 : (List Int)) : Prop := (
  (p_polar_turn_0 (1 : Int) a0) ∧
  ∀ j : Nat, ∀ m : Nat, ((1 : Int) = (↑((2 : Nat) ^ j) : Int)) →
  (j ≤ m) →
  (List.length a0 = (2 : Nat) ^ m) →
  (stagesJ (m - j) j a0 = turnL (Nat.log2 (List.length a0)) a0) ∧
  (List.length (turnL (Nat.log2 (List.length a0)) a0) = List.length a0) ∧
  True)
theorem V_polar_turn (a0 : (List Int)) : awp E_polar_turn (bodyOf Try.f98) 0 (fin Try.prog S_polar_turn (a0, ()) [] 1) (initSt S_polar_turn.par (a0, ()) 39) = W_polar_turn a0 := by kernel_rfl
def B_polar_turn_0 (t2 : Int) (r0 : (List Int)) (m : Nat) (K : AExit → St → Prop) : Prop := (
  condP (decide (t2 < (↑(List.length r0) : Int)))
    ((p_polar_turn_2 t2 (0 : Int) r0) ∧
    (p_polar_turn_0 (IntKind.wrap IntKind.i64 (t2 * (2 : Int))) (stF (Int.toNat t2) (0 : Nat) r0)) ∧
    (m_polar_turn_0 (IntKind.wrap IntKind.i64 (t2 * (2 : Int))) (stF (Int.toNat t2) (0 : Nat) r0) < m) ∧
    o_polar_turn_0 (IntKind.wrap IntKind.i64 (t2 * (2 : Int))) (stF (Int.toNat t2) (0 : Nat) r0) K)
    (X_polar_turn_0_0 (r0) K))
theorem R_polar_turn_0 (t2 : Int) (r0 : (List Int)) (m : Nat) (K : AExit → St → Prop) : awp E_polar_turn (loopAt (bodyOf Try.f98) 0) 0 (roundP E_polar_turn 0 L_polar_turn_0 m K) (L_polar_turn_0.abs (t2, ()) (r0, ())) = B_polar_turn_0 t2 r0 m K := by kernel_rfl
theorem I_polar_turn_0 (h : ∀ (t2 : Int) (r0 : (List Int)) (K : AExit → St → Prop), p_polar_turn_0 t2 r0 → o_polar_turn_0 t2 r0 K → B_polar_turn_0 t2 r0 (m_polar_turn_0 t2 r0) K) : LoopOK E_polar_turn 0 (loopAt (bodyOf Try.f98) 0) L_polar_turn_0 :=
  fun x y K hp ho => match x, y, hp, ho with | (t2, ()), (r0, ()), hp, ho => (R_polar_turn_0 t2 r0 (m_polar_turn_0 t2 r0) K).mpr (h t2 r0 K hp ho)
def B_polar_turn_2 (t2 : Int) (t3 : Int) (r0 : (List Int)) (m : Nat) (K : AExit → St → Prop) : Prop := (
  condP (decide (t3 < (↑(List.length r0) : Int)))
    ((p_polar_turn_4 t2 t3 t3 r0) ∧
    (p_polar_turn_2 t2 (IntKind.wrap IntKind.i64 (t3 + IntKind.wrap IntKind.i64 ((2 : Int) * t2))) (st4 (Int.toNat t2) (Int.toNat t3) (Int.toNat t3) r0)) ∧
    (m_polar_turn_2 t2 (IntKind.wrap IntKind.i64 (t3 + IntKind.wrap IntKind.i64 ((2 : Int) * t2))) (st4 (Int.toNat t2) (Int.toNat t3) (Int.toNat t3) r0) < m) ∧
    o_polar_turn_2 t2 (IntKind.wrap IntKind.i64 (t3 + IntKind.wrap IntKind.i64 ((2 : Int) * t2))) (st4 (Int.toNat t2) (Int.toNat t3) (Int.toNat t3) r0) K)
    (X_polar_turn_2_0 (t2) (r0) K))
theorem R_polar_turn_2 (t2 : Int) (t3 : Int) (r0 : (List Int)) (m : Nat) (K : AExit → St → Prop) : awp E_polar_turn (loopAt (bodyOf Try.f98) 2) 2 (roundP E_polar_turn 2 L_polar_turn_2 m K) (L_polar_turn_2.abs (t2, t3, ()) (r0, ())) = B_polar_turn_2 t2 t3 r0 m K := by kernel_rfl
theorem I_polar_turn_2 (h : ∀ (t2 : Int) (t3 : Int) (r0 : (List Int)) (K : AExit → St → Prop), p_polar_turn_2 t2 t3 r0 → o_polar_turn_2 t2 t3 r0 K → B_polar_turn_2 t2 t3 r0 (m_polar_turn_2 t2 t3 r0) K) : LoopOK E_polar_turn 2 (loopAt (bodyOf Try.f98) 2) L_polar_turn_2 :=
  fun x y K hp ho => match x, y, hp, ho with | (t2, t3, ()), (r0, ()), hp, ho => (R_polar_turn_2 t2 t3 r0 (m_polar_turn_2 t2 t3 r0) K).mpr (h t2 t3 r0 K hp ho)
def B_polar_turn_4 (t2 : Int) (t3 : Int) (t4 : Int) (r0 : (List Int)) (m : Nat) (K : AExit → St → Prop) : Prop := (
  condP (decide (t4 < IntKind.wrap IntKind.i64 (t3 + t2)))
    (((0 : Int) ≤ t4) ∧
    (t4 < (↑(List.length r0) : Int)) ∧
    ((0 : Int) ≤ IntKind.wrap IntKind.i64 (t4 + t2)) ∧
    (IntKind.wrap IntKind.i64 (t4 + t2) < (↑(List.length r0) : Int)) ∧
    ((0 : Int) ≤ t4) ∧
    (t4 < (↑(List.length r0) : Int)) ∧
    (p_polar_turn_4 t2 t3 (IntKind.wrap IntKind.i64 (t4 + (1 : Int))) (List.set r0 (Int.toNat t4) (bits BinOp.xor IntKind.u8 (List.getD r0 (Int.toNat t4) (0 : Int)) (List.getD r0 (Int.toNat (IntKind.wrap IntKind.i64 (t4 + t2))) (0 : Int))))) ∧
    (m_polar_turn_4 t2 t3 (IntKind.wrap IntKind.i64 (t4 + (1 : Int))) (List.set r0 (Int.toNat t4) (bits BinOp.xor IntKind.u8 (List.getD r0 (Int.toNat t4) (0 : Int)) (List.getD r0 (Int.toNat (IntKind.wrap IntKind.i64 (t4 + t2))) (0 : Int)))) < m) ∧
    o_polar_turn_4 t2 t3 (IntKind.wrap IntKind.i64 (t4 + (1 : Int))) (List.set r0 (Int.toNat t4) (bits BinOp.xor IntKind.u8 (List.getD r0 (Int.toNat t4) (0 : Int)) (List.getD r0 (Int.toNat (IntKind.wrap IntKind.i64 (t4 + t2))) (0 : Int)))) K)
    (X_polar_turn_4_0 (t2) (t3) (r0) K))
theorem R_polar_turn_4 (t2 : Int) (t3 : Int) (t4 : Int) (r0 : (List Int)) (m : Nat) (K : AExit → St → Prop) : awp E_polar_turn (loopAt (bodyOf Try.f98) 4) 4 (roundP E_polar_turn 4 L_polar_turn_4 m K) (L_polar_turn_4.abs (t2, t3, t4, ()) (r0, ())) = B_polar_turn_4 t2 t3 t4 r0 m K := by kernel_rfl
theorem I_polar_turn_4 (h : ∀ (t2 : Int) (t3 : Int) (t4 : Int) (r0 : (List Int)) (K : AExit → St → Prop), p_polar_turn_4 t2 t3 t4 r0 → o_polar_turn_4 t2 t3 t4 r0 K → B_polar_turn_4 t2 t3 t4 r0 (m_polar_turn_4 t2 t3 t4 r0) K) : LoopOK E_polar_turn 4 (loopAt (bodyOf Try.f98) 4) L_polar_turn_4 :=
  fun x y K hp ho => match x, y, hp, ho with | (t2, t3, t4, ()), (r0, ()), hp, ho => (R_polar_turn_4 t2 t3 t4 r0 (m_polar_turn_4 t2 t3 t4 r0) K).mpr (h t2 t3 t4 r0 K hp ho)
theorem G_polar_turn : loopsAll E_polar_turn (loopList (bodyOf Try.f98) 0) = (LoopOK E_polar_turn 0 (loopAt (bodyOf Try.f98) 0) L_polar_turn_0 ∧ LoopOK E_polar_turn 2 (loopAt (bodyOf Try.f98) 2) L_polar_turn_2 ∧ LoopOK E_polar_turn 4 (loopAt (bodyOf Try.f98) 4) L_polar_turn_4 ∧ True) := by kernel_rfl
theorem envok_polar_turn  : EnvOK E_polar_turn := ⟨sumsOf_ok (fun _ h => nomatch h), follows⟩
theorem whole_polar_turn  (l0 : LoopOK E_polar_turn 0 (loopAt (bodyOf Try.f98) 0) L_polar_turn_0) (l2 : LoopOK E_polar_turn 2 (loopAt (bodyOf Try.f98) 2) L_polar_turn_2) (l4 : LoopOK E_polar_turn 4 (loopAt (bodyOf Try.f98) 4) L_polar_turn_4) (main : ∀ (a0 : (List Int)), (Bits a0 ∧ ∃ (m : Nat), m ≤ (9 : Nat) ∧ List.length a0 = (2 : Nat) ^ m) → W_polar_turn a0) : SumOK Try.prog 98 S_polar_turn :=
  fun_sound (E := E_polar_turn) (envok_polar_turn ) (fn := Try.f98) (c := bodyOf Try.f98) (ts := []) S_polar_turn Try.func98 (body_some (by kernel_rfl)) (by kernel_rfl) (by kernel_rfl) (by kernel_rfl) (G_polar_turn.mpr ⟨l0, l2, l4, trivial⟩) (fun x hp => match x, hp with | (a0, ()), hp => (V_polar_turn a0).mpr (main a0 hp))
/-! ### polar_Turn -/
noncomputable def E_polar_Turn : Env := { P := Try.prog, sum := sumsOf [(74, S_bits_Check), (96, S_polar_power), (97, S_slices_Clone_byte_byte), (98, S_polar_turn)], nio := 0, head := fun b => ([], []), after := fun _ => none, leave := fun b => [], loops := fun b => none }
def W_polar_Turn (a0 : (List Int)) : Prop := (
  ((↑(List.length a0) : Int) ≤ big ∧ ∀ (y : Int), y ∈ a0 → (0 : Int) ≤ y) ∧
  condP (bitsErr a0 != (0 : Int))
    (([] = turnOf a0) ∧
    (bitsErr a0 = turnErr a0) ∧
    True)
    ((True) ∧
    condP (!powB (↑(List.length a0) : Int))
      (([] = turnOf a0) ∧
      ((1 : Int) = turnErr a0) ∧
      True)
      (((↑(List.length a0) : Int) ≤ (140737488355328 : Int)) ∧
      (Bits a0 ∧ ∃ (m : Nat), m ≤ (9 : Nat) ∧ List.length a0 = (2 : Nat) ^ m) ∧
      (turnL (Nat.log2 (List.length a0)) a0 = turnOf a0) ∧
      ((0 : Int) = turnErr a0) ∧
      True)))
theorem V_polar_Turn (a0 : (List Int)) : awp E_polar_Turn (bodyOf Try.f52) 0 (fin Try.prog S_polar_Turn (a0, ()) [(2, none), (3, none)] 0) (initSt S_polar_Turn.par (a0, ()) 20) = W_polar_Turn a0 := by kernel_rfl
theorem G_polar_Turn : loopsAll E_polar_Turn (loopList (bodyOf Try.f52) 0) = (True) := by kernel_rfl
theorem envok_polar_Turn (h_bits_Check : SumOK Try.prog 74 S_bits_Check) (h_polar_power : SumOK Try.prog 96 S_polar_power) (h_slices_Clone_byte_byte : SumOK Try.prog 97 S_slices_Clone_byte_byte) (h_polar_turn : SumOK Try.prog 98 S_polar_turn) : EnvOK E_polar_Turn := ⟨sumsOf_ok (List.forall_mem_cons.2 ⟨h_bits_Check, (List.forall_mem_cons.2 ⟨h_polar_power, (List.forall_mem_cons.2 ⟨h_slices_Clone_byte_byte, (List.forall_mem_cons.2 ⟨h_polar_turn, (fun _ h => nomatch h)⟩)⟩)⟩)⟩), follows⟩
theorem whole_polar_Turn (h_bits_Check : SumOK Try.prog 74 S_bits_Check) (h_polar_power : SumOK Try.prog 96 S_polar_power) (h_slices_Clone_byte_byte : SumOK Try.prog 97 S_slices_Clone_byte_byte) (h_polar_turn : SumOK Try.prog 98 S_polar_turn)  (main : ∀ (a0 : (List Int)), ((↑(List.length a0) : Int) ≤ big ∧ ∀ (y : Int), y ∈ a0 → (0 : Int) ≤ y) → W_polar_Turn a0) : SumOK Try.prog 52 S_polar_Turn :=
  fun_sound (E := E_polar_Turn) (envok_polar_Turn h_bits_Check h_polar_power h_slices_Clone_byte_byte h_polar_turn) (fn := Try.f52) (c := bodyOf Try.f52) (ts := [(2, none), (3, none)]) S_polar_Turn Try.func52 (body_some (by kernel_rfl)) (by kernel_rfl) (by kernel_rfl) (by kernel_rfl) (G_polar_Turn.mpr trivial) (fun x hp => match x, hp with | (a0, ()), hp => (V_polar_Turn a0).mpr (main a0 hp))
end Go.Spec
