/- The runs of the functions, told. -/
import Derived.Test.YtfjoackkcflbkaaLF
import Derived.Test.YtfjoackkcflbkaaProg
import Derived.Test.YtfjoackkcflbkaaE8
import Derived.Test.YtfjoackkcflbkaaV1
set_option linter.unusedVariables false
set_option linter.unusedSimpArgs false
namespace Go.Spec
open Go Go.Lift Go.Proofs
attribute [local irreducible] Go.Lift.awp
/-! ### wave_side_1 -/
noncomputable def E_wave_side_1 : Env := { P := Try.prog, sum := sumsOf [], nio := 2, head := fun b => ([], []), after := fun _ => none, leave := fun b => [], loops := fun b => none }
def W_wave_side_1 (a0 : Int) (a1 : (List Int)) (a2 : Int) : Prop := (
  ((0 : Int) ≤ IntKind.wrap IntKind.i64 (a2 + IntKind.wrap IntKind.i64 ((2 : Int) * a0))) ∧
  (IntKind.wrap IntKind.i64 (a2 + IntKind.wrap IntKind.i64 ((2 : Int) * a0)) < (↑(List.length a1) : Int)) ∧
  (IntKind.wrap IntKind.i64 ((1 : Int) - IntKind.wrap IntKind.i64 ((2 : Int) * IntKind.wrap IntKind.i64 (List.getD a1 (Int.toNat (IntKind.wrap IntKind.i64 (a2 + IntKind.wrap IntKind.i64 ((2 : Int) * a0)))) (0 : Int)))) = sgnB a1 (Int.toNat (a2 + (2 : Int) * a0))) ∧
  (a1 = a1) ∧
  (a2 = a2) ∧
  True)
theorem V_wave_side_1 (a0 : Int) (a1 : (List Int)) (a2 : Int) : awp E_wave_side_1 (bodyOf Try.f127) 0 (fin Try.prog S_wave_side_1 (a0, a1, a2, ()) [(4, none)] 2) (initSt S_wave_side_1.par (a0, a1, a2, ()) 15) = W_wave_side_1 a0 a1 a2 := by kernel_rfl
theorem G_wave_side_1 : loopsAll E_wave_side_1 (loopList (bodyOf Try.f127) 0) = (True) := by kernel_rfl
theorem envok_wave_side_1  : EnvOK E_wave_side_1 := ⟨sumsOf_ok (fun _ h => nomatch h), follows⟩
theorem whole_wave_side_1   (main : ∀ (a0 : Int) (a1 : (List Int)) (a2 : Int), ((0 : Int) ≤ a0 ∧ a0 ≤ (2 : Int) ∧ (0 : Int) ≤ a2 ∧ a2 ≤ (1 : Int) ∧ a2 + (2 : Int) * a0 < (↑(List.length a1) : Int) ∧ Bits a1) → W_wave_side_1 a0 a1 a2) : SumOK Try.prog 127 S_wave_side_1 :=
  fun_sound (E := E_wave_side_1) (envok_wave_side_1 ) (fn := Try.f127) (c := bodyOf Try.f127) (ts := [(4, none)]) S_wave_side_1 Try.func127 (body_some (by kernel_rfl)) (by kernel_rfl) (by kernel_rfl) (by kernel_rfl) (G_wave_side_1.mpr trivial) (fun x hp => match x, hp with | (a0, a1, a2, ()), hp => (V_wave_side_1 a0 a1 a2).mpr (main a0 a1 a2 hp))
/-! ### wave_side -/
noncomputable def E_wave_side : Env := { P := Try.prog, sum := sumsOf [(127, S_wave_side_1)], nio := 0, head := fun b => ([], []), after := fun _ => none, leave := fun b => [], loops := fun b => none }
def W_wave_side (a0 : (List Int)) (a1 : Int) : Prop := (
  condP ((↑(List.length a0) : Int) == (2 : Int))
    (((0 : Int) ≤ (0 : Int) ∧ (0 : Int) ≤ (2 : Int) ∧ (0 : Int) ≤ a1 ∧ a1 ≤ (1 : Int) ∧ a1 + (2 : Int) * (0 : Int) < (↑(List.length a0) : Int) ∧ Bits a0) ∧
    (sgnB a0 (Int.toNat (a1 + (2 : Int) * (0 : Int))) = sideL a0 (Int.toNat a1)) ∧
    True)
    (condP ((↑(List.length a0) : Int) == (4 : Int))
      (((0 : Int) ≤ (0 : Int) ∧ (0 : Int) ≤ (2 : Int) ∧ (0 : Int) ≤ a1 ∧ a1 ≤ (1 : Int) ∧ a1 + (2 : Int) * (0 : Int) < (↑(List.length a0) : Int) ∧ Bits a0) ∧
      ((0 : Int) ≤ (1 : Int) ∧ (1 : Int) ≤ (2 : Int) ∧ (0 : Int) ≤ a1 ∧ a1 ≤ (1 : Int) ∧ a1 + (2 : Int) * (1 : Int) < (↑(List.length a0) : Int) ∧ Bits a0) ∧
      (IntKind.wrap IntKind.i64 (sgnB a0 (Int.toNat (a1 + (2 : Int) * (0 : Int))) * IntKind.wrap IntKind.i64 ((2 : Int) - sgnB a0 (Int.toNat (a1 + (2 : Int) * (1 : Int))))) = sideL a0 (Int.toNat a1)) ∧
      True)
      (((0 : Int) ≤ (0 : Int) ∧ (0 : Int) ≤ (2 : Int) ∧ (0 : Int) ≤ a1 ∧ a1 ≤ (1 : Int) ∧ a1 + (2 : Int) * (0 : Int) < (↑(List.length a0) : Int) ∧ Bits a0) ∧
      ((0 : Int) ≤ (1 : Int) ∧ (1 : Int) ≤ (2 : Int) ∧ (0 : Int) ≤ a1 ∧ a1 ≤ (1 : Int) ∧ a1 + (2 : Int) * (1 : Int) < (↑(List.length a0) : Int) ∧ Bits a0) ∧
      ((0 : Int) ≤ (2 : Int) ∧ (2 : Int) ≤ (2 : Int) ∧ (0 : Int) ≤ a1 ∧ a1 ≤ (1 : Int) ∧ a1 + (2 : Int) * (2 : Int) < (↑(List.length a0) : Int) ∧ Bits a0) ∧
      (IntKind.wrap IntKind.i64 (sgnB a0 (Int.toNat (a1 + (2 : Int) * (0 : Int))) * IntKind.wrap IntKind.i64 ((4 : Int) - IntKind.wrap IntKind.i64 (sgnB a0 (Int.toNat (a1 + (2 : Int) * (1 : Int))) * IntKind.wrap IntKind.i64 ((2 : Int) - sgnB a0 (Int.toNat (a1 + (2 : Int) * (2 : Int))))))) = sideL a0 (Int.toNat a1)) ∧
      True)))
theorem V_wave_side (a0 : (List Int)) (a1 : Int) : awp E_wave_side (bodyOf Try.f116) 0 (fin Try.prog S_wave_side (a0, a1, ()) [(4, none)] 0) (initSt S_wave_side.par (a0, a1, ()) 31) = W_wave_side a0 a1 := by kernel_rfl
theorem G_wave_side : loopsAll E_wave_side (loopList (bodyOf Try.f116) 0) = (True) := by kernel_rfl
theorem envok_wave_side (h_wave_side_1 : SumOK Try.prog 127 S_wave_side_1) : EnvOK E_wave_side := ⟨sumsOf_ok (List.forall_mem_cons.2 ⟨h_wave_side_1, (fun _ h => nomatch h)⟩), follows⟩
theorem whole_wave_side (h_wave_side_1 : SumOK Try.prog 127 S_wave_side_1)  (main : ∀ (a0 : (List Int)) (a1 : Int), (Bits a0 ∧ (List.length a0 = (2 : Nat) ∨ List.length a0 = (4 : Nat) ∨ List.length a0 = (6 : Nat)) ∧ (0 : Int) ≤ a1 ∧ a1 ≤ (1 : Int)) → W_wave_side a0 a1) : SumOK Try.prog 116 S_wave_side :=
  fun_sound (E := E_wave_side) (envok_wave_side h_wave_side_1) (fn := Try.f116) (c := bodyOf Try.f116) (ts := [(4, none)]) S_wave_side Try.func116 (body_some (by kernel_rfl)) (by kernel_rfl) (by kernel_rfl) (by kernel_rfl) (G_wave_side.mpr trivial) (fun x hp => match x, hp with | (a0, a1, ()), hp => (V_wave_side a0 a1).mpr (main a0 a1 hp))
/-! ### wave_good -/
noncomputable def E_wave_good : Env := { P := Try.prog, sum := sumsOf [], nio := 0, head := fun b => ([], []), after := fun _ => none, leave := fun b => [], loops := fun b => none }
def W_wave_good (a0 : Int) : Prop := (
  ((if (if (a0 == (2 : Int)) = true then true else a0 == (4 : Int)) = true then true else a0 == (6 : Int)) = orderB a0) ∧
  True)
theorem V_wave_good (a0 : Int) : awp E_wave_good (bodyOf Try.f75) 0 (fin Try.prog S_wave_good (a0, ()) [(2, none)] 0) (initSt S_wave_good.par (a0, ()) 13) = W_wave_good a0 := by kernel_rfl
theorem G_wave_good : loopsAll E_wave_good (loopList (bodyOf Try.f75) 0) = (True) := by kernel_rfl
theorem envok_wave_good  : EnvOK E_wave_good := ⟨sumsOf_ok (fun _ h => nomatch h), follows⟩
theorem whole_wave_good   (main : ∀ (a0 : Int), (True) → W_wave_good a0) : SumOK Try.prog 75 S_wave_good :=
  fun_sound (E := E_wave_good) (envok_wave_good ) (fn := Try.f75) (c := bodyOf Try.f75) (ts := [(2, none)]) S_wave_good Try.func75 (body_some (by kernel_rfl)) (by kernel_rfl) (by kernel_rfl) (by kernel_rfl) (G_wave_good.mpr trivial) (fun x hp => match x, hp with | (a0, ()), hp => (V_wave_good a0).mpr (main a0 hp))
/-! ### wave_point -/
noncomputable def E_wave_point : Env := { P := Try.prog, sum := sumsOf [(116, S_wave_side)], nio := 0, head := fun b => ([], []), after := fun _ => none, leave := fun b => [], loops := fun b => none }
def W_wave_point (a0 : (List Int)) : Prop := (
  (Bits a0 ∧ (List.length a0 = (2 : Nat) ∨ List.length a0 = (4 : Nat) ∨ List.length a0 = (6 : Nat)) ∧ (0 : Int) ≤ (0 : Int) ∧ (0 : Int) ≤ (1 : Int)) ∧
  (Bits a0 ∧ (List.length a0 = (2 : Nat) ∨ List.length a0 = (4 : Nat) ∨ List.length a0 = (6 : Nat)) ∧ (0 : Int) ≤ (1 : Int) ∧ (1 : Int) ≤ (1 : Int)) ∧
  ((sideL a0 (0 : Nat), sideL a0 (1 : Nat), ()) = pointL a0) ∧
  True)
theorem V_wave_point (a0 : (List Int)) : awp E_wave_point (bodyOf Try.f76) 0 (fin Try.prog S_wave_point (a0, ()) [(2, some 47)] 0) (initSt S_wave_point.par (a0, ()) 8) = W_wave_point a0 := by kernel_rfl
theorem G_wave_point : loopsAll E_wave_point (loopList (bodyOf Try.f76) 0) = (True) := by kernel_rfl
theorem envok_wave_point (h_wave_side : SumOK Try.prog 116 S_wave_side) : EnvOK E_wave_point := ⟨sumsOf_ok (List.forall_mem_cons.2 ⟨h_wave_side, (fun _ h => nomatch h)⟩), follows⟩
theorem whole_wave_point (h_wave_side : SumOK Try.prog 116 S_wave_side)  (main : ∀ (a0 : (List Int)), (Bits a0 ∧ (List.length a0 = (2 : Nat) ∨ List.length a0 = (4 : Nat) ∨ List.length a0 = (6 : Nat))) → W_wave_point a0) : SumOK Try.prog 76 S_wave_point :=
  fun_sound (E := E_wave_point) (envok_wave_point h_wave_side) (fn := Try.f76) (c := bodyOf Try.f76) (ts := [(2, some 47)]) S_wave_point Try.func76 (body_some (by kernel_rfl)) (by kernel_rfl) (by kernel_rfl) (by kernel_rfl) (G_wave_point.mpr trivial) (fun x hp => match x, hp with | (a0, ()), hp => (V_wave_point a0).mpr (main a0 hp))
/-! ### wave_check -/
def L_wave_check_0 : Lift.Loop := Lift.Loop.mk (u 17 ++ (.v (.ro (.pair (.int .i64) (.pair (.int .i64) .unit))) :: (.v (.int .i64) :: (.v (.int .i64) :: (u 22))))) [] 0 (fun x y => p_wave_check_0 x.1 x.2.1 x.2.2.1) (fun x y => m_wave_check_0 x.1 x.2.1 x.2.2.1) (fun x y K => o_wave_check_0 x.1 x.2.1 x.2.2.1 K)
noncomputable def E_wave_check : Env := { P := Try.prog, sum := sumsOf [(75, S_wave_good)], nio := 0, head := fun b => if b = 0 then ([17, 18, 19, 27, 28, 29, 32, 33, 34, 37, 38, 39], []) else ([], []), after := fun _ => none, leave := fun b => if b = 0 then [4] else [], loops := fun b => if b = 0 then some L_wave_check_0 else none }
def W_wave_check (a0 : (List (Int × (Int × Unit)))) (a1 : Int) : Prop := (
  (True) ∧
  condP (if (!orderB a1) = true then true else decide (IntKind.wrap IntKind.i64 ((↑(List.length a0) : Int) * a1) > (4096 : Int)))
    ((false = hearB a0 a1) ∧
    True)
    ((p_wave_check_0 a0 (↑(List.length a0) : Int) (0 : Int)) ∧
    condP (List.all (List.drop (0 : Nat) a0) okPt)
      ((true = hearB a0 a1) ∧
      True)
      ((false = hearB a0 a1) ∧
      True)))
theorem V_wave_check (a0 : (List (Int × (Int × Unit)))) (a1 : Int) : awp E_wave_check (bodyOf Try.f77) 0 (fin Try.prog S_wave_check (a0, a1, ()) [(4, none)] 0) (initSt S_wave_check.par (a0, a1, ()) 42) = W_wave_check a0 a1 := by kernel_rfl
def B_wave_check_0 (t17 : (List (Int × (Int × Unit)))) (t18 : Int) (t19 : Int) (m : Nat) (K : AExit → St → Prop) : Prop := (
  condP (decide (t19 < t18))
    (((0 : Int) ≤ t19) ∧
    (t19 < (↑(List.length t17) : Int)) ∧
    condP (if (if (if decide (Prod.fst (List.getD t17 (Int.toNat t19) ((0 : Int), (0 : Int), ())) < (-1000 : Int)) = true then true else decide (Prod.fst (List.getD t17 (Int.toNat t19) ((0 : Int), (0 : Int), ())) > (1000 : Int))) = true then true else decide (Prod.fst (Prod.snd (List.getD t17 (Int.toNat t19) ((0 : Int), (0 : Int), ()))) < (-1000 : Int))) = true then true else decide (Prod.fst (Prod.snd (List.getD t17 (Int.toNat t19) ((0 : Int), (0 : Int), ()))) > (1000 : Int)))
      (X_wave_check_0_0 (false) K)
      ((p_wave_check_0 t17 t18 (IntKind.wrap IntKind.i64 (t19 + (1 : Int)))) ∧
      (m_wave_check_0 t17 t18 (IntKind.wrap IntKind.i64 (t19 + (1 : Int))) < m) ∧
      o_wave_check_0 t17 t18 (IntKind.wrap IntKind.i64 (t19 + (1 : Int))) K))
    (X_wave_check_0_1  K))
theorem R_wave_check_0 (t17 : (List (Int × (Int × Unit)))) (t18 : Int) (t19 : Int) (m : Nat) (K : AExit → St → Prop) : awp E_wave_check (loopAt (bodyOf Try.f77) 0) 0 (roundP E_wave_check 0 L_wave_check_0 m K) (L_wave_check_0.abs (t17, t18, t19, ()) (())) = B_wave_check_0 t17 t18 t19 m K := by kernel_rfl
theorem I_wave_check_0 (h : ∀ (t17 : (List (Int × (Int × Unit)))) (t18 : Int) (t19 : Int) (K : AExit → St → Prop), p_wave_check_0 t17 t18 t19 → o_wave_check_0 t17 t18 t19 K → B_wave_check_0 t17 t18 t19 (m_wave_check_0 t17 t18 t19) K) : LoopOK E_wave_check 0 (loopAt (bodyOf Try.f77) 0) L_wave_check_0 :=
  fun x y K hp ho => match x, y, hp, ho with | (t17, t18, t19, ()), (), hp, ho => (R_wave_check_0 t17 t18 t19 (m_wave_check_0 t17 t18 t19) K).mpr (h t17 t18 t19 K hp ho)
theorem G_wave_check : loopsAll E_wave_check (loopList (bodyOf Try.f77) 0) = (LoopOK E_wave_check 0 (loopAt (bodyOf Try.f77) 0) L_wave_check_0 ∧ True) := by kernel_rfl
theorem envok_wave_check (h_wave_good : SumOK Try.prog 75 S_wave_good) : EnvOK E_wave_check := ⟨sumsOf_ok (List.forall_mem_cons.2 ⟨h_wave_good, (fun _ h => nomatch h)⟩), follows⟩
theorem whole_wave_check (h_wave_good : SumOK Try.prog 75 S_wave_good) (l0 : LoopOK E_wave_check 0 (loopAt (bodyOf Try.f77) 0) L_wave_check_0) (main : ∀ (a0 : (List (Int × (Int × Unit)))) (a1 : Int), ((↑(List.length a0) : Int) ≤ big) → W_wave_check a0 a1) : SumOK Try.prog 77 S_wave_check :=
  fun_sound (E := E_wave_check) (envok_wave_check h_wave_good) (fn := Try.f77) (c := bodyOf Try.f77) (ts := [(4, none)]) S_wave_check Try.func77 (body_some (by kernel_rfl)) (by kernel_rfl) (by kernel_rfl) (by kernel_rfl) (G_wave_check.mpr ⟨l0, trivial⟩) (fun x hp => match x, hp with | (a0, a1, ()), hp => (V_wave_check a0 a1).mpr (main a0 a1 hp))
/-! ### wave_bitsOf -/
def L_wave_bitsOf_0 : Lift.Loop := Lift.Loop.mk (.v (.int .i64) :: (.v (.int .i64) :: (u 3 ++ (.sl 0 :: (u 4 ++ (.v (.int .i64) :: (.v (.int .i64) :: (u 15)))))))) [(0, .row (.int .u8))] 1 (fun x y => p_wave_bitsOf_0 x.1 x.2.1 x.2.2.1 x.2.2.2.1 y.1) (fun x y => m_wave_bitsOf_0 x.1 x.2.1 x.2.2.1 x.2.2.2.1 y.1) (fun x y K => o_wave_bitsOf_0 x.1 x.2.1 x.2.2.1 x.2.2.2.1 y.1 K)
noncomputable def E_wave_bitsOf : Env := { P := Try.prog, sum := sumsOf [], nio := 0, head := fun b => if b = 0 then ([0, 1, 5, 10, 11], []) else ([], []), after := fun _ => none, leave := fun b => if b = 0 then [4, 5] else [], loops := fun b => if b = 0 then some L_wave_bitsOf_0 else none }
def W_wave_bitsOf (a0 : Int) (a1 : Int) : Prop := (
  ((0 : Int) ≤ a1) ∧
  (a1 ≤ a1) ∧
  ((↑(1 : Nat) : Int) * a1 ≤ (281474976710656 : Int)) ∧
  (p_wave_bitsOf_0 a0 a1 (↑(List.length (List.replicate (Int.toNat a1) (0 : Int))) : Int) (0 : Int) (List.replicate (Int.toNat a1) (0 : Int))) ∧
  ((fillFrom (List.replicate (Int.toNat a1) (0 : Int)) (0 : Nat) fun (i : Nat) => (↑(Int.toNat a0 / (2 : Nat) ^ (Int.toNat a1 - (1 : Nat) - i) % (2 : Nat)) : Int)) = outS (Int.toNat a1) (Int.toNat a0)) ∧
  True)
theorem V_wave_bitsOf (a0 : Int) (a1 : Int) : awp E_wave_bitsOf (bodyOf Try.f78) 0 (fin Try.prog S_wave_bitsOf (a0, a1, ()) [(4, none)] 0) (initSt S_wave_bitsOf.par (a0, a1, ()) 27) = W_wave_bitsOf a0 a1 := by kernel_rfl
def B_wave_bitsOf_0 (t0 : Int) (t1 : Int) (t10 : Int) (t11 : Int) (r0 : (List Int)) (m : Nat) (K : AExit → St → Prop) : Prop := (
  condP (decide (t11 < t10))
    (((0 : Int) ≤ IntKind.wrap IntKind.i64 (IntKind.wrap IntKind.i64 (t1 - (1 : Int)) - t11)) ∧
    ((0 : Int) ≤ t11) ∧
    (t11 < (↑(List.length r0) : Int)) ∧
    (p_wave_bitsOf_0 t0 t1 t10 (IntKind.wrap IntKind.i64 (t11 + (1 : Int))) (List.set r0 (Int.toNat t11) (IntKind.wrap IntKind.u8 (bits BinOp.and IntKind.i64 (Int.fdiv t0 ((2 : Int) ^ min (Int.toNat (IntKind.wrap IntKind.i64 (IntKind.wrap IntKind.i64 (t1 - (1 : Int)) - t11))) (IntKind.bits IntKind.i64))) (1 : Int))))) ∧
    (m_wave_bitsOf_0 t0 t1 t10 (IntKind.wrap IntKind.i64 (t11 + (1 : Int))) (List.set r0 (Int.toNat t11) (IntKind.wrap IntKind.u8 (bits BinOp.and IntKind.i64 (Int.fdiv t0 ((2 : Int) ^ min (Int.toNat (IntKind.wrap IntKind.i64 (IntKind.wrap IntKind.i64 (t1 - (1 : Int)) - t11))) (IntKind.bits IntKind.i64))) (1 : Int)))) < m) ∧
    o_wave_bitsOf_0 t0 t1 t10 (IntKind.wrap IntKind.i64 (t11 + (1 : Int))) (List.set r0 (Int.toNat t11) (IntKind.wrap IntKind.u8 (bits BinOp.and IntKind.i64 (Int.fdiv t0 ((2 : Int) ^ min (Int.toNat (IntKind.wrap IntKind.i64 (IntKind.wrap IntKind.i64 (t1 - (1 : Int)) - t11))) (IntKind.bits IntKind.i64))) (1 : Int)))) K)
    (X_wave_bitsOf_0_0 (r0) K))
theorem R_wave_bitsOf_0 (t0 : Int) (t1 : Int) (t10 : Int) (t11 : Int) (r0 : (List Int)) (m : Nat) (K : AExit → St → Prop) : awp E_wave_bitsOf (loopAt (bodyOf Try.f78) 0) 0 (roundP E_wave_bitsOf 0 L_wave_bitsOf_0 m K) (L_wave_bitsOf_0.abs (t0, t1, t10, t11, ()) (r0, ())) = B_wave_bitsOf_0 t0 t1 t10 t11 r0 m K := by kernel_rfl
theorem I_wave_bitsOf_0 (h : ∀ (t0 : Int) (t1 : Int) (t10 : Int) (t11 : Int) (r0 : (List Int)) (K : AExit → St → Prop), p_wave_bitsOf_0 t0 t1 t10 t11 r0 → o_wave_bitsOf_0 t0 t1 t10 t11 r0 K → B_wave_bitsOf_0 t0 t1 t10 t11 r0 (m_wave_bitsOf_0 t0 t1 t10 t11 r0) K) : LoopOK E_wave_bitsOf 0 (loopAt (bodyOf Try.f78) 0) L_wave_bitsOf_0 :=
  fun x y K hp ho => match x, y, hp, ho with | (t0, t1, t10, t11, ()), (r0, ()), hp, ho => (R_wave_bitsOf_0 t0 t1 t10 t11 r0 (m_wave_bitsOf_0 t0 t1 t10 t11 r0) K).mpr (h t0 t1 t10 t11 r0 K hp ho)
theorem G_wave_bitsOf : loopsAll E_wave_bitsOf (loopList (bodyOf Try.f78) 0) = (LoopOK E_wave_bitsOf 0 (loopAt (bodyOf Try.f78) 0) L_wave_bitsOf_0 ∧ True) := by kernel_rfl
theorem envok_wave_bitsOf  : EnvOK E_wave_bitsOf := ⟨sumsOf_ok (fun _ h => nomatch h), follows⟩
theorem whole_wave_bitsOf  (l0 : LoopOK E_wave_bitsOf 0 (loopAt (bodyOf Try.f78) 0) L_wave_bitsOf_0) (main : ∀ (a0 : Int) (a1 : Int), ((0 : Int) ≤ a0 ∧ a0 ≤ (64 : Int) ∧ (0 : Int) ≤ a1 ∧ a1 ≤ (6 : Int)) → W_wave_bitsOf a0 a1) : SumOK Try.prog 78 S_wave_bitsOf :=
  fun_sound (E := E_wave_bitsOf) (envok_wave_bitsOf ) (fn := Try.f78) (c := bodyOf Try.f78) (ts := [(4, none)]) S_wave_bitsOf Try.func78 (body_some (by kernel_rfl)) (by kernel_rfl) (by kernel_rfl) (by kernel_rfl) (G_wave_bitsOf.mpr ⟨l0, trivial⟩) (fun x hp => match x, hp with | (a0, a1, ()), hp => (V_wave_bitsOf a0 a1).mpr (main a0 a1 hp))
/-! ### wave_far -/
noncomputable def E_wave_far : Env := { P := Try.prog, sum := sumsOf [], nio := 0, head := fun b => ([], []), after := fun _ => none, leave := fun b => [], loops := fun b => none }
def W_wave_far (a0 : (Int × (Int × Unit))) (a1 : (Int × (Int × Unit))) : Prop := (
  (IntKind.wrap IntKind.i64 (IntKind.wrap IntKind.i64 (IntKind.wrap IntKind.i64 (Prod.fst a0 - Prod.fst a1) * IntKind.wrap IntKind.i64 (Prod.fst a0 - Prod.fst a1)) + IntKind.wrap IntKind.i64 (IntKind.wrap IntKind.i64 (Prod.fst (Prod.snd a0) - Prod.fst (Prod.snd a1)) * IntKind.wrap IntKind.i64 (Prod.fst (Prod.snd a0) - Prod.fst (Prod.snd a1)))) = far a0 a1) ∧
  True)
theorem V_wave_far (a0 : (Int × (Int × Unit))) (a1 : (Int × (Int × Unit))) : awp E_wave_far (bodyOf Try.f79) 0 (fin Try.prog S_wave_far (a0, a1, ()) [(4, none)] 0) (initSt S_wave_far.par (a0, a1, ()) 28) = W_wave_far a0 a1 := by kernel_rfl
theorem G_wave_far : loopsAll E_wave_far (loopList (bodyOf Try.f79) 0) = (True) := by kernel_rfl
theorem envok_wave_far  : EnvOK E_wave_far := ⟨sumsOf_ok (fun _ h => nomatch h), follows⟩
theorem whole_wave_far   (main : ∀ (a0 : (Int × (Int × Unit))) (a1 : (Int × (Int × Unit))), (okPt a0 = true ∧ okPt a1 = true) → W_wave_far a0 a1) : SumOK Try.prog 79 S_wave_far :=
  fun_sound (E := E_wave_far) (envok_wave_far ) (fn := Try.f79) (c := bodyOf Try.f79) (ts := [(4, none)]) S_wave_far Try.func79 (body_some (by kernel_rfl)) (by kernel_rfl) (by kernel_rfl) (by kernel_rfl) (G_wave_far.mpr trivial) (fun x hp => match x, hp with | (a0, a1, ()), hp => (V_wave_far a0 a1).mpr (main a0 a1 hp))
/-! ### wave_Send -/
def L_wave_Send_0 : Lift.Loop := Lift.Loop.mk (.v (.ro (.int .u8)) :: (.v (.int .i64) :: (u 5 ++ (.sl 0 :: (.v (.int .i64) :: (u 33)))))) [(0, .row (.pair (.int .i64) (.pair (.int .i64) .unit)))] 1 (fun x y => p_wave_Send_0 x.1 x.2.1 x.2.2.1 y.1) (fun x y => m_wave_Send_0 x.1 x.2.1 x.2.2.1 y.1) (fun x y K => o_wave_Send_0 x.1 x.2.1 x.2.2.1 y.1 K)
noncomputable def E_wave_Send : Env := { P := Try.prog, sum := sumsOf [(74, S_bits_Check), (75, S_wave_good), (76, S_wave_point)], nio := 0, head := fun b => if b = 0 then ([0, 1, 7, 8], [(7, (.pair (.int .i64) (.pair (.int .i64) .unit)))]) else ([], []), after := fun _ => none, leave := fun b => if b = 0 then [4, 5, 7] else [], loops := fun b => if b = 0 then some L_wave_Send_0 else none }
def W_wave_Send (a0 : (List Int)) (a1 : Int) : Prop := (
  ((↑(List.length a0) : Int) ≤ big ∧ ∀ (y : Int), y ∈ a0 → (0 : Int) ≤ y) ∧
  condP (bitsErr a0 != (0 : Int))
    (([] = sendL a0 a1) ∧
    (bitsErr a0 = sendErr a0 a1) ∧
    True)
    ((True) ∧
    ((!orderB a1) = false → a1 ≠ (0 : Int)) ∧
    condP (if (!orderB a1) = true then true else Int.tmod (↑(List.length a0) : Int) a1 != (0 : Int))
      (([] = sendL a0 a1) ∧
      ((1 : Int) = sendErr a0 a1) ∧
      True)
      ((p_wave_Send_0 a0 a1 (0 : Int) []) ∧
      ([] ++ sendF (Int.toNat a1) ((List.length a0 - (0 : Nat)) / Int.toNat a1) (List.drop (0 : Nat) a0) = sendL a0 a1) ∧
      ((0 : Int) = sendErr a0 a1) ∧
      True)))
theorem V_wave_Send (a0 : (List Int)) (a1 : Int) : awp E_wave_Send (bodyOf Try.f14) 0 (fin Try.prog S_wave_Send (a0, a1, ()) [(4, none), (5, none)] 0) (initSt S_wave_Send.par (a0, a1, ()) 42) = W_wave_Send a0 a1 := by kernel_rfl
def B_wave_Send_0 (t0 : (List Int)) (t1 : Int) (t8 : Int) (r0 : (List (Int × (Int × Unit)))) (m : Nat) (K : AExit → St → Prop) : Prop := (
  condP (decide (t8 < (↑(List.length t0) : Int)))
    (((0 : Int) ≤ t8) ∧
    (t8 ≤ IntKind.wrap IntKind.i64 (t8 + t1)) ∧
    (IntKind.wrap IntKind.i64 (t8 + t1) ≤ (↑(List.length t0) : Int)) ∧
    (Bits (cutL t0 (some t8) (some (IntKind.wrap IntKind.i64 (t8 + t1)))) ∧ (List.length (cutL t0 (some t8) (some (IntKind.wrap IntKind.i64 (t8 + t1)))) = (2 : Nat) ∨ List.length (cutL t0 (some t8) (some (IntKind.wrap IntKind.i64 (t8 + t1)))) = (4 : Nat) ∨ List.length (cutL t0 (some t8) (some (IntKind.wrap IntKind.i64 (t8 + t1)))) = (6 : Nat))) ∧
    ((List.length r0 + List.length [pointL (cutL t0 (some t8) (some (IntKind.wrap IntKind.i64 (t8 + t1))))]) * (16 : Nat) ≤ (140737488355328 : Nat)) ∧
    (p_wave_Send_0 t0 t1 (IntKind.wrap IntKind.i64 (t8 + t1)) (List.append r0 [pointL (cutL t0 (some t8) (some (IntKind.wrap IntKind.i64 (t8 + t1))))])) ∧
    (m_wave_Send_0 t0 t1 (IntKind.wrap IntKind.i64 (t8 + t1)) (List.append r0 [pointL (cutL t0 (some t8) (some (IntKind.wrap IntKind.i64 (t8 + t1))))]) < m) ∧
    o_wave_Send_0 t0 t1 (IntKind.wrap IntKind.i64 (t8 + t1)) (List.append r0 [pointL (cutL t0 (some t8) (some (IntKind.wrap IntKind.i64 (t8 + t1))))]) K)
    (X_wave_Send_0_0 (r0) K))
theorem R_wave_Send_0 (t0 : (List Int)) (t1 : Int) (t8 : Int) (r0 : (List (Int × (Int × Unit)))) (m : Nat) (K : AExit → St → Prop) : awp E_wave_Send (loopAt (bodyOf Try.f14) 0) 0 (roundP E_wave_Send 0 L_wave_Send_0 m K) (L_wave_Send_0.abs (t0, t1, t8, ()) (r0, ())) = B_wave_Send_0 t0 t1 t8 r0 m K := by kernel_rfl
theorem I_wave_Send_0 (h : ∀ (t0 : (List Int)) (t1 : Int) (t8 : Int) (r0 : (List (Int × (Int × Unit)))) (K : AExit → St → Prop), p_wave_Send_0 t0 t1 t8 r0 → o_wave_Send_0 t0 t1 t8 r0 K → B_wave_Send_0 t0 t1 t8 r0 (m_wave_Send_0 t0 t1 t8 r0) K) : LoopOK E_wave_Send 0 (loopAt (bodyOf Try.f14) 0) L_wave_Send_0 :=
  fun x y K hp ho => match x, y, hp, ho with | (t0, t1, t8, ()), (r0, ()), hp, ho => (R_wave_Send_0 t0 t1 t8 r0 (m_wave_Send_0 t0 t1 t8 r0) K).mpr (h t0 t1 t8 r0 K hp ho)
theorem G_wave_Send : loopsAll E_wave_Send (loopList (bodyOf Try.f14) 0) = (LoopOK E_wave_Send 0 (loopAt (bodyOf Try.f14) 0) L_wave_Send_0 ∧ True) := by kernel_rfl
theorem envok_wave_Send (h_bits_Check : SumOK Try.prog 74 S_bits_Check) (h_wave_good : SumOK Try.prog 75 S_wave_good) (h_wave_point : SumOK Try.prog 76 S_wave_point) : EnvOK E_wave_Send := ⟨sumsOf_ok (List.forall_mem_cons.2 ⟨h_bits_Check, (List.forall_mem_cons.2 ⟨h_wave_good, (List.forall_mem_cons.2 ⟨h_wave_point, (fun _ h => nomatch h)⟩)⟩)⟩), follows⟩
theorem whole_wave_Send (h_bits_Check : SumOK Try.prog 74 S_bits_Check) (h_wave_good : SumOK Try.prog 75 S_wave_good) (h_wave_point : SumOK Try.prog 76 S_wave_point) (l0 : LoopOK E_wave_Send 0 (loopAt (bodyOf Try.f14) 0) L_wave_Send_0) (main : ∀ (a0 : (List Int)) (a1 : Int), ((↑(List.length a0) : Int) ≤ big ∧ ∀ (y : Int), y ∈ a0 → (0 : Int) ≤ y) → W_wave_Send a0 a1) : SumOK Try.prog 14 S_wave_Send :=
  fun_sound (E := E_wave_Send) (envok_wave_Send h_bits_Check h_wave_good h_wave_point) (fn := Try.f14) (c := bodyOf Try.f14) (ts := [(4, none), (5, none)]) S_wave_Send Try.func14 (body_some (by kernel_rfl)) (by kernel_rfl) (by kernel_rfl) (by kernel_rfl) (G_wave_Send.mpr ⟨l0, trivial⟩) (fun x hp => match x, hp with | (a0, a1, ()), hp => (V_wave_Send a0 a1).mpr (main a0 a1 hp))
/-! ### wave_Hear -/
def L_wave_Hear_0 : Lift.Loop := Lift.Loop.mk (u 1 ++ (.v (.int .i64) :: (u 4 ++ (.sl 0 :: (u 14 ++ (.v (.ro (.pair (.int .i64) (.pair (.int .i64) .unit))) :: (.v (.int .i64) :: (.v (.int .i64) :: (u 70))))))))) [(0, .row (.int .i64))] 1 (fun x y => p_wave_Hear_0 x.1 x.2.1 x.2.2.1 x.2.2.2.1 y.1) (fun x y => m_wave_Hear_0 x.1 x.2.1 x.2.2.1 x.2.2.2.1 y.1) (fun x y K => o_wave_Hear_0 x.1 x.2.1 x.2.2.1 x.2.2.2.1 y.1 K)
def L_wave_Hear_2 : Lift.Loop := Lift.Loop.mk (u 1 ++ (.v (.int .i64) :: (u 4 ++ (.sl 0 :: (u 1 ++ (.addr 1 :: (.sl 2 :: (u 11 ++ (.v (.ro (.pair (.int .i64) (.pair (.int .i64) .unit))) :: (.v (.int .i64) :: (.v (.int .i64) :: (u 6 ++ (.v (.int .i64) :: (.v (.int .i64) :: (u 62))))))))))))))) [(0, .row (.int .i64)), (1, .box (.pair (.int .i64) (.pair (.int .i64) .unit))), (2, .row (.arr 2 (.int .i64)))] 3 (fun x y => p_wave_Hear_2 x.1 x.2.1 x.2.2.1 x.2.2.2.1 x.2.2.2.2.1 x.2.2.2.2.2.1 y.1 y.2.1 y.2.2.1) (fun x y => m_wave_Hear_2 x.1 x.2.1 x.2.2.1 x.2.2.2.1 x.2.2.2.2.1 x.2.2.2.2.2.1 y.1 y.2.1 y.2.2.1) (fun x y K => o_wave_Hear_2 x.1 x.2.1 x.2.2.1 x.2.2.2.1 x.2.2.2.2.1 x.2.2.2.2.2.1 y.1 y.2.1 y.2.2.1 K)
def L_wave_Hear_4 : Lift.Loop := Lift.Loop.mk (u 1 ++ (.v (.int .i64) :: (u 4 ++ (.sl 0 :: (u 1 ++ (.addr 1 :: (.sl 2 :: (u 11 ++ (.v (.ro (.pair (.int .i64) (.pair (.int .i64) .unit))) :: (.v (.int .i64) :: (.v (.int .i64) :: (u 16 ++ (.v (.int .i64) :: (.v (.int .i64) :: (u 52))))))))))))))) [(0, .row (.int .i64)), (1, .box (.pair (.int .i64) (.pair (.int .i64) .unit))), (2, .row (.arr 2 (.int .i64)))] 3 (fun x y => p_wave_Hear_4 x.1 x.2.1 x.2.2.1 x.2.2.2.1 x.2.2.2.2.1 x.2.2.2.2.2.1 y.1 y.2.1 y.2.2.1) (fun x y => m_wave_Hear_4 x.1 x.2.1 x.2.2.1 x.2.2.2.1 x.2.2.2.2.1 x.2.2.2.2.2.1 y.1 y.2.1 y.2.2.1) (fun x y K => o_wave_Hear_4 x.1 x.2.1 x.2.2.1 x.2.2.2.1 x.2.2.2.2.1 x.2.2.2.2.2.1 y.1 y.2.1 y.2.2.1 K)
def L_wave_Hear_6 : Lift.Loop := Lift.Loop.mk (u 1 ++ (.v (.int .i64) :: (u 4 ++ (.sl 0 :: (u 1 ++ (.addr 1 :: (.sl 2 :: (u 2 ++ (.sl 3 :: (.v (.int .i64) :: (u 7 ++ (.v (.ro (.pair (.int .i64) (.pair (.int .i64) .unit))) :: (.v (.int .i64) :: (.v (.int .i64) :: (u 16 ++ (.v (.int .i64) :: (.v (.int .i64) :: (u 10 ++ (.v (.int .i64) :: (.v (.int .i64) :: (u 40))))))))))))))))))))) [(0, .row (.int .i64)), (1, .box (.pair (.int .i64) (.pair (.int .i64) .unit))), (2, .row (.arr 2 (.int .i64))), (3, .row (.int .u8))] 4 (fun x y => p_wave_Hear_6 x.1 x.2.1 x.2.2.1 x.2.2.2.1 x.2.2.2.2.1 x.2.2.2.2.2.1 x.2.2.2.2.2.2.1 x.2.2.2.2.2.2.2.1 x.2.2.2.2.2.2.2.2.1 y.1 y.2.1 y.2.2.1 y.2.2.2.1) (fun x y => m_wave_Hear_6 x.1 x.2.1 x.2.2.1 x.2.2.2.1 x.2.2.2.2.1 x.2.2.2.2.2.1 x.2.2.2.2.2.2.1 x.2.2.2.2.2.2.2.1 x.2.2.2.2.2.2.2.2.1 y.1 y.2.1 y.2.2.1 y.2.2.2.1) (fun x y K => o_wave_Hear_6 x.1 x.2.1 x.2.2.1 x.2.2.2.1 x.2.2.2.2.1 x.2.2.2.2.2.1 x.2.2.2.2.2.2.1 x.2.2.2.2.2.2.2.1 x.2.2.2.2.2.2.2.2.1 y.1 y.2.1 y.2.2.1 y.2.2.2.1 K)
def L_wave_Hear_8 : Lift.Loop := Lift.Loop.mk (u 1 ++ (.v (.int .i64) :: (u 4 ++ (.sl 0 :: (u 14 ++ (.v (.ro (.pair (.int .i64) (.pair (.int .i64) .unit))) :: (.v (.int .i64) :: (.v (.int .i64) :: (u 53 ++ (.sl 1 :: (.v (.int .i64) :: (.v (.int .i64) :: (u 14))))))))))))) [(0, .row (.int .i64)), (1, .row (.arr 2 (.int .i64)))] 2 (fun x y => p_wave_Hear_8 x.1 x.2.1 x.2.2.1 x.2.2.2.1 x.2.2.2.2.1 x.2.2.2.2.2.1 y.1 y.2.1) (fun x y => m_wave_Hear_8 x.1 x.2.1 x.2.2.1 x.2.2.2.1 x.2.2.2.2.1 x.2.2.2.2.2.1 y.1 y.2.1) (fun x y K => o_wave_Hear_8 x.1 x.2.1 x.2.2.1 x.2.2.2.1 x.2.2.2.2.1 x.2.2.2.2.2.1 y.1 y.2.1 K)
noncomputable def E_wave_Hear : Env := { P := Try.prog, sum := sumsOf [(77, S_wave_check), (78, S_wave_bitsOf), (76, S_wave_point), (79, S_wave_far)], nio := 0, head := fun b => if b = 8 then ([1, 6, 21, 22, 23, 77, 78, 79], []) else if b = 6 then ([1, 6, 8, 9, 12, 13, 21, 22, 23, 40, 41, 52, 53], []) else if b = 4 then ([1, 6, 8, 9, 21, 22, 23, 40, 41], []) else if b = 2 then ([1, 6, 8, 9, 21, 22, 23, 30, 31], []) else if b = 0 then ([1, 6, 21, 22, 23], [(6, (.int .i64))]) else ([], []), after := fun _ => none, leave := fun b => if b = 8 then [1, 4, 5, 6, 21, 22, 23] else if b = 6 then [1, 4, 5, 6, 8, 9, 21, 22, 23, 40, 41] else if b = 4 then [1, 4, 5, 6, 9, 21, 22, 23] else if b = 2 then [1, 4, 5, 6, 8, 9, 21, 22, 23] else if b = 0 then [4, 5, 6] else [], loops := fun b => if b = 8 then some L_wave_Hear_8 else if b = 6 then some L_wave_Hear_6 else if b = 4 then some L_wave_Hear_4 else if b = 2 then some L_wave_Hear_2 else if b = 0 then some L_wave_Hear_0 else none }
def W_wave_Hear (a0 : (List (Int × (Int × Unit)))) (a1 : Int) : Prop := (
  ((↑(List.length a0) : Int) ≤ big) ∧
  condP (!hearB a0 a1)
    (([] = if hearB a0 a1 = true then heardL a0 (Int.toNat a1) else []) ∧
    ((1 : Int) = heardErr a0 a1) ∧
    True)
    ((p_wave_Hear_0 a1 a0 (↑(List.length a0) : Int) (0 : Int) []) ∧
    ([] ++ heardL (List.drop (0 : Nat) a0) (Int.toNat a1) = if hearB a0 a1 = true then heardL a0 (Int.toNat a1) else []) ∧
    ((0 : Int) = heardErr a0 a1) ∧
    True))
theorem V_wave_Hear (a0 : (List (Int × (Int × Unit)))) (a1 : Int) : awp E_wave_Hear (bodyOf Try.f18) 0 (fin Try.prog S_wave_Hear (a0, a1, ()) [(4, none), (5, none)] 0) (initSt S_wave_Hear.par (a0, a1, ()) 94) = W_wave_Hear a0 a1 := by kernel_rfl
def B_wave_Hear_0 (t1 : Int) (t21 : (List (Int × (Int × Unit)))) (t22 : Int) (t23 : Int) (r0 : (List Int)) (m : Nat) (K : AExit → St → Prop) : Prop := (
  condP (decide (t23 < t22))
    (((0 : Int) ≤ t23) ∧
    (t23 < (↑(List.length t21) : Int)) ∧
    ((0 : Int) ≤ t1) ∧
    (t1 ≤ t1) ∧
    ((↑(16 : Nat) : Int) * t1 ≤ (281474976710656 : Int)) ∧
    (p_wave_Hear_2 t1 t21 t22 t23 (↑(List.length (List.replicate (Int.toNat t1) (List.replicate (2 : Nat) (0 : Int)))) : Int) (0 : Int) r0 (List.getD t21 (Int.toNat t23) ((0 : Int), (0 : Int), ())) (List.replicate (Int.toNat t1) (List.replicate (2 : Nat) (0 : Int)))) ∧
    ((0 : Int) ≤ t1) ∧
    (p_wave_Hear_4 t1 t21 t22 t23 (IntKind.wrap IntKind.i64 ((1 : Int) * (2 : Int) ^ min (Int.toNat t1) (IntKind.bits IntKind.i64))) (0 : Int) r0 (List.getD t21 (Int.toNat t23) ((0 : Int), (0 : Int), ())) (fillFrom (List.replicate (Int.toNat t1) (List.replicate (2 : Nat) (0 : Int))) (0 : Nat) fun (x : Nat) => [maxI, maxI])) ∧
    (p_wave_Hear_8 t1 t21 t22 t23 (↑(List.length (seg (lst (List.getD t21 (Int.toNat t23) ((0 : Int), (0 : Int), ())) (Int.toNat t1) ((2 : Nat) ^ Int.toNat t1)) (0 : Nat) (Int.toNat t1))) : Int) (0 : Int) r0 (seg (lst (List.getD t21 (Int.toNat t23) ((0 : Int), (0 : Int), ())) (Int.toNat t1) ((2 : Nat) ^ Int.toNat t1)) (0 : Nat) (Int.toNat t1))) ∧
    (p_wave_Hear_0 t1 t21 t22 (IntKind.wrap IntKind.i64 (t23 + (1 : Int))) (r0 ++ List.map (fun (x : List Int) => List.getD x (1 : Nat) (0 : Int) - List.getD x (0 : Nat) (0 : Int)) (List.drop (0 : Nat) (seg (lst (List.getD t21 (Int.toNat t23) ((0 : Int), (0 : Int), ())) (Int.toNat t1) ((2 : Nat) ^ Int.toNat t1)) (0 : Nat) (Int.toNat t1))))) ∧
    (m_wave_Hear_0 t1 t21 t22 (IntKind.wrap IntKind.i64 (t23 + (1 : Int))) (r0 ++ List.map (fun (x : List Int) => List.getD x (1 : Nat) (0 : Int) - List.getD x (0 : Nat) (0 : Int)) (List.drop (0 : Nat) (seg (lst (List.getD t21 (Int.toNat t23) ((0 : Int), (0 : Int), ())) (Int.toNat t1) ((2 : Nat) ^ Int.toNat t1)) (0 : Nat) (Int.toNat t1)))) < m) ∧
    o_wave_Hear_0 t1 t21 t22 (IntKind.wrap IntKind.i64 (t23 + (1 : Int))) (r0 ++ List.map (fun (x : List Int) => List.getD x (1 : Nat) (0 : Int) - List.getD x (0 : Nat) (0 : Int)) (List.drop (0 : Nat) (seg (lst (List.getD t21 (Int.toNat t23) ((0 : Int), (0 : Int), ())) (Int.toNat t1) ((2 : Nat) ^ Int.toNat t1)) (0 : Nat) (Int.toNat t1)))) K)
    (X_wave_Hear_0_0 (r0) K))
theorem R_wave_Hear_0 (t1 : Int) (t21 : (List (Int × (Int × Unit)))) (t22 : Int) (t23 : Int) (r0 : (List Int)) (m : Nat) (K : AExit → St → Prop) : awp E_wave_Hear (loopAt (bodyOf Try.f18) 0) 0 (roundP E_wave_Hear 0 L_wave_Hear_0 m K) (L_wave_Hear_0.abs (t1, t21, t22, t23, ()) (r0, ())) = B_wave_Hear_0 t1 t21 t22 t23 r0 m K := by kernel_rfl
theorem I_wave_Hear_0 (h : ∀ (t1 : Int) (t21 : (List (Int × (Int × Unit)))) (t22 : Int) (t23 : Int) (r0 : (List Int)) (K : AExit → St → Prop), p_wave_Hear_0 t1 t21 t22 t23 r0 → o_wave_Hear_0 t1 t21 t22 t23 r0 K → B_wave_Hear_0 t1 t21 t22 t23 r0 (m_wave_Hear_0 t1 t21 t22 t23 r0) K) : LoopOK E_wave_Hear 0 (loopAt (bodyOf Try.f18) 0) L_wave_Hear_0 :=
  fun x y K hp ho => match x, y, hp, ho with | (t1, t21, t22, t23, ()), (r0, ()), hp, ho => (R_wave_Hear_0 t1 t21 t22 t23 r0 (m_wave_Hear_0 t1 t21 t22 t23 r0) K).mpr (h t1 t21 t22 t23 r0 K hp ho)
def B_wave_Hear_2 (t1 : Int) (t21 : (List (Int × (Int × Unit)))) (t22 : Int) (t23 : Int) (t30 : Int) (t31 : Int) (r0 : (List Int)) (r1 : (Int × (Int × Unit))) (r2 : (List (List Int))) (m : Nat) (K : AExit → St → Prop) : Prop := (
  condP (decide (t31 < t30))
    (((0 : Int) ≤ t31) ∧
    (t31 < (↑(List.length r2) : Int)) ∧
    (p_wave_Hear_2 t1 t21 t22 t23 t30 (IntKind.wrap IntKind.i64 (t31 + (1 : Int))) r0 r1 (List.set r2 (Int.toNat t31) [(9223372036854775807 : Int), (9223372036854775807 : Int)])) ∧
    (m_wave_Hear_2 t1 t21 t22 t23 t30 (IntKind.wrap IntKind.i64 (t31 + (1 : Int))) r0 r1 (List.set r2 (Int.toNat t31) [(9223372036854775807 : Int), (9223372036854775807 : Int)]) < m) ∧
    o_wave_Hear_2 t1 t21 t22 t23 t30 (IntKind.wrap IntKind.i64 (t31 + (1 : Int))) r0 r1 (List.set r2 (Int.toNat t31) [(9223372036854775807 : Int), (9223372036854775807 : Int)]) K)
    (X_wave_Hear_2_0 (t1) (t21) (t22) (t23) (r0) (r1) (r2) K))
theorem R_wave_Hear_2 (t1 : Int) (t21 : (List (Int × (Int × Unit)))) (t22 : Int) (t23 : Int) (t30 : Int) (t31 : Int) (r0 : (List Int)) (r1 : (Int × (Int × Unit))) (r2 : (List (List Int))) (m : Nat) (K : AExit → St → Prop) : awp E_wave_Hear (loopAt (bodyOf Try.f18) 2) 2 (roundP E_wave_Hear 2 L_wave_Hear_2 m K) (L_wave_Hear_2.abs (t1, t21, t22, t23, t30, t31, ()) (r0, r1, r2, ())) = B_wave_Hear_2 t1 t21 t22 t23 t30 t31 r0 r1 r2 m K := by kernel_rfl
theorem I_wave_Hear_2 (h : ∀ (t1 : Int) (t21 : (List (Int × (Int × Unit)))) (t22 : Int) (t23 : Int) (t30 : Int) (t31 : Int) (r0 : (List Int)) (r1 : (Int × (Int × Unit))) (r2 : (List (List Int))) (K : AExit → St → Prop), p_wave_Hear_2 t1 t21 t22 t23 t30 t31 r0 r1 r2 → o_wave_Hear_2 t1 t21 t22 t23 t30 t31 r0 r1 r2 K → B_wave_Hear_2 t1 t21 t22 t23 t30 t31 r0 r1 r2 (m_wave_Hear_2 t1 t21 t22 t23 t30 t31 r0 r1 r2) K) : LoopOK E_wave_Hear 2 (loopAt (bodyOf Try.f18) 2) L_wave_Hear_2 :=
  fun x y K hp ho => match x, y, hp, ho with | (t1, t21, t22, t23, t30, t31, ()), (r0, r1, r2, ()), hp, ho => (R_wave_Hear_2 t1 t21 t22 t23 t30 t31 r0 r1 r2 (m_wave_Hear_2 t1 t21 t22 t23 t30 t31 r0 r1 r2) K).mpr (h t1 t21 t22 t23 t30 t31 r0 r1 r2 K hp ho)
def B_wave_Hear_4 (t1 : Int) (t21 : (List (Int × (Int × Unit)))) (t22 : Int) (t23 : Int) (t40 : Int) (t41 : Int) (r0 : (List Int)) (r1 : (Int × (Int × Unit))) (r2 : (List (List Int))) (m : Nat) (K : AExit → St → Prop) : Prop := (
  condP (decide (t41 < t40))
    (((0 : Int) ≤ t41 ∧ t41 ≤ (64 : Int) ∧ (0 : Int) ≤ t1 ∧ t1 ≤ (6 : Int)) ∧
    (Bits (outS (Int.toNat t1) (Int.toNat t41)) ∧ (List.length (outS (Int.toNat t1) (Int.toNat t41)) = (2 : Nat) ∨ List.length (outS (Int.toNat t1) (Int.toNat t41)) = (4 : Nat) ∨ List.length (outS (Int.toNat t1) (Int.toNat t41)) = (6 : Nat))) ∧
    (okPt r1 = true ∧ okPt (pointL (outS (Int.toNat t1) (Int.toNat t41))) = true) ∧
    (p_wave_Hear_6 t1 (far r1 (pointL (outS (Int.toNat t1) (Int.toNat t41)))) t21 t22 t23 t40 t41 (↑(List.length (outS (Int.toNat t1) (Int.toNat t41))) : Int) (0 : Int) r0 r1 r2 (outS (Int.toNat t1) (Int.toNat t41))) ∧
    (p_wave_Hear_4 t1 t21 t22 t23 t40 (IntKind.wrap IntKind.i64 (t41 + (1 : Int))) r0 r1 (seg (lst r1 (Int.toNat t1) (Int.toNat t41 + (1 : Nat))) (0 : Nat) (Int.toNat t1))) ∧
    (m_wave_Hear_4 t1 t21 t22 t23 t40 (IntKind.wrap IntKind.i64 (t41 + (1 : Int))) r0 r1 (seg (lst r1 (Int.toNat t1) (Int.toNat t41 + (1 : Nat))) (0 : Nat) (Int.toNat t1)) < m) ∧
    o_wave_Hear_4 t1 t21 t22 t23 t40 (IntKind.wrap IntKind.i64 (t41 + (1 : Int))) r0 r1 (seg (lst r1 (Int.toNat t1) (Int.toNat t41 + (1 : Nat))) (0 : Nat) (Int.toNat t1)) K)
    (X_wave_Hear_4_0 (t1) (t21) (t22) (t23) (r0) (r2) K))
theorem R_wave_Hear_4 (t1 : Int) (t21 : (List (Int × (Int × Unit)))) (t22 : Int) (t23 : Int) (t40 : Int) (t41 : Int) (r0 : (List Int)) (r1 : (Int × (Int × Unit))) (r2 : (List (List Int))) (m : Nat) (K : AExit → St → Prop) : awp E_wave_Hear (loopAt (bodyOf Try.f18) 4) 4 (roundP E_wave_Hear 4 L_wave_Hear_4 m K) (L_wave_Hear_4.abs (t1, t21, t22, t23, t40, t41, ()) (r0, r1, r2, ())) = B_wave_Hear_4 t1 t21 t22 t23 t40 t41 r0 r1 r2 m K := by kernel_rfl
theorem I_wave_Hear_4 (h : ∀ (t1 : Int) (t21 : (List (Int × (Int × Unit)))) (t22 : Int) (t23 : Int) (t40 : Int) (t41 : Int) (r0 : (List Int)) (r1 : (Int × (Int × Unit))) (r2 : (List (List Int))) (K : AExit → St → Prop), p_wave_Hear_4 t1 t21 t22 t23 t40 t41 r0 r1 r2 → o_wave_Hear_4 t1 t21 t22 t23 t40 t41 r0 r1 r2 K → B_wave_Hear_4 t1 t21 t22 t23 t40 t41 r0 r1 r2 (m_wave_Hear_4 t1 t21 t22 t23 t40 t41 r0 r1 r2) K) : LoopOK E_wave_Hear 4 (loopAt (bodyOf Try.f18) 4) L_wave_Hear_4 :=
  fun x y K hp ho => match x, y, hp, ho with | (t1, t21, t22, t23, t40, t41, ()), (r0, r1, r2, ()), hp, ho => (R_wave_Hear_4 t1 t21 t22 t23 t40 t41 r0 r1 r2 (m_wave_Hear_4 t1 t21 t22 t23 t40 t41 r0 r1 r2) K).mpr (h t1 t21 t22 t23 t40 t41 r0 r1 r2 K hp ho)
def B_wave_Hear_6 (t1 : Int) (t13 : Int) (t21 : (List (Int × (Int × Unit)))) (t22 : Int) (t23 : Int) (t40 : Int) (t41 : Int) (t52 : Int) (t53 : Int) (r0 : (List Int)) (r1 : (Int × (Int × Unit))) (r2 : (List (List Int))) (r3 : (List Int)) (m : Nat) (K : AExit → St → Prop) : Prop := (
  condP (decide (t53 < t52))
    (((0 : Int) ≤ t53) ∧
    (t53 < (↑(List.length r3) : Int)) ∧
    ((0 : Int) ≤ t53) ∧
    (t53 < (↑(List.length r3) : Int)) ∧
    ((0 : Int) ≤ t53) ∧
    (t53 < (↑(List.length r2) : Int)) ∧
    ((0 : Int) ≤ List.getD r3 (Int.toNat t53) (0 : Int)) ∧
    (List.getD r3 (Int.toNat t53) (0 : Int) < (↑(2 : Nat) : Int)) ∧
    ((0 : Int) ≤ t53) ∧
    (t53 < (↑(List.length r2) : Int)) ∧
    ((0 : Int) ≤ List.getD r3 (Int.toNat t53) (0 : Int)) ∧
    (List.getD r3 (Int.toNat t53) (0 : Int) < (↑(2 : Nat) : Int)) ∧
    (p_wave_Hear_6 t1 t13 t21 t22 t23 t40 t41 t52 (IntKind.wrap IntKind.i64 (t53 + (1 : Int))) r0 r1 (List.set r2 (Int.toNat t53) (List.set (List.getD r2 (Int.toNat t53) (List.replicate (2 : Nat) (0 : Int))) (Int.toNat (List.getD r3 (Int.toNat t53) (0 : Int))) (lesser false (List.getD (List.getD r2 (Int.toNat t53) (List.replicate (2 : Nat) (0 : Int))) (Int.toNat (List.getD r3 (Int.toNat t53) (0 : Int))) (0 : Int)) t13))) r3) ∧
    (m_wave_Hear_6 t1 t13 t21 t22 t23 t40 t41 t52 (IntKind.wrap IntKind.i64 (t53 + (1 : Int))) r0 r1 (List.set r2 (Int.toNat t53) (List.set (List.getD r2 (Int.toNat t53) (List.replicate (2 : Nat) (0 : Int))) (Int.toNat (List.getD r3 (Int.toNat t53) (0 : Int))) (lesser false (List.getD (List.getD r2 (Int.toNat t53) (List.replicate (2 : Nat) (0 : Int))) (Int.toNat (List.getD r3 (Int.toNat t53) (0 : Int))) (0 : Int)) t13))) r3 < m) ∧
    o_wave_Hear_6 t1 t13 t21 t22 t23 t40 t41 t52 (IntKind.wrap IntKind.i64 (t53 + (1 : Int))) r0 r1 (List.set r2 (Int.toNat t53) (List.set (List.getD r2 (Int.toNat t53) (List.replicate (2 : Nat) (0 : Int))) (Int.toNat (List.getD r3 (Int.toNat t53) (0 : Int))) (lesser false (List.getD (List.getD r2 (Int.toNat t53) (List.replicate (2 : Nat) (0 : Int))) (Int.toNat (List.getD r3 (Int.toNat t53) (0 : Int))) (0 : Int)) t13))) r3 K)
    (X_wave_Hear_6_0 (t1) (t21) (t22) (t23) (t40) (t41) (r0) (r1) (r2) K))
theorem R_wave_Hear_6 (t1 : Int) (t13 : Int) (t21 : (List (Int × (Int × Unit)))) (t22 : Int) (t23 : Int) (t40 : Int) (t41 : Int) (t52 : Int) (t53 : Int) (r0 : (List Int)) (r1 : (Int × (Int × Unit))) (r2 : (List (List Int))) (r3 : (List Int)) (m : Nat) (K : AExit → St → Prop) : awp E_wave_Hear (loopAt (bodyOf Try.f18) 6) 6 (roundP E_wave_Hear 6 L_wave_Hear_6 m K) (L_wave_Hear_6.abs (t1, t13, t21, t22, t23, t40, t41, t52, t53, ()) (r0, r1, r2, r3, ())) = B_wave_Hear_6 t1 t13 t21 t22 t23 t40 t41 t52 t53 r0 r1 r2 r3 m K := by kernel_rfl
theorem I_wave_Hear_6 (h : ∀ (t1 : Int) (t13 : Int) (t21 : (List (Int × (Int × Unit)))) (t22 : Int) (t23 : Int) (t40 : Int) (t41 : Int) (t52 : Int) (t53 : Int) (r0 : (List Int)) (r1 : (Int × (Int × Unit))) (r2 : (List (List Int))) (r3 : (List Int)) (K : AExit → St → Prop), p_wave_Hear_6 t1 t13 t21 t22 t23 t40 t41 t52 t53 r0 r1 r2 r3 → o_wave_Hear_6 t1 t13 t21 t22 t23 t40 t41 t52 t53 r0 r1 r2 r3 K → B_wave_Hear_6 t1 t13 t21 t22 t23 t40 t41 t52 t53 r0 r1 r2 r3 (m_wave_Hear_6 t1 t13 t21 t22 t23 t40 t41 t52 t53 r0 r1 r2 r3) K) : LoopOK E_wave_Hear 6 (loopAt (bodyOf Try.f18) 6) L_wave_Hear_6 :=
  fun x y K hp ho => match x, y, hp, ho with | (t1, t13, t21, t22, t23, t40, t41, t52, t53, ()), (r0, r1, r2, r3, ()), hp, ho => (R_wave_Hear_6 t1 t13 t21 t22 t23 t40 t41 t52 t53 r0 r1 r2 r3 (m_wave_Hear_6 t1 t13 t21 t22 t23 t40 t41 t52 t53 r0 r1 r2 r3) K).mpr (h t1 t13 t21 t22 t23 t40 t41 t52 t53 r0 r1 r2 r3 K hp ho)
def B_wave_Hear_8 (t1 : Int) (t21 : (List (Int × (Int × Unit)))) (t22 : Int) (t23 : Int) (t78 : Int) (t79 : Int) (r0 : (List Int)) (r1 : (List (List Int))) (m : Nat) (K : AExit → St → Prop) : Prop := (
  condP (decide (t79 < t78))
    (((0 : Int) ≤ t79) ∧
    (t79 < (↑(List.length r1) : Int)) ∧
    ((0 : Int) ≤ (1 : Int)) ∧
    ((1 : Int) < (↑(2 : Nat) : Int)) ∧
    ((0 : Int) ≤ (0 : Int)) ∧
    ((0 : Int) < (↑(2 : Nat) : Int)) ∧
    ((List.length r0 + List.length [IntKind.wrap IntKind.i64 (List.getD (List.getD r1 (Int.toNat t79) (List.replicate (2 : Nat) (0 : Int))) (1 : Nat) (0 : Int) - List.getD (List.getD r1 (Int.toNat t79) (List.replicate (2 : Nat) (0 : Int))) (0 : Nat) (0 : Int))]) * (8 : Nat) ≤ (140737488355328 : Nat)) ∧
    (p_wave_Hear_8 t1 t21 t22 t23 t78 (IntKind.wrap IntKind.i64 (t79 + (1 : Int))) (List.append r0 [IntKind.wrap IntKind.i64 (List.getD (List.getD r1 (Int.toNat t79) (List.replicate (2 : Nat) (0 : Int))) (1 : Nat) (0 : Int) - List.getD (List.getD r1 (Int.toNat t79) (List.replicate (2 : Nat) (0 : Int))) (0 : Nat) (0 : Int))]) r1) ∧
    (m_wave_Hear_8 t1 t21 t22 t23 t78 (IntKind.wrap IntKind.i64 (t79 + (1 : Int))) (List.append r0 [IntKind.wrap IntKind.i64 (List.getD (List.getD r1 (Int.toNat t79) (List.replicate (2 : Nat) (0 : Int))) (1 : Nat) (0 : Int) - List.getD (List.getD r1 (Int.toNat t79) (List.replicate (2 : Nat) (0 : Int))) (0 : Nat) (0 : Int))]) r1 < m) ∧
    o_wave_Hear_8 t1 t21 t22 t23 t78 (IntKind.wrap IntKind.i64 (t79 + (1 : Int))) (List.append r0 [IntKind.wrap IntKind.i64 (List.getD (List.getD r1 (Int.toNat t79) (List.replicate (2 : Nat) (0 : Int))) (1 : Nat) (0 : Int) - List.getD (List.getD r1 (Int.toNat t79) (List.replicate (2 : Nat) (0 : Int))) (0 : Nat) (0 : Int))]) r1 K)
    (X_wave_Hear_8_0 (t1) (t21) (t22) (t23) (r0) K))
theorem R_wave_Hear_8 (t1 : Int) (t21 : (List (Int × (Int × Unit)))) (t22 : Int) (t23 : Int) (t78 : Int) (t79 : Int) (r0 : (List Int)) (r1 : (List (List Int))) (m : Nat) (K : AExit → St → Prop) : awp E_wave_Hear (loopAt (bodyOf Try.f18) 8) 8 (roundP E_wave_Hear 8 L_wave_Hear_8 m K) (L_wave_Hear_8.abs (t1, t21, t22, t23, t78, t79, ()) (r0, r1, ())) = B_wave_Hear_8 t1 t21 t22 t23 t78 t79 r0 r1 m K := by kernel_rfl
theorem I_wave_Hear_8 (h : ∀ (t1 : Int) (t21 : (List (Int × (Int × Unit)))) (t22 : Int) (t23 : Int) (t78 : Int) (t79 : Int) (r0 : (List Int)) (r1 : (List (List Int))) (K : AExit → St → Prop), p_wave_Hear_8 t1 t21 t22 t23 t78 t79 r0 r1 → o_wave_Hear_8 t1 t21 t22 t23 t78 t79 r0 r1 K → B_wave_Hear_8 t1 t21 t22 t23 t78 t79 r0 r1 (m_wave_Hear_8 t1 t21 t22 t23 t78 t79 r0 r1) K) : LoopOK E_wave_Hear 8 (loopAt (bodyOf Try.f18) 8) L_wave_Hear_8 :=
  fun x y K hp ho => match x, y, hp, ho with | (t1, t21, t22, t23, t78, t79, ()), (r0, r1, ()), hp, ho => (R_wave_Hear_8 t1 t21 t22 t23 t78 t79 r0 r1 (m_wave_Hear_8 t1 t21 t22 t23 t78 t79 r0 r1) K).mpr (h t1 t21 t22 t23 t78 t79 r0 r1 K hp ho)
theorem G_wave_Hear : loopsAll E_wave_Hear (loopList (bodyOf Try.f18) 0) = (LoopOK E_wave_Hear 0 (loopAt (bodyOf Try.f18) 0) L_wave_Hear_0 ∧ LoopOK E_wave_Hear 2 (loopAt (bodyOf Try.f18) 2) L_wave_Hear_2 ∧ LoopOK E_wave_Hear 4 (loopAt (bodyOf Try.f18) 4) L_wave_Hear_4 ∧ LoopOK E_wave_Hear 6 (loopAt (bodyOf Try.f18) 6) L_wave_Hear_6 ∧ LoopOK E_wave_Hear 8 (loopAt (bodyOf Try.f18) 8) L_wave_Hear_8 ∧ True) := by kernel_rfl
theorem envok_wave_Hear (h_wave_check : SumOK Try.prog 77 S_wave_check) (h_wave_bitsOf : SumOK Try.prog 78 S_wave_bitsOf) (h_wave_point : SumOK Try.prog 76 S_wave_point) (h_wave_far : SumOK Try.prog 79 S_wave_far) : EnvOK E_wave_Hear := ⟨sumsOf_ok (List.forall_mem_cons.2 ⟨h_wave_check, (List.forall_mem_cons.2 ⟨h_wave_bitsOf, (List.forall_mem_cons.2 ⟨h_wave_point, (List.forall_mem_cons.2 ⟨h_wave_far, (fun _ h => nomatch h)⟩)⟩)⟩)⟩), follows⟩
theorem whole_wave_Hear (h_wave_check : SumOK Try.prog 77 S_wave_check) (h_wave_bitsOf : SumOK Try.prog 78 S_wave_bitsOf) (h_wave_point : SumOK Try.prog 76 S_wave_point) (h_wave_far : SumOK Try.prog 79 S_wave_far) (l0 : LoopOK E_wave_Hear 0 (loopAt (bodyOf Try.f18) 0) L_wave_Hear_0) (l2 : LoopOK E_wave_Hear 2 (loopAt (bodyOf Try.f18) 2) L_wave_Hear_2) (l4 : LoopOK E_wave_Hear 4 (loopAt (bodyOf Try.f18) 4) L_wave_Hear_4) (l6 : LoopOK E_wave_Hear 6 (loopAt (bodyOf Try.f18) 6) L_wave_Hear_6) (l8 : LoopOK E_wave_Hear 8 (loopAt (bodyOf Try.f18) 8) L_wave_Hear_8) (main : ∀ (a0 : (List (Int × (Int × Unit)))) (a1 : Int), ((↑(List.length a0) : Int) ≤ big) → W_wave_Hear a0 a1) : SumOK Try.prog 18 S_wave_Hear :=
  fun_sound (E := E_wave_Hear) (envok_wave_Hear h_wave_check h_wave_bitsOf h_wave_point h_wave_far) (fn := Try.f18) (c := bodyOf Try.f18) (ts := [(4, none), (5, none)]) S_wave_Hear Try.func18 (body_some (by kernel_rfl)) (by kernel_rfl) (by kernel_rfl) (by kernel_rfl) (G_wave_Hear.mpr ⟨l0, l2, l4, l6, l8, trivial⟩) (fun x hp => match x, hp with | (a0, a1, ()), hp => (V_wave_Hear a0 a1).mpr (main a0 a1 hp))
/-! ### wave_Near -/
def L_wave_Near_0 : Lift.Loop := Lift.Loop.mk (u 1 ++ (.v (.int .i64) :: (u 4 ++ (.sl 0 :: (u 10 ++ (.v (.ro (.pair (.int .i64) (.pair (.int .i64) .unit))) :: (.v (.int .i64) :: (.v (.int .i64) :: (u 27))))))))) [(0, .row (.int .u8))] 1 (fun x y => p_wave_Near_0 x.1 x.2.1 x.2.2.1 x.2.2.2.1 y.1) (fun x y => m_wave_Near_0 x.1 x.2.1 x.2.2.1 x.2.2.2.1 y.1) (fun x y K => o_wave_Near_0 x.1 x.2.1 x.2.2.1 x.2.2.2.1 y.1 K)
def L_wave_Near_2 : Lift.Loop := Lift.Loop.mk (u 1 ++ (.v (.int .i64) :: (u 4 ++ (.sl 0 :: (u 1 ++ (.addr 1 :: (.v (.int .i64) :: (.v (.int .i64) :: (u 6 ++ (.v (.ro (.pair (.int .i64) (.pair (.int .i64) .unit))) :: (.v (.int .i64) :: (.v (.int .i64) :: (u 4 ++ (.v (.int .i64) :: (.v (.int .i64) :: (u 21)))))))))))))))) [(0, .row (.int .u8)), (1, .box (.pair (.int .i64) (.pair (.int .i64) .unit)))] 2 (fun x y => p_wave_Near_2 x.1 x.2.1 x.2.2.1 x.2.2.2.1 x.2.2.2.2.1 x.2.2.2.2.2.1 x.2.2.2.2.2.2.1 x.2.2.2.2.2.2.2.1 y.1 y.2.1) (fun x y => m_wave_Near_2 x.1 x.2.1 x.2.2.1 x.2.2.2.1 x.2.2.2.2.1 x.2.2.2.2.2.1 x.2.2.2.2.2.2.1 x.2.2.2.2.2.2.2.1 y.1 y.2.1) (fun x y K => o_wave_Near_2 x.1 x.2.1 x.2.2.1 x.2.2.2.1 x.2.2.2.2.1 x.2.2.2.2.2.1 x.2.2.2.2.2.2.1 x.2.2.2.2.2.2.2.1 y.1 y.2.1 K)
noncomputable def E_wave_Near : Env := { P := Try.prog, sum := sumsOf [(77, S_wave_check), (78, S_wave_bitsOf), (76, S_wave_point), (79, S_wave_far)], nio := 0, head := fun b => if b = 2 then ([1, 6, 8, 9, 10, 17, 18, 19, 24, 25], []) else if b = 0 then ([1, 6, 17, 18, 19], [(6, (.int .u8))]) else ([], []), after := fun _ => none, leave := fun b => if b = 2 then [1, 4, 5, 6, 10, 17, 18, 19] else if b = 0 then [4, 5, 6] else [], loops := fun b => if b = 2 then some L_wave_Near_2 else if b = 0 then some L_wave_Near_0 else none }
def W_wave_Near (a0 : (List (Int × (Int × Unit)))) (a1 : Int) : Prop := (
  ((↑(List.length a0) : Int) ≤ big) ∧
  condP (!hearB a0 a1)
    (([] = if hearB a0 a1 = true then nearL a0 (Int.toNat a1) else []) ∧
    ((1 : Int) = heardErr a0 a1) ∧
    True)
    ((p_wave_Near_0 a1 a0 (↑(List.length a0) : Int) (0 : Int) []) ∧
    ([] ++ nearL (List.drop (0 : Nat) a0) (Int.toNat a1) = if hearB a0 a1 = true then nearL a0 (Int.toNat a1) else []) ∧
    ((0 : Int) = heardErr a0 a1) ∧
    True))
theorem V_wave_Near (a0 : (List (Int × (Int × Unit)))) (a1 : Int) : awp E_wave_Near (bodyOf Try.f19) 0 (fin Try.prog S_wave_Near (a0, a1, ()) [(4, none), (5, none)] 0) (initSt S_wave_Near.par (a0, a1, ()) 47) = W_wave_Near a0 a1 := by kernel_rfl
def B_wave_Near_0 (t1 : Int) (t17 : (List (Int × (Int × Unit)))) (t18 : Int) (t19 : Int) (r0 : (List Int)) (m : Nat) (K : AExit → St → Prop) : Prop := (
  condP (decide (t19 < t18))
    (((0 : Int) ≤ t19) ∧
    (t19 < (↑(List.length t17) : Int)) ∧
    ((0 : Int) ≤ t1) ∧
    (p_wave_Near_2 t1 (9223372036854775807 : Int) (0 : Int) t17 t18 t19 (IntKind.wrap IntKind.i64 ((1 : Int) * (2 : Int) ^ min (Int.toNat t1) (IntKind.bits IntKind.i64))) (0 : Int) r0 (List.getD t17 (Int.toNat t19) ((0 : Int), (0 : Int), ()))) ∧
    ((0 : Int) ≤ (↑(Prod.snd (bestN (List.getD t17 (Int.toNat t19) ((0 : Int), (0 : Int), ())) (Int.toNat t1) ((2 : Nat) ^ Int.toNat t1))) : Int) ∧ (↑(Prod.snd (bestN (List.getD t17 (Int.toNat t19) ((0 : Int), (0 : Int), ())) (Int.toNat t1) ((2 : Nat) ^ Int.toNat t1))) : Int) ≤ (64 : Int) ∧ (0 : Int) ≤ t1 ∧ t1 ≤ (6 : Int)) ∧
    ((List.length r0 + List.length (outS (Int.toNat t1) (Int.toNat (↑(Prod.snd (bestN (List.getD t17 (Int.toNat t19) ((0 : Int), (0 : Int), ())) (Int.toNat t1) ((2 : Nat) ^ Int.toNat t1))) : Int)))) * (1 : Nat) ≤ (140737488355328 : Nat)) ∧
    (p_wave_Near_0 t1 t17 t18 (IntKind.wrap IntKind.i64 (t19 + (1 : Int))) (List.append r0 (outS (Int.toNat t1) (Int.toNat (↑(Prod.snd (bestN (List.getD t17 (Int.toNat t19) ((0 : Int), (0 : Int), ())) (Int.toNat t1) ((2 : Nat) ^ Int.toNat t1))) : Int))))) ∧
    (m_wave_Near_0 t1 t17 t18 (IntKind.wrap IntKind.i64 (t19 + (1 : Int))) (List.append r0 (outS (Int.toNat t1) (Int.toNat (↑(Prod.snd (bestN (List.getD t17 (Int.toNat t19) ((0 : Int), (0 : Int), ())) (Int.toNat t1) ((2 : Nat) ^ Int.toNat t1))) : Int)))) < m) ∧
    o_wave_Near_0 t1 t17 t18 (IntKind.wrap IntKind.i64 (t19 + (1 : Int))) (List.append r0 (outS (Int.toNat t1) (Int.toNat (↑(Prod.snd (bestN (List.getD t17 (Int.toNat t19) ((0 : Int), (0 : Int), ())) (Int.toNat t1) ((2 : Nat) ^ Int.toNat t1))) : Int)))) K)
    (X_wave_Near_0_0 (r0) K))
theorem R_wave_Near_0 (t1 : Int) (t17 : (List (Int × (Int × Unit)))) (t18 : Int) (t19 : Int) (r0 : (List Int)) (m : Nat) (K : AExit → St → Prop) : awp E_wave_Near (loopAt (bodyOf Try.f19) 0) 0 (roundP E_wave_Near 0 L_wave_Near_0 m K) (L_wave_Near_0.abs (t1, t17, t18, t19, ()) (r0, ())) = B_wave_Near_0 t1 t17 t18 t19 r0 m K := by kernel_rfl
theorem I_wave_Near_0 (h : ∀ (t1 : Int) (t17 : (List (Int × (Int × Unit)))) (t18 : Int) (t19 : Int) (r0 : (List Int)) (K : AExit → St → Prop), p_wave_Near_0 t1 t17 t18 t19 r0 → o_wave_Near_0 t1 t17 t18 t19 r0 K → B_wave_Near_0 t1 t17 t18 t19 r0 (m_wave_Near_0 t1 t17 t18 t19 r0) K) : LoopOK E_wave_Near 0 (loopAt (bodyOf Try.f19) 0) L_wave_Near_0 :=
  fun x y K hp ho => match x, y, hp, ho with | (t1, t17, t18, t19, ()), (r0, ()), hp, ho => (R_wave_Near_0 t1 t17 t18 t19 r0 (m_wave_Near_0 t1 t17 t18 t19 r0) K).mpr (h t1 t17 t18 t19 r0 K hp ho)
def B_wave_Near_2 (t1 : Int) (t9 : Int) (t10 : Int) (t17 : (List (Int × (Int × Unit)))) (t18 : Int) (t19 : Int) (t24 : Int) (t25 : Int) (r0 : (List Int)) (r1 : (Int × (Int × Unit))) (m : Nat) (K : AExit → St → Prop) : Prop := (
  condP (decide (t25 < t24))
    (((0 : Int) ≤ t25 ∧ t25 ≤ (64 : Int) ∧ (0 : Int) ≤ t1 ∧ t1 ≤ (6 : Int)) ∧
    (Bits (outS (Int.toNat t1) (Int.toNat t25)) ∧ (List.length (outS (Int.toNat t1) (Int.toNat t25)) = (2 : Nat) ∨ List.length (outS (Int.toNat t1) (Int.toNat t25)) = (4 : Nat) ∨ List.length (outS (Int.toNat t1) (Int.toNat t25)) = (6 : Nat))) ∧
    (okPt r1 = true ∧ okPt (pointL (outS (Int.toNat t1) (Int.toNat t25))) = true) ∧
    condP (decide (far r1 (pointL (outS (Int.toNat t1) (Int.toNat t25))) < t9))
      ((p_wave_Near_2 t1 (far r1 (pointL (outS (Int.toNat t1) (Int.toNat t25)))) t25 t17 t18 t19 t24 (IntKind.wrap IntKind.i64 (t25 + (1 : Int))) r0 r1) ∧
      (m_wave_Near_2 t1 (far r1 (pointL (outS (Int.toNat t1) (Int.toNat t25)))) t25 t17 t18 t19 t24 (IntKind.wrap IntKind.i64 (t25 + (1 : Int))) r0 r1 < m) ∧
      o_wave_Near_2 t1 (far r1 (pointL (outS (Int.toNat t1) (Int.toNat t25)))) t25 t17 t18 t19 t24 (IntKind.wrap IntKind.i64 (t25 + (1 : Int))) r0 r1 K)
      ((p_wave_Near_2 t1 t9 t10 t17 t18 t19 t24 (IntKind.wrap IntKind.i64 (t25 + (1 : Int))) r0 r1) ∧
      (m_wave_Near_2 t1 t9 t10 t17 t18 t19 t24 (IntKind.wrap IntKind.i64 (t25 + (1 : Int))) r0 r1 < m) ∧
      o_wave_Near_2 t1 t9 t10 t17 t18 t19 t24 (IntKind.wrap IntKind.i64 (t25 + (1 : Int))) r0 r1 K))
    (X_wave_Near_2_0 (t1) (t10) (t17) (t18) (t19) (r0) K))
theorem R_wave_Near_2 (t1 : Int) (t9 : Int) (t10 : Int) (t17 : (List (Int × (Int × Unit)))) (t18 : Int) (t19 : Int) (t24 : Int) (t25 : Int) (r0 : (List Int)) (r1 : (Int × (Int × Unit))) (m : Nat) (K : AExit → St → Prop) : awp E_wave_Near (loopAt (bodyOf Try.f19) 2) 2 (roundP E_wave_Near 2 L_wave_Near_2 m K) (L_wave_Near_2.abs (t1, t9, t10, t17, t18, t19, t24, t25, ()) (r0, r1, ())) = B_wave_Near_2 t1 t9 t10 t17 t18 t19 t24 t25 r0 r1 m K := by kernel_rfl
theorem I_wave_Near_2 (h : ∀ (t1 : Int) (t9 : Int) (t10 : Int) (t17 : (List (Int × (Int × Unit)))) (t18 : Int) (t19 : Int) (t24 : Int) (t25 : Int) (r0 : (List Int)) (r1 : (Int × (Int × Unit))) (K : AExit → St → Prop), p_wave_Near_2 t1 t9 t10 t17 t18 t19 t24 t25 r0 r1 → o_wave_Near_2 t1 t9 t10 t17 t18 t19 t24 t25 r0 r1 K → B_wave_Near_2 t1 t9 t10 t17 t18 t19 t24 t25 r0 r1 (m_wave_Near_2 t1 t9 t10 t17 t18 t19 t24 t25 r0 r1) K) : LoopOK E_wave_Near 2 (loopAt (bodyOf Try.f19) 2) L_wave_Near_2 :=
  fun x y K hp ho => match x, y, hp, ho with | (t1, t9, t10, t17, t18, t19, t24, t25, ()), (r0, r1, ()), hp, ho => (R_wave_Near_2 t1 t9 t10 t17 t18 t19 t24 t25 r0 r1 (m_wave_Near_2 t1 t9 t10 t17 t18 t19 t24 t25 r0 r1) K).mpr (h t1 t9 t10 t17 t18 t19 t24 t25 r0 r1 K hp ho)
theorem G_wave_Near : loopsAll E_wave_Near (loopList (bodyOf Try.f19) 0) = (LoopOK E_wave_Near 0 (loopAt (bodyOf Try.f19) 0) L_wave_Near_0 ∧ LoopOK E_wave_Near 2 (loopAt (bodyOf Try.f19) 2) L_wave_Near_2 ∧ True) := by kernel_rfl
theorem envok_wave_Near (h_wave_check : SumOK Try.prog 77 S_wave_check) (h_wave_bitsOf : SumOK Try.prog 78 S_wave_bitsOf) (h_wave_point : SumOK Try.prog 76 S_wave_point) (h_wave_far : SumOK Try.prog 79 S_wave_far) : EnvOK E_wave_Near := ⟨sumsOf_ok (List.forall_mem_cons.2 ⟨h_wave_check, (List.forall_mem_cons.2 ⟨h_wave_bitsOf, (List.forall_mem_cons.2 ⟨h_wave_point, (List.forall_mem_cons.2 ⟨h_wave_far, (fun _ h => nomatch h)⟩)⟩)⟩)⟩), follows⟩
theorem whole_wave_Near (h_wave_check : SumOK Try.prog 77 S_wave_check) (h_wave_bitsOf : SumOK Try.prog 78 S_wave_bitsOf) (h_wave_point : SumOK Try.prog 76 S_wave_point) (h_wave_far : SumOK Try.prog 79 S_wave_far) (l0 : LoopOK E_wave_Near 0 (loopAt (bodyOf Try.f19) 0) L_wave_Near_0) (l2 : LoopOK E_wave_Near 2 (loopAt (bodyOf Try.f19) 2) L_wave_Near_2) (main : ∀ (a0 : (List (Int × (Int × Unit)))) (a1 : Int), ((↑(List.length a0) : Int) ≤ big) → W_wave_Near a0 a1) : SumOK Try.prog 19 S_wave_Near :=
  fun_sound (E := E_wave_Near) (envok_wave_Near h_wave_check h_wave_bitsOf h_wave_point h_wave_far) (fn := Try.f19) (c := bodyOf Try.f19) (ts := [(4, none), (5, none)]) S_wave_Near Try.func19 (body_some (by kernel_rfl)) (by kernel_rfl) (by kernel_rfl) (by kernel_rfl) (G_wave_Near.mpr ⟨l0, l2, trivial⟩) (fun x hp => match x, hp with | (a0, a1, ()), hp => (V_wave_Near a0 a1).mpr (main a0 a1 hp))
/-! ### R_Sides -/
def L_R_Sides_0 : Lift.Loop := Lift.Loop.mk (.v (.ro (.int .u8)) :: (.v (.int .i64) :: (u 3 ++ (.v (.int .i64) :: (.v (.int .i64) :: (u 34)))))) [] 0 (fun x y => p_R_Sides_0 x.1 x.2.1 x.2.2.1 x.2.2.2.1) (fun x y => m_R_Sides_0 x.1 x.2.1 x.2.2.1 x.2.2.2.1) (fun x y K => o_R_Sides_0 x.1 x.2.1 x.2.2.1 x.2.2.2.1 K)
noncomputable def E_R_Sides : Env := { P := Try.prog, sum := sumsOf [], nio := 0, head := fun b => if b = 0 then ([0, 1, 5, 6], []) else ([], []), after := fun _ => none, leave := fun b => if b = 0 then [4, 5] else [], loops := fun b => if b = 0 then some L_R_Sides_0 else none }
def W_R_Sides (a0 : (List Int)) (a1 : Int) : Prop := (
  (p_R_Sides_0 a0 a1 (0 : Int) (IntKind.wrap IntKind.i64 (IntKind.wrap IntKind.i64 ((↑(List.length a0) : Int) - (2 : Int)) + a1))) ∧
  (sideL a0 (Int.toNat a1) = sideL a0 (Int.toNat a1)) ∧
  True)
theorem V_R_Sides (a0 : (List Int)) (a1 : Int) : awp E_R_Sides (bodyOf Try.f80) 0 (fin Try.prog S_R_Sides (a0, a1, ()) [(4, none)] 0) (initSt S_R_Sides.par (a0, a1, ()) 41) = W_R_Sides a0 a1 := by kernel_rfl
def B_R_Sides_0 (t0 : (List Int)) (t1 : Int) (t5 : Int) (t6 : Int) (m : Nat) (K : AExit → St → Prop) : Prop := (
  condP (decide (t6 ≥ (0 : Int)))
    (((2 : Int) ≠ (0 : Int)) ∧
    ((0 : Int) ≤ IntKind.wrap IntKind.i64 (Int.tdiv (IntKind.wrap IntKind.i64 (IntKind.wrap IntKind.i64 (IntKind.wrap IntKind.i64 ((↑(List.length t0) : Int) - (2 : Int)) - t6) + t1)) (2 : Int))) ∧
    (IntKind.wrap IntKind.i64 (Int.tdiv (IntKind.wrap IntKind.i64 (IntKind.wrap IntKind.i64 (IntKind.wrap IntKind.i64 ((↑(List.length t0) : Int) - (2 : Int)) - t6) + t1)) (2 : Int)) < (↑(List.length [(0 : Int), (2 : Int), (4 : Int)]) : Int)) ∧
    condP (List.getD [(0 : Int), (2 : Int), (4 : Int)] (Int.toNat (IntKind.wrap IntKind.i64 (Int.tdiv (IntKind.wrap IntKind.i64 (IntKind.wrap IntKind.i64 (IntKind.wrap IntKind.i64 ((↑(List.length t0) : Int) - (2 : Int)) - t6) + t1)) (2 : Int)))) (0 : Int) == (0 : Int))
      (((0 : Int) ≤ t6) ∧
      (t6 < (↑(List.length t0) : Int)) ∧
      condP (List.getD t0 (Int.toNat t6) (0 : Int) == (1 : Int))
        ((p_R_Sides_0 t0 t1 (IntKind.wrap IntKind.i64 ((0 : Int) - (1 : Int))) (IntKind.wrap IntKind.i64 (t6 - (2 : Int)))) ∧
        (m_R_Sides_0 t0 t1 (IntKind.wrap IntKind.i64 ((0 : Int) - (1 : Int))) (IntKind.wrap IntKind.i64 (t6 - (2 : Int))) < m) ∧
        o_R_Sides_0 t0 t1 (IntKind.wrap IntKind.i64 ((0 : Int) - (1 : Int))) (IntKind.wrap IntKind.i64 (t6 - (2 : Int))) K)
        ((p_R_Sides_0 t0 t1 (1 : Int) (IntKind.wrap IntKind.i64 (t6 - (2 : Int)))) ∧
        (m_R_Sides_0 t0 t1 (1 : Int) (IntKind.wrap IntKind.i64 (t6 - (2 : Int))) < m) ∧
        o_R_Sides_0 t0 t1 (1 : Int) (IntKind.wrap IntKind.i64 (t6 - (2 : Int))) K))
      (((0 : Int) ≤ t6) ∧
      (t6 < (↑(List.length t0) : Int)) ∧
      condP (List.getD t0 (Int.toNat t6) (0 : Int) == (1 : Int))
        ((p_R_Sides_0 t0 t1 (IntKind.wrap IntKind.i64 ((0 : Int) - IntKind.wrap IntKind.i64 (List.getD [(0 : Int), (2 : Int), (4 : Int)] (Int.toNat (IntKind.wrap IntKind.i64 (Int.tdiv (IntKind.wrap IntKind.i64 (IntKind.wrap IntKind.i64 (IntKind.wrap IntKind.i64 ((↑(List.length t0) : Int) - (2 : Int)) - t6) + t1)) (2 : Int)))) (0 : Int) - t5))) (IntKind.wrap IntKind.i64 (t6 - (2 : Int)))) ∧
        (m_R_Sides_0 t0 t1 (IntKind.wrap IntKind.i64 ((0 : Int) - IntKind.wrap IntKind.i64 (List.getD [(0 : Int), (2 : Int), (4 : Int)] (Int.toNat (IntKind.wrap IntKind.i64 (Int.tdiv (IntKind.wrap IntKind.i64 (IntKind.wrap IntKind.i64 (IntKind.wrap IntKind.i64 ((↑(List.length t0) : Int) - (2 : Int)) - t6) + t1)) (2 : Int)))) (0 : Int) - t5))) (IntKind.wrap IntKind.i64 (t6 - (2 : Int))) < m) ∧
        o_R_Sides_0 t0 t1 (IntKind.wrap IntKind.i64 ((0 : Int) - IntKind.wrap IntKind.i64 (List.getD [(0 : Int), (2 : Int), (4 : Int)] (Int.toNat (IntKind.wrap IntKind.i64 (Int.tdiv (IntKind.wrap IntKind.i64 (IntKind.wrap IntKind.i64 (IntKind.wrap IntKind.i64 ((↑(List.length t0) : Int) - (2 : Int)) - t6) + t1)) (2 : Int)))) (0 : Int) - t5))) (IntKind.wrap IntKind.i64 (t6 - (2 : Int))) K)
        ((p_R_Sides_0 t0 t1 (IntKind.wrap IntKind.i64 (List.getD [(0 : Int), (2 : Int), (4 : Int)] (Int.toNat (IntKind.wrap IntKind.i64 (Int.tdiv (IntKind.wrap IntKind.i64 (IntKind.wrap IntKind.i64 (IntKind.wrap IntKind.i64 ((↑(List.length t0) : Int) - (2 : Int)) - t6) + t1)) (2 : Int)))) (0 : Int) - t5)) (IntKind.wrap IntKind.i64 (t6 - (2 : Int)))) ∧
        (m_R_Sides_0 t0 t1 (IntKind.wrap IntKind.i64 (List.getD [(0 : Int), (2 : Int), (4 : Int)] (Int.toNat (IntKind.wrap IntKind.i64 (Int.tdiv (IntKind.wrap IntKind.i64 (IntKind.wrap IntKind.i64 (IntKind.wrap IntKind.i64 ((↑(List.length t0) : Int) - (2 : Int)) - t6) + t1)) (2 : Int)))) (0 : Int) - t5)) (IntKind.wrap IntKind.i64 (t6 - (2 : Int))) < m) ∧
        o_R_Sides_0 t0 t1 (IntKind.wrap IntKind.i64 (List.getD [(0 : Int), (2 : Int), (4 : Int)] (Int.toNat (IntKind.wrap IntKind.i64 (Int.tdiv (IntKind.wrap IntKind.i64 (IntKind.wrap IntKind.i64 (IntKind.wrap IntKind.i64 ((↑(List.length t0) : Int) - (2 : Int)) - t6) + t1)) (2 : Int)))) (0 : Int) - t5)) (IntKind.wrap IntKind.i64 (t6 - (2 : Int))) K)))
    (X_R_Sides_0_0 (t5) K))
theorem R_R_Sides_0 (t0 : (List Int)) (t1 : Int) (t5 : Int) (t6 : Int) (m : Nat) (K : AExit → St → Prop) : awp E_R_Sides (loopAt (bodyOf Try.f80) 0) 0 (roundP E_R_Sides 0 L_R_Sides_0 m K) (L_R_Sides_0.abs (t0, t1, t5, t6, ()) (())) = B_R_Sides_0 t0 t1 t5 t6 m K := by kernel_rfl
theorem I_R_Sides_0 (h : ∀ (t0 : (List Int)) (t1 : Int) (t5 : Int) (t6 : Int) (K : AExit → St → Prop), p_R_Sides_0 t0 t1 t5 t6 → o_R_Sides_0 t0 t1 t5 t6 K → B_R_Sides_0 t0 t1 t5 t6 (m_R_Sides_0 t0 t1 t5 t6) K) : LoopOK E_R_Sides 0 (loopAt (bodyOf Try.f80) 0) L_R_Sides_0 :=
  fun x y K hp ho => match x, y, hp, ho with | (t0, t1, t5, t6, ()), (), hp, ho => (R_R_Sides_0 t0 t1 t5 t6 (m_R_Sides_0 t0 t1 t5 t6) K).mpr (h t0 t1 t5 t6 K hp ho)
theorem G_R_Sides : loopsAll E_R_Sides (loopList (bodyOf Try.f80) 0) = (LoopOK E_R_Sides 0 (loopAt (bodyOf Try.f80) 0) L_R_Sides_0 ∧ True) := by kernel_rfl
theorem envok_R_Sides  : EnvOK E_R_Sides := ⟨sumsOf_ok (fun _ h => nomatch h), follows⟩
theorem whole_R_Sides  (l0 : LoopOK E_R_Sides 0 (loopAt (bodyOf Try.f80) 0) L_R_Sides_0) (main : ∀ (a0 : (List Int)) (a1 : Int), (Bits a0 ∧ (List.length a0 = (2 : Nat) ∨ List.length a0 = (4 : Nat) ∨ List.length a0 = (6 : Nat)) ∧ (0 : Int) ≤ a1 ∧ a1 ≤ (1 : Int)) → W_R_Sides a0 a1) : SumOK Try.prog 80 S_R_Sides :=
  fun_sound (E := E_R_Sides) (envok_R_Sides ) (fn := Try.f80) (c := bodyOf Try.f80) (ts := [(4, none)]) S_R_Sides Try.func80 (body_some (by kernel_rfl)) (by kernel_rfl) (by kernel_rfl) (by kernel_rfl) (G_R_Sides.mpr ⟨l0, trivial⟩) (fun x hp => match x, hp with | (a0, a1, ()), hp => (V_R_Sides a0 a1).mpr (main a0 a1 hp))
/-! ### R_SamePoints -/
def L_R_SamePoints_0 : Lift.Loop := Lift.Loop.mk (.v (.ro (.pair (.int .i64) (.pair (.int .i64) .unit))) :: (.v (.ro (.pair (.int .i64) (.pair (.int .i64) .unit))) :: (u 3 ++ (.v (.int .i64) :: (u 20))))) [] 0 (fun x y => p_R_SamePoints_0 x.1 x.2.1 x.2.2.1) (fun x y => m_R_SamePoints_0 x.1 x.2.1 x.2.2.1) (fun x y K => o_R_SamePoints_0 x.1 x.2.1 x.2.2.1 K)
noncomputable def E_R_SamePoints : Env := { P := Try.prog, sum := sumsOf [], nio := 0, head := fun b => if b = 0 then ([0, 1, 5], []) else ([], []), after := fun _ => none, leave := fun b => if b = 0 then [4] else [], loops := fun b => if b = 0 then some L_R_SamePoints_0 else none }
def W_R_SamePoints (a0 : (List (Int × (Int × Unit)))) (a1 : (List (Int × (Int × Unit)))) : Prop := (
  condP ((↑(List.length a0) : Int) != (↑(List.length a1) : Int))
    ((false = decide (a0 = a1)) ∧
    True)
    ((p_R_SamePoints_0 a0 a1 (0 : Int)) ∧
    condP (decide (List.drop (0 : Nat) a0 = List.drop (0 : Nat) a1))
      ((true = decide (a0 = a1)) ∧
      True)
      ((false = decide (a0 = a1)) ∧
      True)))
theorem V_R_SamePoints (a0 : (List (Int × (Int × Unit)))) (a1 : (List (Int × (Int × Unit)))) : awp E_R_SamePoints (bodyOf Try.f16) 0 (fin Try.prog S_R_SamePoints (a0, a1, ()) [(4, none)] 0) (initSt S_R_SamePoints.par (a0, a1, ()) 26) = W_R_SamePoints a0 a1 := by kernel_rfl
def B_R_SamePoints_0 (t0 : (List (Int × (Int × Unit)))) (t1 : (List (Int × (Int × Unit)))) (t5 : Int) (m : Nat) (K : AExit → St → Prop) : Prop := (
  condP (decide (t5 < (↑(List.length t0) : Int)))
    (((0 : Int) ≤ t5) ∧
    (t5 < (↑(List.length t0) : Int)) ∧
    ((0 : Int) ≤ t5) ∧
    (t5 < (↑(List.length t1) : Int)) ∧
    condP (!(Prod.fst (List.getD t0 (Int.toNat t5) ((0 : Int), (0 : Int), ())) == Prod.fst (List.getD t1 (Int.toNat t5) ((0 : Int), (0 : Int), ())) && (Prod.fst (Prod.snd (List.getD t0 (Int.toNat t5) ((0 : Int), (0 : Int), ()))) == Prod.fst (Prod.snd (List.getD t1 (Int.toNat t5) ((0 : Int), (0 : Int), ()))) && true)))
      (X_R_SamePoints_0_0 (false) K)
      ((p_R_SamePoints_0 t0 t1 (IntKind.wrap IntKind.i64 (t5 + (1 : Int)))) ∧
      (m_R_SamePoints_0 t0 t1 (IntKind.wrap IntKind.i64 (t5 + (1 : Int))) < m) ∧
      o_R_SamePoints_0 t0 t1 (IntKind.wrap IntKind.i64 (t5 + (1 : Int))) K))
    (X_R_SamePoints_0_1  K))
theorem R_R_SamePoints_0 (t0 : (List (Int × (Int × Unit)))) (t1 : (List (Int × (Int × Unit)))) (t5 : Int) (m : Nat) (K : AExit → St → Prop) : awp E_R_SamePoints (loopAt (bodyOf Try.f16) 0) 0 (roundP E_R_SamePoints 0 L_R_SamePoints_0 m K) (L_R_SamePoints_0.abs (t0, t1, t5, ()) (())) = B_R_SamePoints_0 t0 t1 t5 m K := by kernel_rfl
theorem I_R_SamePoints_0 (h : ∀ (t0 : (List (Int × (Int × Unit)))) (t1 : (List (Int × (Int × Unit)))) (t5 : Int) (K : AExit → St → Prop), p_R_SamePoints_0 t0 t1 t5 → o_R_SamePoints_0 t0 t1 t5 K → B_R_SamePoints_0 t0 t1 t5 (m_R_SamePoints_0 t0 t1 t5) K) : LoopOK E_R_SamePoints 0 (loopAt (bodyOf Try.f16) 0) L_R_SamePoints_0 :=
  fun x y K hp ho => match x, y, hp, ho with | (t0, t1, t5, ()), (), hp, ho => (R_R_SamePoints_0 t0 t1 t5 (m_R_SamePoints_0 t0 t1 t5) K).mpr (h t0 t1 t5 K hp ho)
theorem G_R_SamePoints : loopsAll E_R_SamePoints (loopList (bodyOf Try.f16) 0) = (LoopOK E_R_SamePoints 0 (loopAt (bodyOf Try.f16) 0) L_R_SamePoints_0 ∧ True) := by kernel_rfl
theorem envok_R_SamePoints  : EnvOK E_R_SamePoints := ⟨sumsOf_ok (fun _ h => nomatch h), follows⟩
theorem whole_R_SamePoints  (l0 : LoopOK E_R_SamePoints 0 (loopAt (bodyOf Try.f16) 0) L_R_SamePoints_0) (main : ∀ (a0 : (List (Int × (Int × Unit)))) (a1 : (List (Int × (Int × Unit)))), ((↑(List.length a0) : Int) ≤ big) → W_R_SamePoints a0 a1) : SumOK Try.prog 16 S_R_SamePoints :=
  fun_sound (E := E_R_SamePoints) (envok_R_SamePoints ) (fn := Try.f16) (c := bodyOf Try.f16) (ts := [(4, none)]) S_R_SamePoints Try.func16 (body_some (by kernel_rfl)) (by kernel_rfl) (by kernel_rfl) (by kernel_rfl) (G_R_SamePoints.mpr ⟨l0, trivial⟩) (fun x hp => match x, hp with | (a0, a1, ()), hp => (V_R_SamePoints a0 a1).mpr (main a0 a1 hp))
/-! ### R_Sent -/
def L_R_Sent_0 : Lift.Loop := Lift.Loop.mk (.v (.ro (.int .u8)) :: (.v (.int .i64) :: (u 3 ++ (.sl 0 :: (.sl 1 :: (.sl 2 :: (.v (.int .i64) :: (u 38)))))))) [(0, .row (.ro (.int .u8))), (1, .row (.pair (.int .i64) (.pair (.int .i64) .unit))), (2, .row (.pair (.int .i64) (.pair (.int .i64) .unit)))] 3 (fun x y => p_R_Sent_0 x.1 x.2.1 x.2.2.1 y.1 y.2.1 y.2.2.1) (fun x y => m_R_Sent_0 x.1 x.2.1 x.2.2.1 y.1 y.2.1 y.2.2.1) (fun x y K => o_R_Sent_0 x.1 x.2.1 x.2.2.1 y.1 y.2.1 y.2.2.1 K)
def L_R_Sent_2 : Lift.Loop := Lift.Loop.mk (.v (.ro (.int .u8)) :: (.v (.int .i64) :: (u 3 ++ (.sl 0 :: (.sl 1 :: (.sl 2 :: (.v (.int .i64) :: (.v (.int .i64) :: (u 37))))))))) [(0, .row (.ro (.int .u8))), (1, .row (.pair (.int .i64) (.pair (.int .i64) .unit))), (2, .row (.pair (.int .i64) (.pair (.int .i64) .unit)))] 3 (fun x y => p_R_Sent_2 x.1 x.2.1 x.2.2.1 x.2.2.2.1 y.1 y.2.1 y.2.2.1) (fun x y => m_R_Sent_2 x.1 x.2.1 x.2.2.1 x.2.2.2.1 y.1 y.2.1 y.2.2.1) (fun x y K => o_R_Sent_2 x.1 x.2.1 x.2.2.1 x.2.2.2.1 y.1 y.2.1 y.2.2.1 K)
noncomputable def E_R_Sent : Env := { P := Try.prog, sum := sumsOf [(26, S_R_Constellation), (23, S_R_SameBits)], nio := 0, head := fun b => if b = 2 then ([0, 1, 5, 6, 7, 8, 9], []) else if b = 0 then ([0, 1, 5, 6, 7, 8], [(7, (.pair (.int .i64) (.pair (.int .i64) .unit)))]) else ([], []), after := fun _ => none, leave := fun b => if b = 2 then [0, 1, 4, 5, 6, 7, 8] else if b = 0 then [4, 7] else [], loops := fun b => if b = 2 then some L_R_Sent_2 else if b = 0 then some L_R_Sent_0 else none }
def W_R_Sent (a0 : (List Int)) (a1 : Int) : Prop := (
  (goodO a1) ∧
  (p_R_Sent_0 a0 a1 (0 : Int) (listsC (Int.toNat a1)) (pointsC (Int.toNat a1)) []) ∧
  ([] ++ sendF (Int.toNat a1) ((List.length a0 - (0 : Nat)) / Int.toNat a1) (List.drop (0 : Nat) a0) = sendL a0 a1) ∧
  True)
theorem V_R_Sent (a0 : (List Int)) (a1 : Int) : awp E_R_Sent (bodyOf Try.f17) 0 (fin Try.prog S_R_Sent (a0, a1, ()) [(4, none)] 0) (initSt S_R_Sent.par (a0, a1, ()) 47) = W_R_Sent a0 a1 := by kernel_rfl
def B_R_Sent_0 (t0 : (List Int)) (t1 : Int) (t8 : Int) (r0 : (List (List Int))) (r1 : (List (Int × (Int × Unit)))) (r2 : (List (Int × (Int × Unit)))) (m : Nat) (K : AExit → St → Prop) : Prop := (
  condP (decide (t8 < (↑(List.length t0) : Int)))
    ((p_R_Sent_2 t0 t1 t8 (0 : Int) r0 r1 r2) ∧
    (p_R_Sent_0 t0 t1 (IntKind.wrap IntKind.i64 (t8 + t1)) r0 r1 (r2 ++ hits (List.take (Int.toNat t1) (List.drop (Int.toNat t8) t0)) (List.drop (0 : Nat) r0))) ∧
    (m_R_Sent_0 t0 t1 (IntKind.wrap IntKind.i64 (t8 + t1)) r0 r1 (r2 ++ hits (List.take (Int.toNat t1) (List.drop (Int.toNat t8) t0)) (List.drop (0 : Nat) r0)) < m) ∧
    o_R_Sent_0 t0 t1 (IntKind.wrap IntKind.i64 (t8 + t1)) r0 r1 (r2 ++ hits (List.take (Int.toNat t1) (List.drop (Int.toNat t8) t0)) (List.drop (0 : Nat) r0)) K)
    (X_R_Sent_0_0 (r2) K))
theorem R_R_Sent_0 (t0 : (List Int)) (t1 : Int) (t8 : Int) (r0 : (List (List Int))) (r1 : (List (Int × (Int × Unit)))) (r2 : (List (Int × (Int × Unit)))) (m : Nat) (K : AExit → St → Prop) : awp E_R_Sent (loopAt (bodyOf Try.f17) 0) 0 (roundP E_R_Sent 0 L_R_Sent_0 m K) (L_R_Sent_0.abs (t0, t1, t8, ()) (r0, r1, r2, ())) = B_R_Sent_0 t0 t1 t8 r0 r1 r2 m K := by kernel_rfl
theorem I_R_Sent_0 (h : ∀ (t0 : (List Int)) (t1 : Int) (t8 : Int) (r0 : (List (List Int))) (r1 : (List (Int × (Int × Unit)))) (r2 : (List (Int × (Int × Unit)))) (K : AExit → St → Prop), p_R_Sent_0 t0 t1 t8 r0 r1 r2 → o_R_Sent_0 t0 t1 t8 r0 r1 r2 K → B_R_Sent_0 t0 t1 t8 r0 r1 r2 (m_R_Sent_0 t0 t1 t8 r0 r1 r2) K) : LoopOK E_R_Sent 0 (loopAt (bodyOf Try.f17) 0) L_R_Sent_0 :=
  fun x y K hp ho => match x, y, hp, ho with | (t0, t1, t8, ()), (r0, r1, r2, ()), hp, ho => (R_R_Sent_0 t0 t1 t8 r0 r1 r2 (m_R_Sent_0 t0 t1 t8 r0 r1 r2) K).mpr (h t0 t1 t8 r0 r1 r2 K hp ho)
def B_R_Sent_2 (t0 : (List Int)) (t1 : Int) (t8 : Int) (t9 : Int) (r0 : (List (List Int))) (r1 : (List (Int × (Int × Unit)))) (r2 : (List (Int × (Int × Unit)))) (m : Nat) (K : AExit → St → Prop) : Prop := (
  condP (decide (t9 < (↑(List.length r0) : Int)))
    (((0 : Int) ≤ t9) ∧
    (t9 < (↑(List.length r0) : Int)) ∧
    ((0 : Int) ≤ t8) ∧
    (t8 ≤ IntKind.wrap IntKind.i64 (t8 + t1)) ∧
    (IntKind.wrap IntKind.i64 (t8 + t1) ≤ (↑(List.length t0) : Int)) ∧
    ((↑(List.length (List.getD r0 (Int.toNat t9) [])) : Int) ≤ big) ∧
    condP (decide (List.getD r0 (Int.toNat t9) [] = cutL t0 (some t8) (some (IntKind.wrap IntKind.i64 (t8 + t1)))))
      (((0 : Int) ≤ t9) ∧
      (t9 < (↑(List.length r1) : Int)) ∧
      ((List.length r2 + List.length [List.getD r1 (Int.toNat t9) ((0 : Int), (0 : Int), ())]) * (16 : Nat) ≤ (140737488355328 : Nat)) ∧
      (p_R_Sent_2 t0 t1 t8 (IntKind.wrap IntKind.i64 (t9 + (1 : Int))) r0 r1 (List.append r2 [List.getD r1 (Int.toNat t9) ((0 : Int), (0 : Int), ())])) ∧
      (m_R_Sent_2 t0 t1 t8 (IntKind.wrap IntKind.i64 (t9 + (1 : Int))) r0 r1 (List.append r2 [List.getD r1 (Int.toNat t9) ((0 : Int), (0 : Int), ())]) < m) ∧
      o_R_Sent_2 t0 t1 t8 (IntKind.wrap IntKind.i64 (t9 + (1 : Int))) r0 r1 (List.append r2 [List.getD r1 (Int.toNat t9) ((0 : Int), (0 : Int), ())]) K)
      ((p_R_Sent_2 t0 t1 t8 (IntKind.wrap IntKind.i64 (t9 + (1 : Int))) r0 r1 r2) ∧
      (m_R_Sent_2 t0 t1 t8 (IntKind.wrap IntKind.i64 (t9 + (1 : Int))) r0 r1 r2 < m) ∧
      o_R_Sent_2 t0 t1 t8 (IntKind.wrap IntKind.i64 (t9 + (1 : Int))) r0 r1 r2 K))
    (X_R_Sent_2_0 (t0) (t1) (t8) (r0) (r1) (r2) K))
theorem R_R_Sent_2 (t0 : (List Int)) (t1 : Int) (t8 : Int) (t9 : Int) (r0 : (List (List Int))) (r1 : (List (Int × (Int × Unit)))) (r2 : (List (Int × (Int × Unit)))) (m : Nat) (K : AExit → St → Prop) : awp E_R_Sent (loopAt (bodyOf Try.f17) 2) 2 (roundP E_R_Sent 2 L_R_Sent_2 m K) (L_R_Sent_2.abs (t0, t1, t8, t9, ()) (r0, r1, r2, ())) = B_R_Sent_2 t0 t1 t8 t9 r0 r1 r2 m K := by kernel_rfl
theorem I_R_Sent_2 (h : ∀ (t0 : (List Int)) (t1 : Int) (t8 : Int) (t9 : Int) (r0 : (List (List Int))) (r1 : (List (Int × (Int × Unit)))) (r2 : (List (Int × (Int × Unit)))) (K : AExit → St → Prop), p_R_Sent_2 t0 t1 t8 t9 r0 r1 r2 → o_R_Sent_2 t0 t1 t8 t9 r0 r1 r2 K → B_R_Sent_2 t0 t1 t8 t9 r0 r1 r2 (m_R_Sent_2 t0 t1 t8 t9 r0 r1 r2) K) : LoopOK E_R_Sent 2 (loopAt (bodyOf Try.f17) 2) L_R_Sent_2 :=
  fun x y K hp ho => match x, y, hp, ho with | (t0, t1, t8, t9, ()), (r0, r1, r2, ()), hp, ho => (R_R_Sent_2 t0 t1 t8 t9 r0 r1 r2 (m_R_Sent_2 t0 t1 t8 t9 r0 r1 r2) K).mpr (h t0 t1 t8 t9 r0 r1 r2 K hp ho)
theorem G_R_Sent : loopsAll E_R_Sent (loopList (bodyOf Try.f17) 0) = (LoopOK E_R_Sent 0 (loopAt (bodyOf Try.f17) 0) L_R_Sent_0 ∧ LoopOK E_R_Sent 2 (loopAt (bodyOf Try.f17) 2) L_R_Sent_2 ∧ True) := by kernel_rfl
theorem envok_R_Sent (h_R_Constellation : SumOK Try.prog 26 S_R_Constellation) (h_R_SameBits : SumOK Try.prog 23 S_R_SameBits) : EnvOK E_R_Sent := ⟨sumsOf_ok (List.forall_mem_cons.2 ⟨h_R_Constellation, (List.forall_mem_cons.2 ⟨h_R_SameBits, (fun _ h => nomatch h)⟩)⟩), follows⟩
theorem whole_R_Sent (h_R_Constellation : SumOK Try.prog 26 S_R_Constellation) (h_R_SameBits : SumOK Try.prog 23 S_R_SameBits) (l0 : LoopOK E_R_Sent 0 (loopAt (bodyOf Try.f17) 0) L_R_Sent_0) (l2 : LoopOK E_R_Sent 2 (loopAt (bodyOf Try.f17) 2) L_R_Sent_2) (main : ∀ (a0 : (List Int)) (a1 : Int), (sendErr a0 a1 = (0 : Int)) → W_R_Sent a0 a1) : SumOK Try.prog 17 S_R_Sent :=
  fun_sound (E := E_R_Sent) (envok_R_Sent h_R_Constellation h_R_SameBits) (fn := Try.f17) (c := bodyOf Try.f17) (ts := [(4, none)]) S_R_Sent Try.func17 (body_some (by kernel_rfl)) (by kernel_rfl) (by kernel_rfl) (by kernel_rfl) (G_R_Sent.mpr ⟨l0, l2, trivial⟩) (fun x hp => match x, hp with | (a0, a1, ()), hp => (V_R_Sent a0 a1).mpr (main a0 a1 hp))
/-! ### R_Hears -/
def L_R_Hears_0 : Lift.Loop := Lift.Loop.mk (.v (.ro (.pair (.int .i64) (.pair (.int .i64) .unit))) :: (u 4 ++ (.v (.int .i64) :: (u 53)))) [] 0 (fun x y => p_R_Hears_0 x.1 x.2.1) (fun x y => m_R_Hears_0 x.1 x.2.1) (fun x y K => o_R_Hears_0 x.1 x.2.1 K)
noncomputable def E_R_Hears : Env := { P := Try.prog, sum := sumsOf [], nio := 0, head := fun b => if b = 0 then ([0, 5, 36, 37, 38, 39, 40, 41, 44, 45, 46, 47, 48, 49, 52, 53, 54, 55, 56, 57], []) else ([], []), after := fun _ => none, leave := fun b => if b = 0 then [4] else [], loops := fun b => if b = 0 then some L_R_Hears_0 else none }
def W_R_Hears (a0 : (List (Int × (Int × Unit)))) (a1 : Int) : Prop := (
  condP (if (if (if (a1 != (2 : Int)) = true then a1 != (4 : Int) else false) = true then a1 != (6 : Int) else false) = true then true else decide (IntKind.wrap IntKind.i64 ((↑(List.length a0) : Int) * a1) > (4096 : Int)))
    ((false = hearB a0 a1) ∧
    True)
    ((p_R_Hears_0 a0 (0 : Int)) ∧
    condP (List.all (List.drop (0 : Nat) a0) okPt)
      ((true = hearB a0 a1) ∧
      True)
      ((false = hearB a0 a1) ∧
      True)))
theorem V_R_Hears (a0 : (List (Int × (Int × Unit)))) (a1 : Int) : awp E_R_Hears (bodyOf Try.f20) 0 (fin Try.prog S_R_Hears (a0, a1, ()) [(4, none)] 0) (initSt S_R_Hears.par (a0, a1, ()) 59) = W_R_Hears a0 a1 := by kernel_rfl
def B_R_Hears_0 (t0 : (List (Int × (Int × Unit)))) (t5 : Int) (m : Nat) (K : AExit → St → Prop) : Prop := (
  condP (decide (t5 < (↑(List.length t0) : Int)))
    (((0 : Int) ≤ t5) ∧
    (t5 < (↑(List.length t0) : Int)) ∧
    (decide (Prod.fst (List.getD t0 (Int.toNat t5) ((0 : Int), (0 : Int), ())) > (1000 : Int)) = false → (0 : Int) ≤ t5) ∧
    (decide (Prod.fst (List.getD t0 (Int.toNat t5) ((0 : Int), (0 : Int), ())) > (1000 : Int)) = false → t5 < (↑(List.length t0) : Int)) ∧
    ((if decide (Prod.fst (List.getD t0 (Int.toNat t5) ((0 : Int), (0 : Int), ())) > (1000 : Int)) = true then true else decide (Prod.fst (List.getD t0 (Int.toNat t5) ((0 : Int), (0 : Int), ())) < (-1000 : Int))) = false → (0 : Int) ≤ t5) ∧
    ((if decide (Prod.fst (List.getD t0 (Int.toNat t5) ((0 : Int), (0 : Int), ())) > (1000 : Int)) = true then true else decide (Prod.fst (List.getD t0 (Int.toNat t5) ((0 : Int), (0 : Int), ())) < (-1000 : Int))) = false → t5 < (↑(List.length t0) : Int)) ∧
    ((if (if decide (Prod.fst (List.getD t0 (Int.toNat t5) ((0 : Int), (0 : Int), ())) > (1000 : Int)) = true then true else decide (Prod.fst (List.getD t0 (Int.toNat t5) ((0 : Int), (0 : Int), ())) < (-1000 : Int))) = true then true else decide (Prod.fst (Prod.snd (List.getD t0 (Int.toNat t5) ((0 : Int), (0 : Int), ()))) > (1000 : Int))) = false → (0 : Int) ≤ t5) ∧
    ((if (if decide (Prod.fst (List.getD t0 (Int.toNat t5) ((0 : Int), (0 : Int), ())) > (1000 : Int)) = true then true else decide (Prod.fst (List.getD t0 (Int.toNat t5) ((0 : Int), (0 : Int), ())) < (-1000 : Int))) = true then true else decide (Prod.fst (Prod.snd (List.getD t0 (Int.toNat t5) ((0 : Int), (0 : Int), ()))) > (1000 : Int))) = false → t5 < (↑(List.length t0) : Int)) ∧
    condP (if (if (if decide (Prod.fst (List.getD t0 (Int.toNat t5) ((0 : Int), (0 : Int), ())) > (1000 : Int)) = true then true else decide (Prod.fst (List.getD t0 (Int.toNat t5) ((0 : Int), (0 : Int), ())) < (-1000 : Int))) = true then true else decide (Prod.fst (Prod.snd (List.getD t0 (Int.toNat t5) ((0 : Int), (0 : Int), ()))) > (1000 : Int))) = true then true else decide (Prod.fst (Prod.snd (List.getD t0 (Int.toNat t5) ((0 : Int), (0 : Int), ()))) < (-1000 : Int)))
      (X_R_Hears_0_0 (false) K)
      ((p_R_Hears_0 t0 (IntKind.wrap IntKind.i64 (t5 + (1 : Int)))) ∧
      (m_R_Hears_0 t0 (IntKind.wrap IntKind.i64 (t5 + (1 : Int))) < m) ∧
      o_R_Hears_0 t0 (IntKind.wrap IntKind.i64 (t5 + (1 : Int))) K))
    (X_R_Hears_0_1  K))
theorem R_R_Hears_0 (t0 : (List (Int × (Int × Unit)))) (t5 : Int) (m : Nat) (K : AExit → St → Prop) : awp E_R_Hears (loopAt (bodyOf Try.f20) 0) 0 (roundP E_R_Hears 0 L_R_Hears_0 m K) (L_R_Hears_0.abs (t0, t5, ()) (())) = B_R_Hears_0 t0 t5 m K := by kernel_rfl
theorem I_R_Hears_0 (h : ∀ (t0 : (List (Int × (Int × Unit)))) (t5 : Int) (K : AExit → St → Prop), p_R_Hears_0 t0 t5 → o_R_Hears_0 t0 t5 K → B_R_Hears_0 t0 t5 (m_R_Hears_0 t0 t5) K) : LoopOK E_R_Hears 0 (loopAt (bodyOf Try.f20) 0) L_R_Hears_0 :=
  fun x y K hp ho => match x, y, hp, ho with | (t0, t5, ()), (), hp, ho => (R_R_Hears_0 t0 t5 (m_R_Hears_0 t0 t5) K).mpr (h t0 t5 K hp ho)
theorem G_R_Hears : loopsAll E_R_Hears (loopList (bodyOf Try.f20) 0) = (LoopOK E_R_Hears 0 (loopAt (bodyOf Try.f20) 0) L_R_Hears_0 ∧ True) := by kernel_rfl
theorem envok_R_Hears  : EnvOK E_R_Hears := ⟨sumsOf_ok (fun _ h => nomatch h), follows⟩
theorem whole_R_Hears  (l0 : LoopOK E_R_Hears 0 (loopAt (bodyOf Try.f20) 0) L_R_Hears_0) (main : ∀ (a0 : (List (Int × (Int × Unit)))) (a1 : Int), ((↑(List.length a0) : Int) ≤ big) → W_R_Hears a0 a1) : SumOK Try.prog 20 S_R_Hears :=
  fun_sound (E := E_R_Hears) (envok_R_Hears ) (fn := Try.f20) (c := bodyOf Try.f20) (ts := [(4, none)]) S_R_Hears Try.func20 (body_some (by kernel_rfl)) (by kernel_rfl) (by kernel_rfl) (by kernel_rfl) (G_R_Hears.mpr ⟨l0, trivial⟩) (fun x hp => match x, hp with | (a0, a1, ()), hp => (V_R_Hears a0 a1).mpr (main a0 a1 hp))
/-! ### R_Constellation -/
def L_R_Constellation_0 : Lift.Loop := Lift.Loop.mk (.v (.int .i64) :: (u 3 ++ (.sl 0 :: (.v (.int .i64) :: (u 56))))) [(0, .row (.ro (.int .u8)))] 1 (fun x y => p_R_Constellation_0 x.1 x.2.1 y.1) (fun x y => m_R_Constellation_0 x.1 x.2.1 y.1) (fun x y K => o_R_Constellation_0 x.1 x.2.1 y.1 K)
def L_R_Constellation_2 : Lift.Loop := Lift.Loop.mk (.v (.int .i64) :: (u 3 ++ (.sl 0 :: (.v (.int .i64) :: (.sl 1 :: (.v (.int .i64) :: (u 54))))))) [(0, .row (.ro (.int .u8))), (1, .row (.ro (.int .u8)))] 2 (fun x y => p_R_Constellation_2 x.1 x.2.1 x.2.2.1 y.1 y.2.1) (fun x y => m_R_Constellation_2 x.1 x.2.1 x.2.2.1 y.1 y.2.1) (fun x y K => o_R_Constellation_2 x.1 x.2.1 x.2.2.1 y.1 y.2.1 K)
def L_R_Constellation_4 : Lift.Loop := Lift.Loop.mk (u 4 ++ (.sl 0 :: (u 3 ++ (.sl 1 :: (.v (.int .i64) :: (u 52)))))) [(0, .row (.ro (.int .u8))), (1, .row (.pair (.int .i64) (.pair (.int .i64) .unit)))] 2 (fun x y => p_R_Constellation_4 x.1 y.1 y.2.1) (fun x y => m_R_Constellation_4 x.1 y.1 y.2.1) (fun x y K => o_R_Constellation_4 x.1 y.1 y.2.1 K)
noncomputable def E_R_Constellation : Env := { P := Try.prog, sum := sumsOf [(80, S_R_Sides)], nio := 0, head := fun b => if b = 4 then ([4, 8, 9], [(8, (.pair (.int .i64) (.pair (.int .i64) .unit)))]) else if b = 2 then ([0, 4, 5, 6, 7], [(6, (.ro (.int .u8)))]) else if b = 0 then ([0, 4, 5], []) else ([], []), after := fun _ => none, leave := fun b => if b = 4 then [2, 3, 4, 8] else if b = 2 then [0, 2, 3, 4, 5, 6] else if b = 0 then [2, 3, 4] else [], loops := fun b => if b = 4 then some L_R_Constellation_4 else if b = 2 then some L_R_Constellation_2 else if b = 0 then some L_R_Constellation_0 else none }
def W_R_Constellation (a0 : Int) : Prop := (
  (p_R_Constellation_0 a0 (0 : Int) [[]]) ∧
  (p_R_Constellation_4 (0 : Int) (listsC (Int.toNat a0)) []) ∧
  (listsC (Int.toNat a0) = listsC (Int.toNat a0)) ∧
  ([] ++ List.map pointL (List.drop (0 : Nat) (listsC (Int.toNat a0))) = pointsC (Int.toNat a0)) ∧
  True)
theorem V_R_Constellation (a0 : Int) : awp E_R_Constellation (bodyOf Try.f26) 0 (fin Try.prog S_R_Constellation (a0, ()) [(2, none), (3, none)] 0) (initSt S_R_Constellation.par (a0, ()) 62) = W_R_Constellation a0 := by kernel_rfl
def B_R_Constellation_0 (t0 : Int) (t5 : Int) (r0 : (List (List Int))) (m : Nat) (K : AExit → St → Prop) : Prop := (
  condP (decide (t5 < t0))
    ((p_R_Constellation_2 t0 t5 (0 : Int) r0 []) ∧
    (p_R_Constellation_0 t0 (IntKind.wrap IntKind.i64 (t5 + (1 : Int))) ([] ++ List.flatMap two (List.drop (0 : Nat) r0))) ∧
    (m_R_Constellation_0 t0 (IntKind.wrap IntKind.i64 (t5 + (1 : Int))) ([] ++ List.flatMap two (List.drop (0 : Nat) r0)) < m) ∧
    o_R_Constellation_0 t0 (IntKind.wrap IntKind.i64 (t5 + (1 : Int))) ([] ++ List.flatMap two (List.drop (0 : Nat) r0)) K)
    (X_R_Constellation_0_0 (r0) K))
theorem R_R_Constellation_0 (t0 : Int) (t5 : Int) (r0 : (List (List Int))) (m : Nat) (K : AExit → St → Prop) : awp E_R_Constellation (loopAt (bodyOf Try.f26) 0) 0 (roundP E_R_Constellation 0 L_R_Constellation_0 m K) (L_R_Constellation_0.abs (t0, t5, ()) (r0, ())) = B_R_Constellation_0 t0 t5 r0 m K := by kernel_rfl
theorem I_R_Constellation_0 (h : ∀ (t0 : Int) (t5 : Int) (r0 : (List (List Int))) (K : AExit → St → Prop), p_R_Constellation_0 t0 t5 r0 → o_R_Constellation_0 t0 t5 r0 K → B_R_Constellation_0 t0 t5 r0 (m_R_Constellation_0 t0 t5 r0) K) : LoopOK E_R_Constellation 0 (loopAt (bodyOf Try.f26) 0) L_R_Constellation_0 :=
  fun x y K hp ho => match x, y, hp, ho with | (t0, t5, ()), (r0, ()), hp, ho => (R_R_Constellation_0 t0 t5 r0 (m_R_Constellation_0 t0 t5 r0) K).mpr (h t0 t5 r0 K hp ho)
def B_R_Constellation_2 (t0 : Int) (t5 : Int) (t7 : Int) (r0 : (List (List Int))) (r1 : (List (List Int))) (m : Nat) (K : AExit → St → Prop) : Prop := (
  condP (decide (t7 < (↑(List.length r0) : Int)))
    (((0 : Int) ≤ t7) ∧
    (t7 < (↑(List.length r0) : Int)) ∧
    (List.length (List.getD r0 (Int.toNat t7) []) * (1 : Nat) ≤ (140737488355328 : Nat)) ∧
    ((List.length (List.getD r0 (Int.toNat t7) []) + List.length [(0 : Int)]) * (1 : Nat) ≤ (140737488355328 : Nat)) ∧
    ((0 : Int) ≤ t7) ∧
    (t7 < (↑(List.length r0) : Int)) ∧
    (List.length (List.getD r0 (Int.toNat t7) []) * (1 : Nat) ≤ (140737488355328 : Nat)) ∧
    ((List.length (List.getD r0 (Int.toNat t7) []) + List.length [(1 : Int)]) * (1 : Nat) ≤ (140737488355328 : Nat)) ∧
    ((List.length r1 + List.length [List.append (List.getD r0 (Int.toNat t7) []) [(0 : Int)], List.append (List.getD r0 (Int.toNat t7) []) [(1 : Int)]]) * (24 : Nat) ≤ (140737488355328 : Nat)) ∧
    (p_R_Constellation_2 t0 t5 (IntKind.wrap IntKind.i64 (t7 + (1 : Int))) r0 (List.append r1 [List.append (List.getD r0 (Int.toNat t7) []) [(0 : Int)], List.append (List.getD r0 (Int.toNat t7) []) [(1 : Int)]])) ∧
    (m_R_Constellation_2 t0 t5 (IntKind.wrap IntKind.i64 (t7 + (1 : Int))) r0 (List.append r1 [List.append (List.getD r0 (Int.toNat t7) []) [(0 : Int)], List.append (List.getD r0 (Int.toNat t7) []) [(1 : Int)]]) < m) ∧
    o_R_Constellation_2 t0 t5 (IntKind.wrap IntKind.i64 (t7 + (1 : Int))) r0 (List.append r1 [List.append (List.getD r0 (Int.toNat t7) []) [(0 : Int)], List.append (List.getD r0 (Int.toNat t7) []) [(1 : Int)]]) K)
    (X_R_Constellation_2_0 (t0) (t5) (r0) (r1) K))
theorem R_R_Constellation_2 (t0 : Int) (t5 : Int) (t7 : Int) (r0 : (List (List Int))) (r1 : (List (List Int))) (m : Nat) (K : AExit → St → Prop) : awp E_R_Constellation (loopAt (bodyOf Try.f26) 2) 2 (roundP E_R_Constellation 2 L_R_Constellation_2 m K) (L_R_Constellation_2.abs (t0, t5, t7, ()) (r0, r1, ())) = B_R_Constellation_2 t0 t5 t7 r0 r1 m K := by kernel_rfl
theorem I_R_Constellation_2 (h : ∀ (t0 : Int) (t5 : Int) (t7 : Int) (r0 : (List (List Int))) (r1 : (List (List Int))) (K : AExit → St → Prop), p_R_Constellation_2 t0 t5 t7 r0 r1 → o_R_Constellation_2 t0 t5 t7 r0 r1 K → B_R_Constellation_2 t0 t5 t7 r0 r1 (m_R_Constellation_2 t0 t5 t7 r0 r1) K) : LoopOK E_R_Constellation 2 (loopAt (bodyOf Try.f26) 2) L_R_Constellation_2 :=
  fun x y K hp ho => match x, y, hp, ho with | (t0, t5, t7, ()), (r0, r1, ()), hp, ho => (R_R_Constellation_2 t0 t5 t7 r0 r1 (m_R_Constellation_2 t0 t5 t7 r0 r1) K).mpr (h t0 t5 t7 r0 r1 K hp ho)
def B_R_Constellation_4 (t9 : Int) (r0 : (List (List Int))) (r1 : (List (Int × (Int × Unit)))) (m : Nat) (K : AExit → St → Prop) : Prop := (
  condP (decide (t9 < (↑(List.length r0) : Int)))
    (((0 : Int) ≤ t9) ∧
    (t9 < (↑(List.length r0) : Int)) ∧
    (Bits (List.getD r0 (Int.toNat t9) []) ∧ (List.length (List.getD r0 (Int.toNat t9) []) = (2 : Nat) ∨ List.length (List.getD r0 (Int.toNat t9) []) = (4 : Nat) ∨ List.length (List.getD r0 (Int.toNat t9) []) = (6 : Nat)) ∧ (0 : Int) ≤ (0 : Int) ∧ (0 : Int) ≤ (1 : Int)) ∧
    ((0 : Int) ≤ t9) ∧
    (t9 < (↑(List.length r0) : Int)) ∧
    (Bits (List.getD r0 (Int.toNat t9) []) ∧ (List.length (List.getD r0 (Int.toNat t9) []) = (2 : Nat) ∨ List.length (List.getD r0 (Int.toNat t9) []) = (4 : Nat) ∨ List.length (List.getD r0 (Int.toNat t9) []) = (6 : Nat)) ∧ (0 : Int) ≤ (1 : Int) ∧ (1 : Int) ≤ (1 : Int)) ∧
    ((List.length r1 + List.length [(sideL (List.getD r0 (Int.toNat t9) []) (0 : Nat), sideL (List.getD r0 (Int.toNat t9) []) (1 : Nat), ())]) * (16 : Nat) ≤ (140737488355328 : Nat)) ∧
    (p_R_Constellation_4 (IntKind.wrap IntKind.i64 (t9 + (1 : Int))) r0 (List.append r1 [(sideL (List.getD r0 (Int.toNat t9) []) (0 : Nat), sideL (List.getD r0 (Int.toNat t9) []) (1 : Nat), ())])) ∧
    (m_R_Constellation_4 (IntKind.wrap IntKind.i64 (t9 + (1 : Int))) r0 (List.append r1 [(sideL (List.getD r0 (Int.toNat t9) []) (0 : Nat), sideL (List.getD r0 (Int.toNat t9) []) (1 : Nat), ())]) < m) ∧
    o_R_Constellation_4 (IntKind.wrap IntKind.i64 (t9 + (1 : Int))) r0 (List.append r1 [(sideL (List.getD r0 (Int.toNat t9) []) (0 : Nat), sideL (List.getD r0 (Int.toNat t9) []) (1 : Nat), ())]) K)
    (X_R_Constellation_4_0 (r0) (r1) K))
theorem R_R_Constellation_4 (t9 : Int) (r0 : (List (List Int))) (r1 : (List (Int × (Int × Unit)))) (m : Nat) (K : AExit → St → Prop) : awp E_R_Constellation (loopAt (bodyOf Try.f26) 4) 4 (roundP E_R_Constellation 4 L_R_Constellation_4 m K) (L_R_Constellation_4.abs (t9, ()) (r0, r1, ())) = B_R_Constellation_4 t9 r0 r1 m K := by kernel_rfl
theorem I_R_Constellation_4 (h : ∀ (t9 : Int) (r0 : (List (List Int))) (r1 : (List (Int × (Int × Unit)))) (K : AExit → St → Prop), p_R_Constellation_4 t9 r0 r1 → o_R_Constellation_4 t9 r0 r1 K → B_R_Constellation_4 t9 r0 r1 (m_R_Constellation_4 t9 r0 r1) K) : LoopOK E_R_Constellation 4 (loopAt (bodyOf Try.f26) 4) L_R_Constellation_4 :=
  fun x y K hp ho => match x, y, hp, ho with | (t9, ()), (r0, r1, ()), hp, ho => (R_R_Constellation_4 t9 r0 r1 (m_R_Constellation_4 t9 r0 r1) K).mpr (h t9 r0 r1 K hp ho)
theorem G_R_Constellation : loopsAll E_R_Constellation (loopList (bodyOf Try.f26) 0) = (LoopOK E_R_Constellation 0 (loopAt (bodyOf Try.f26) 0) L_R_Constellation_0 ∧ LoopOK E_R_Constellation 2 (loopAt (bodyOf Try.f26) 2) L_R_Constellation_2 ∧ LoopOK E_R_Constellation 4 (loopAt (bodyOf Try.f26) 4) L_R_Constellation_4 ∧ True) := by kernel_rfl
theorem envok_R_Constellation (h_R_Sides : SumOK Try.prog 80 S_R_Sides) : EnvOK E_R_Constellation := ⟨sumsOf_ok (List.forall_mem_cons.2 ⟨h_R_Sides, (fun _ h => nomatch h)⟩), follows⟩
theorem whole_R_Constellation (h_R_Sides : SumOK Try.prog 80 S_R_Sides) (l0 : LoopOK E_R_Constellation 0 (loopAt (bodyOf Try.f26) 0) L_R_Constellation_0) (l2 : LoopOK E_R_Constellation 2 (loopAt (bodyOf Try.f26) 2) L_R_Constellation_2) (l4 : LoopOK E_R_Constellation 4 (loopAt (bodyOf Try.f26) 4) L_R_Constellation_4) (main : ∀ (a0 : Int), (goodO a0) → W_R_Constellation a0) : SumOK Try.prog 26 S_R_Constellation :=
  fun_sound (E := E_R_Constellation) (envok_R_Constellation h_R_Sides) (fn := Try.f26) (c := bodyOf Try.f26) (ts := [(2, none), (3, none)]) S_R_Constellation Try.func26 (body_some (by kernel_rfl)) (by kernel_rfl) (by kernel_rfl) (by kernel_rfl) (G_R_Constellation.mpr ⟨l0, l2, l4, trivial⟩) (fun x hp => match x, hp with | (a0, ()), hp => (V_R_Constellation a0).mpr (main a0 hp))
/-! ### R_Far -/
noncomputable def E_R_Far : Env := { P := Try.prog, sum := sumsOf [], nio := 0, head := fun b => ([], []), after := fun _ => none, leave := fun b => [], loops := fun b => none }
def W_R_Far (a0 : (Int × (Int × Unit))) (a1 : (Int × (Int × Unit))) : Prop := (
  (IntKind.wrap IntKind.i64 (IntKind.wrap IntKind.i64 (IntKind.wrap IntKind.i64 (Prod.fst a0 - Prod.fst a1) * IntKind.wrap IntKind.i64 (Prod.fst a0 - Prod.fst a1)) + IntKind.wrap IntKind.i64 (IntKind.wrap IntKind.i64 (Prod.fst (Prod.snd a0) - Prod.fst (Prod.snd a1)) * IntKind.wrap IntKind.i64 (Prod.fst (Prod.snd a0) - Prod.fst (Prod.snd a1)))) = far a0 a1) ∧
  True)
theorem V_R_Far (a0 : (Int × (Int × Unit))) (a1 : (Int × (Int × Unit))) : awp E_R_Far (bodyOf Try.f27) 0 (fin Try.prog S_R_Far (a0, a1, ()) [(4, none)] 0) (initSt S_R_Far.par (a0, a1, ()) 24) = W_R_Far a0 a1 := by kernel_rfl
theorem G_R_Far : loopsAll E_R_Far (loopList (bodyOf Try.f27) 0) = (True) := by kernel_rfl
theorem envok_R_Far  : EnvOK E_R_Far := ⟨sumsOf_ok (fun _ h => nomatch h), follows⟩
theorem whole_R_Far   (main : ∀ (a0 : (Int × (Int × Unit))) (a1 : (Int × (Int × Unit))), (okPt a0 = true ∧ okPt a1 = true) → W_R_Far a0 a1) : SumOK Try.prog 27 S_R_Far :=
  fun_sound (E := E_R_Far) (envok_R_Far ) (fn := Try.f27) (c := bodyOf Try.f27) (ts := [(4, none)]) S_R_Far Try.func27 (body_some (by kernel_rfl)) (by kernel_rfl) (by kernel_rfl) (by kernel_rfl) (G_R_Far.mpr trivial) (fun x hp => match x, hp with | (a0, a1, ()), hp => (V_R_Far a0 a1).mpr (main a0 a1 hp))
/-! ### R_Heard -/
def L_R_Heard_0 : Lift.Loop := Lift.Loop.mk (.v (.ro (.pair (.int .i64) (.pair (.int .i64) .unit))) :: (.v (.int .i64) :: (u 3 ++ (.sl 0 :: (.sl 1 :: (.sl 2 :: (.v (.int .i64) :: (u 79)))))))) [(0, .row (.ro (.int .u8))), (1, .row (.pair (.int .i64) (.pair (.int .i64) .unit))), (2, .row (.int .i64))] 3 (fun x y => p_R_Heard_0 x.1 x.2.1 x.2.2.1 y.1 y.2.1 y.2.2.1) (fun x y => m_R_Heard_0 x.1 x.2.1 x.2.2.1 y.1 y.2.1 y.2.2.1) (fun x y K => o_R_Heard_0 x.1 x.2.1 x.2.2.1 y.1 y.2.1 y.2.2.1 K)
def L_R_Heard_2 : Lift.Loop := Lift.Loop.mk (.v (.ro (.pair (.int .i64) (.pair (.int .i64) .unit))) :: (.v (.int .i64) :: (u 3 ++ (.sl 0 :: (.sl 1 :: (.sl 2 :: (.v (.int .i64) :: (.v (.int .i64) :: (u 78))))))))) [(0, .row (.ro (.int .u8))), (1, .row (.pair (.int .i64) (.pair (.int .i64) .unit))), (2, .row (.int .i64))] 3 (fun x y => p_R_Heard_2 x.1 x.2.1 x.2.2.1 x.2.2.2.1 y.1 y.2.1 y.2.2.1) (fun x y => m_R_Heard_2 x.1 x.2.1 x.2.2.1 x.2.2.2.1 y.1 y.2.1 y.2.2.1) (fun x y K => o_R_Heard_2 x.1 x.2.1 x.2.2.1 x.2.2.2.1 y.1 y.2.1 y.2.2.1 K)
def L_R_Heard_4 : Lift.Loop := Lift.Loop.mk (.v (.ro (.pair (.int .i64) (.pair (.int .i64) .unit))) :: (.v (.int .i64) :: (u 3 ++ (.sl 0 :: (.sl 1 :: (.sl 2 :: (.v (.int .i64) :: (.v (.int .i64) :: (.v (.int .i64) :: (.v (.int .i64) :: (.v (.int .i64) :: (u 75)))))))))))) [(0, .row (.ro (.int .u8))), (1, .row (.pair (.int .i64) (.pair (.int .i64) .unit))), (2, .row (.int .i64))] 3 (fun x y => p_R_Heard_4 x.1 x.2.1 x.2.2.1 x.2.2.2.1 x.2.2.2.2.1 x.2.2.2.2.2.1 x.2.2.2.2.2.2.1 y.1 y.2.1 y.2.2.1) (fun x y => m_R_Heard_4 x.1 x.2.1 x.2.2.1 x.2.2.2.1 x.2.2.2.2.1 x.2.2.2.2.2.1 x.2.2.2.2.2.2.1 y.1 y.2.1 y.2.2.1) (fun x y K => o_R_Heard_4 x.1 x.2.1 x.2.2.1 x.2.2.2.1 x.2.2.2.2.1 x.2.2.2.2.2.1 x.2.2.2.2.2.2.1 y.1 y.2.1 y.2.2.1 K)
noncomputable def E_R_Heard : Env := { P := Try.prog, sum := sumsOf [(26, S_R_Constellation), (27, S_R_Far)], nio := 0, head := fun b => if b = 4 then ([0, 1, 5, 6, 7, 8, 9, 10, 11, 12, 54, 55, 56, 57, 58, 59, 60, 72, 73, 74, 75, 76, 77, 78], []) else if b = 2 then ([0, 1, 5, 6, 7, 8, 9, 54, 55, 56, 57, 58, 59, 60, 72, 73, 74, 75, 76, 77, 78], []) else if b = 0 then ([0, 1, 5, 6, 7, 8, 54, 55, 56, 57, 58, 59, 60, 72, 73, 74, 75, 76, 77, 78], [(7, (.int .i64))]) else ([], []), after := fun _ => none, leave := fun b => if b = 4 then [0, 1, 4, 5, 6, 7, 8, 9, 10, 11, 54, 55, 56, 57, 58, 59, 60, 72, 73, 74, 75, 76, 77, 78] else if b = 2 then [0, 1, 4, 5, 6, 7, 8, 54, 55, 56, 57, 58, 59, 60, 72, 73, 74, 75, 76, 77, 78] else if b = 0 then [4, 7] else [], loops := fun b => if b = 4 then some L_R_Heard_4 else if b = 2 then some L_R_Heard_2 else if b = 0 then some L_R_Heard_0 else none }
def W_R_Heard (a0 : (List (Int × (Int × Unit)))) (a1 : Int) : Prop := (
  (goodO a1) ∧
  (p_R_Heard_0 a0 a1 (0 : Int) (listsC (Int.toNat a1)) (pointsC (Int.toNat a1)) []) ∧
  ([] ++ heardL (List.drop (0 : Nat) a0) (Int.toNat a1) = heardL a0 (Int.toNat a1)) ∧
  True)
theorem V_R_Heard (a0 : (List (Int × (Int × Unit)))) (a1 : Int) : awp E_R_Heard (bodyOf Try.f22) 0 (fin Try.prog S_R_Heard (a0, a1, ()) [(4, none)] 0) (initSt S_R_Heard.par (a0, a1, ()) 88) = W_R_Heard a0 a1 := by kernel_rfl
def B_R_Heard_0 (t0 : (List (Int × (Int × Unit)))) (t1 : Int) (t8 : Int) (r0 : (List (List Int))) (r1 : (List (Int × (Int × Unit)))) (r2 : (List Int)) (m : Nat) (K : AExit → St → Prop) : Prop := (
  condP (decide (t8 < (↑(List.length t0) : Int)))
    ((p_R_Heard_2 t0 t1 t8 (0 : Int) r0 r1 r2) ∧
    (p_R_Heard_0 t0 t1 (IntKind.wrap IntKind.i64 (t8 + (1 : Int))) r0 r1 (r2 ++ seg (heardAt (List.getD t0 (Int.toNat t8) ((0 : Int), (0 : Int), ())) (Int.toNat t1)) (0 : Nat) (Int.toNat t1))) ∧
    (m_R_Heard_0 t0 t1 (IntKind.wrap IntKind.i64 (t8 + (1 : Int))) r0 r1 (r2 ++ seg (heardAt (List.getD t0 (Int.toNat t8) ((0 : Int), (0 : Int), ())) (Int.toNat t1)) (0 : Nat) (Int.toNat t1)) < m) ∧
    o_R_Heard_0 t0 t1 (IntKind.wrap IntKind.i64 (t8 + (1 : Int))) r0 r1 (r2 ++ seg (heardAt (List.getD t0 (Int.toNat t8) ((0 : Int), (0 : Int), ())) (Int.toNat t1)) (0 : Nat) (Int.toNat t1)) K)
    (X_R_Heard_0_0 (r2) K))
theorem R_R_Heard_0 (t0 : (List (Int × (Int × Unit)))) (t1 : Int) (t8 : Int) (r0 : (List (List Int))) (r1 : (List (Int × (Int × Unit)))) (r2 : (List Int)) (m : Nat) (K : AExit → St → Prop) : awp E_R_Heard (loopAt (bodyOf Try.f22) 0) 0 (roundP E_R_Heard 0 L_R_Heard_0 m K) (L_R_Heard_0.abs (t0, t1, t8, ()) (r0, r1, r2, ())) = B_R_Heard_0 t0 t1 t8 r0 r1 r2 m K := by kernel_rfl
theorem I_R_Heard_0 (h : ∀ (t0 : (List (Int × (Int × Unit)))) (t1 : Int) (t8 : Int) (r0 : (List (List Int))) (r1 : (List (Int × (Int × Unit)))) (r2 : (List Int)) (K : AExit → St → Prop), p_R_Heard_0 t0 t1 t8 r0 r1 r2 → o_R_Heard_0 t0 t1 t8 r0 r1 r2 K → B_R_Heard_0 t0 t1 t8 r0 r1 r2 (m_R_Heard_0 t0 t1 t8 r0 r1 r2) K) : LoopOK E_R_Heard 0 (loopAt (bodyOf Try.f22) 0) L_R_Heard_0 :=
  fun x y K hp ho => match x, y, hp, ho with | (t0, t1, t8, ()), (r0, r1, r2, ()), hp, ho => (R_R_Heard_0 t0 t1 t8 r0 r1 r2 (m_R_Heard_0 t0 t1 t8 r0 r1 r2) K).mpr (h t0 t1 t8 r0 r1 r2 K hp ho)
def B_R_Heard_2 (t0 : (List (Int × (Int × Unit)))) (t1 : Int) (t8 : Int) (t9 : Int) (r0 : (List (List Int))) (r1 : (List (Int × (Int × Unit)))) (r2 : (List Int)) (m : Nat) (K : AExit → St → Prop) : Prop := (
  condP (decide (t9 < t1))
    ((p_R_Heard_4 t0 t1 t8 t9 (-1 : Int) (-1 : Int) (0 : Int) r0 r1 r2) ∧
    ((List.length r2 + List.length [IntKind.wrap IntKind.i64 (refL (List.getD t0 (Int.toNat t8) ((0 : Int), (0 : Int), ())) (Int.toNat t1) (Int.toNat t9) (1 : Int) ((2 : Nat) ^ Int.toNat t1) - refL (List.getD t0 (Int.toNat t8) ((0 : Int), (0 : Int), ())) (Int.toNat t1) (Int.toNat t9) (0 : Int) ((2 : Nat) ^ Int.toNat t1))]) * (8 : Nat) ≤ (140737488355328 : Nat)) ∧
    (p_R_Heard_2 t0 t1 t8 (IntKind.wrap IntKind.i64 (t9 + (1 : Int))) r0 r1 (List.append r2 [IntKind.wrap IntKind.i64 (refL (List.getD t0 (Int.toNat t8) ((0 : Int), (0 : Int), ())) (Int.toNat t1) (Int.toNat t9) (1 : Int) ((2 : Nat) ^ Int.toNat t1) - refL (List.getD t0 (Int.toNat t8) ((0 : Int), (0 : Int), ())) (Int.toNat t1) (Int.toNat t9) (0 : Int) ((2 : Nat) ^ Int.toNat t1))])) ∧
    (m_R_Heard_2 t0 t1 t8 (IntKind.wrap IntKind.i64 (t9 + (1 : Int))) r0 r1 (List.append r2 [IntKind.wrap IntKind.i64 (refL (List.getD t0 (Int.toNat t8) ((0 : Int), (0 : Int), ())) (Int.toNat t1) (Int.toNat t9) (1 : Int) ((2 : Nat) ^ Int.toNat t1) - refL (List.getD t0 (Int.toNat t8) ((0 : Int), (0 : Int), ())) (Int.toNat t1) (Int.toNat t9) (0 : Int) ((2 : Nat) ^ Int.toNat t1))]) < m) ∧
    o_R_Heard_2 t0 t1 t8 (IntKind.wrap IntKind.i64 (t9 + (1 : Int))) r0 r1 (List.append r2 [IntKind.wrap IntKind.i64 (refL (List.getD t0 (Int.toNat t8) ((0 : Int), (0 : Int), ())) (Int.toNat t1) (Int.toNat t9) (1 : Int) ((2 : Nat) ^ Int.toNat t1) - refL (List.getD t0 (Int.toNat t8) ((0 : Int), (0 : Int), ())) (Int.toNat t1) (Int.toNat t9) (0 : Int) ((2 : Nat) ^ Int.toNat t1))]) K)
    (X_R_Heard_2_0 (t0) (t1) (t8) (r0) (r1) (r2) K))
theorem R_R_Heard_2 (t0 : (List (Int × (Int × Unit)))) (t1 : Int) (t8 : Int) (t9 : Int) (r0 : (List (List Int))) (r1 : (List (Int × (Int × Unit)))) (r2 : (List Int)) (m : Nat) (K : AExit → St → Prop) : awp E_R_Heard (loopAt (bodyOf Try.f22) 2) 2 (roundP E_R_Heard 2 L_R_Heard_2 m K) (L_R_Heard_2.abs (t0, t1, t8, t9, ()) (r0, r1, r2, ())) = B_R_Heard_2 t0 t1 t8 t9 r0 r1 r2 m K := by kernel_rfl
theorem I_R_Heard_2 (h : ∀ (t0 : (List (Int × (Int × Unit)))) (t1 : Int) (t8 : Int) (t9 : Int) (r0 : (List (List Int))) (r1 : (List (Int × (Int × Unit)))) (r2 : (List Int)) (K : AExit → St → Prop), p_R_Heard_2 t0 t1 t8 t9 r0 r1 r2 → o_R_Heard_2 t0 t1 t8 t9 r0 r1 r2 K → B_R_Heard_2 t0 t1 t8 t9 r0 r1 r2 (m_R_Heard_2 t0 t1 t8 t9 r0 r1 r2) K) : LoopOK E_R_Heard 2 (loopAt (bodyOf Try.f22) 2) L_R_Heard_2 :=
  fun x y K hp ho => match x, y, hp, ho with | (t0, t1, t8, t9, ()), (r0, r1, r2, ()), hp, ho => (R_R_Heard_2 t0 t1 t8 t9 r0 r1 r2 (m_R_Heard_2 t0 t1 t8 t9 r0 r1 r2) K).mpr (h t0 t1 t8 t9 r0 r1 r2 K hp ho)
def B_R_Heard_4 (t0 : (List (Int × (Int × Unit)))) (t1 : Int) (t8 : Int) (t9 : Int) (t10 : Int) (t11 : Int) (t12 : Int) (r0 : (List (List Int))) (r1 : (List (Int × (Int × Unit)))) (r2 : (List Int)) (m : Nat) (K : AExit → St → Prop) : Prop := (
  condP (decide (t12 < (↑(List.length r0) : Int)))
    (((0 : Int) ≤ t8) ∧
    (t8 < (↑(List.length t0) : Int)) ∧
    ((0 : Int) ≤ t12) ∧
    (t12 < (↑(List.length r1) : Int)) ∧
    (okPt (List.getD t0 (Int.toNat t8) ((0 : Int), (0 : Int), ())) = true ∧ okPt (List.getD r1 (Int.toNat t12) ((0 : Int), (0 : Int), ())) = true) ∧
    ((0 : Int) ≤ t12) ∧
    (t12 < (↑(List.length r0) : Int)) ∧
    ((0 : Int) ≤ t9) ∧
    (t9 < (↑(List.length (List.getD r0 (Int.toNat t12) [])) : Int)) ∧
    condP (if (List.getD (List.getD r0 (Int.toNat t12) []) (Int.toNat t9) (0 : Int) == (1 : Int)) = true then if decide (t10 < (0 : Int)) = true then true else decide (far (List.getD t0 (Int.toNat t8) ((0 : Int), (0 : Int), ())) (List.getD r1 (Int.toNat t12) ((0 : Int), (0 : Int), ())) < t10) else false)
      (((0 : Int) ≤ t12) ∧
      (t12 < (↑(List.length r0) : Int)) ∧
      ((0 : Int) ≤ t9) ∧
      (t9 < (↑(List.length (List.getD r0 (Int.toNat t12) [])) : Int)) ∧
      condP (if (List.getD (List.getD r0 (Int.toNat t12) []) (Int.toNat t9) (0 : Int) == (0 : Int)) = true then if decide (t11 < (0 : Int)) = true then true else decide (far (List.getD t0 (Int.toNat t8) ((0 : Int), (0 : Int), ())) (List.getD r1 (Int.toNat t12) ((0 : Int), (0 : Int), ())) < t11) else false)
        ((p_R_Heard_4 t0 t1 t8 t9 (far (List.getD t0 (Int.toNat t8) ((0 : Int), (0 : Int), ())) (List.getD r1 (Int.toNat t12) ((0 : Int), (0 : Int), ()))) (far (List.getD t0 (Int.toNat t8) ((0 : Int), (0 : Int), ())) (List.getD r1 (Int.toNat t12) ((0 : Int), (0 : Int), ()))) (IntKind.wrap IntKind.i64 (t12 + (1 : Int))) r0 r1 r2) ∧
        (m_R_Heard_4 t0 t1 t8 t9 (far (List.getD t0 (Int.toNat t8) ((0 : Int), (0 : Int), ())) (List.getD r1 (Int.toNat t12) ((0 : Int), (0 : Int), ()))) (far (List.getD t0 (Int.toNat t8) ((0 : Int), (0 : Int), ())) (List.getD r1 (Int.toNat t12) ((0 : Int), (0 : Int), ()))) (IntKind.wrap IntKind.i64 (t12 + (1 : Int))) r0 r1 r2 < m) ∧
        o_R_Heard_4 t0 t1 t8 t9 (far (List.getD t0 (Int.toNat t8) ((0 : Int), (0 : Int), ())) (List.getD r1 (Int.toNat t12) ((0 : Int), (0 : Int), ()))) (far (List.getD t0 (Int.toNat t8) ((0 : Int), (0 : Int), ())) (List.getD r1 (Int.toNat t12) ((0 : Int), (0 : Int), ()))) (IntKind.wrap IntKind.i64 (t12 + (1 : Int))) r0 r1 r2 K)
        ((p_R_Heard_4 t0 t1 t8 t9 (far (List.getD t0 (Int.toNat t8) ((0 : Int), (0 : Int), ())) (List.getD r1 (Int.toNat t12) ((0 : Int), (0 : Int), ()))) t11 (IntKind.wrap IntKind.i64 (t12 + (1 : Int))) r0 r1 r2) ∧
        (m_R_Heard_4 t0 t1 t8 t9 (far (List.getD t0 (Int.toNat t8) ((0 : Int), (0 : Int), ())) (List.getD r1 (Int.toNat t12) ((0 : Int), (0 : Int), ()))) t11 (IntKind.wrap IntKind.i64 (t12 + (1 : Int))) r0 r1 r2 < m) ∧
        o_R_Heard_4 t0 t1 t8 t9 (far (List.getD t0 (Int.toNat t8) ((0 : Int), (0 : Int), ())) (List.getD r1 (Int.toNat t12) ((0 : Int), (0 : Int), ()))) t11 (IntKind.wrap IntKind.i64 (t12 + (1 : Int))) r0 r1 r2 K))
      (((0 : Int) ≤ t12) ∧
      (t12 < (↑(List.length r0) : Int)) ∧
      ((0 : Int) ≤ t9) ∧
      (t9 < (↑(List.length (List.getD r0 (Int.toNat t12) [])) : Int)) ∧
      condP (if (List.getD (List.getD r0 (Int.toNat t12) []) (Int.toNat t9) (0 : Int) == (0 : Int)) = true then if decide (t11 < (0 : Int)) = true then true else decide (far (List.getD t0 (Int.toNat t8) ((0 : Int), (0 : Int), ())) (List.getD r1 (Int.toNat t12) ((0 : Int), (0 : Int), ())) < t11) else false)
        ((p_R_Heard_4 t0 t1 t8 t9 t10 (far (List.getD t0 (Int.toNat t8) ((0 : Int), (0 : Int), ())) (List.getD r1 (Int.toNat t12) ((0 : Int), (0 : Int), ()))) (IntKind.wrap IntKind.i64 (t12 + (1 : Int))) r0 r1 r2) ∧
        (m_R_Heard_4 t0 t1 t8 t9 t10 (far (List.getD t0 (Int.toNat t8) ((0 : Int), (0 : Int), ())) (List.getD r1 (Int.toNat t12) ((0 : Int), (0 : Int), ()))) (IntKind.wrap IntKind.i64 (t12 + (1 : Int))) r0 r1 r2 < m) ∧
        o_R_Heard_4 t0 t1 t8 t9 t10 (far (List.getD t0 (Int.toNat t8) ((0 : Int), (0 : Int), ())) (List.getD r1 (Int.toNat t12) ((0 : Int), (0 : Int), ()))) (IntKind.wrap IntKind.i64 (t12 + (1 : Int))) r0 r1 r2 K)
        ((p_R_Heard_4 t0 t1 t8 t9 t10 t11 (IntKind.wrap IntKind.i64 (t12 + (1 : Int))) r0 r1 r2) ∧
        (m_R_Heard_4 t0 t1 t8 t9 t10 t11 (IntKind.wrap IntKind.i64 (t12 + (1 : Int))) r0 r1 r2 < m) ∧
        o_R_Heard_4 t0 t1 t8 t9 t10 t11 (IntKind.wrap IntKind.i64 (t12 + (1 : Int))) r0 r1 r2 K)))
    (X_R_Heard_4_0 (t0) (t1) (t8) (t9) (t10) (t11) (r0) (r1) (r2) K))
theorem R_R_Heard_4 (t0 : (List (Int × (Int × Unit)))) (t1 : Int) (t8 : Int) (t9 : Int) (t10 : Int) (t11 : Int) (t12 : Int) (r0 : (List (List Int))) (r1 : (List (Int × (Int × Unit)))) (r2 : (List Int)) (m : Nat) (K : AExit → St → Prop) : awp E_R_Heard (loopAt (bodyOf Try.f22) 4) 4 (roundP E_R_Heard 4 L_R_Heard_4 m K) (L_R_Heard_4.abs (t0, t1, t8, t9, t10, t11, t12, ()) (r0, r1, r2, ())) = B_R_Heard_4 t0 t1 t8 t9 t10 t11 t12 r0 r1 r2 m K := by kernel_rfl
theorem I_R_Heard_4 (h : ∀ (t0 : (List (Int × (Int × Unit)))) (t1 : Int) (t8 : Int) (t9 : Int) (t10 : Int) (t11 : Int) (t12 : Int) (r0 : (List (List Int))) (r1 : (List (Int × (Int × Unit)))) (r2 : (List Int)) (K : AExit → St → Prop), p_R_Heard_4 t0 t1 t8 t9 t10 t11 t12 r0 r1 r2 → o_R_Heard_4 t0 t1 t8 t9 t10 t11 t12 r0 r1 r2 K → B_R_Heard_4 t0 t1 t8 t9 t10 t11 t12 r0 r1 r2 (m_R_Heard_4 t0 t1 t8 t9 t10 t11 t12 r0 r1 r2) K) : LoopOK E_R_Heard 4 (loopAt (bodyOf Try.f22) 4) L_R_Heard_4 :=
  fun x y K hp ho => match x, y, hp, ho with | (t0, t1, t8, t9, t10, t11, t12, ()), (r0, r1, r2, ()), hp, ho => (R_R_Heard_4 t0 t1 t8 t9 t10 t11 t12 r0 r1 r2 (m_R_Heard_4 t0 t1 t8 t9 t10 t11 t12 r0 r1 r2) K).mpr (h t0 t1 t8 t9 t10 t11 t12 r0 r1 r2 K hp ho)
theorem G_R_Heard : loopsAll E_R_Heard (loopList (bodyOf Try.f22) 0) = (LoopOK E_R_Heard 0 (loopAt (bodyOf Try.f22) 0) L_R_Heard_0 ∧ LoopOK E_R_Heard 2 (loopAt (bodyOf Try.f22) 2) L_R_Heard_2 ∧ LoopOK E_R_Heard 4 (loopAt (bodyOf Try.f22) 4) L_R_Heard_4 ∧ True) := by kernel_rfl
theorem envok_R_Heard (h_R_Constellation : SumOK Try.prog 26 S_R_Constellation) (h_R_Far : SumOK Try.prog 27 S_R_Far) : EnvOK E_R_Heard := ⟨sumsOf_ok (List.forall_mem_cons.2 ⟨h_R_Constellation, (List.forall_mem_cons.2 ⟨h_R_Far, (fun _ h => nomatch h)⟩)⟩), follows⟩
theorem whole_R_Heard (h_R_Constellation : SumOK Try.prog 26 S_R_Constellation) (h_R_Far : SumOK Try.prog 27 S_R_Far) (l0 : LoopOK E_R_Heard 0 (loopAt (bodyOf Try.f22) 0) L_R_Heard_0) (l2 : LoopOK E_R_Heard 2 (loopAt (bodyOf Try.f22) 2) L_R_Heard_2) (l4 : LoopOK E_R_Heard 4 (loopAt (bodyOf Try.f22) 4) L_R_Heard_4) (main : ∀ (a0 : (List (Int × (Int × Unit)))) (a1 : Int), (hearB a0 a1 = true) → W_R_Heard a0 a1) : SumOK Try.prog 22 S_R_Heard :=
  fun_sound (E := E_R_Heard) (envok_R_Heard h_R_Constellation h_R_Far) (fn := Try.f22) (c := bodyOf Try.f22) (ts := [(4, none)]) S_R_Heard Try.func22 (body_some (by kernel_rfl)) (by kernel_rfl) (by kernel_rfl) (by kernel_rfl) (G_R_Heard.mpr ⟨l0, l2, l4, trivial⟩) (fun x hp => match x, hp with | (a0, a1, ()), hp => (V_R_Heard a0 a1).mpr (main a0 a1 hp))
/-! ### R_Nearest -/
def L_R_Nearest_0 : Lift.Loop := Lift.Loop.mk (.v (.ro (.pair (.int .i64) (.pair (.int .i64) .unit))) :: (u 4 ++ (.sl 0 :: (.sl 1 :: (.sl 2 :: (.v (.int .i64) :: (u 46))))))) [(0, .row (.ro (.int .u8))), (1, .row (.pair (.int .i64) (.pair (.int .i64) .unit))), (2, .row (.int .u8))] 3 (fun x y => p_R_Nearest_0 x.1 x.2.1 y.1 y.2.1 y.2.2.1) (fun x y => m_R_Nearest_0 x.1 x.2.1 y.1 y.2.1 y.2.2.1) (fun x y K => o_R_Nearest_0 x.1 x.2.1 y.1 y.2.1 y.2.2.1 K)
def L_R_Nearest_2 : Lift.Loop := Lift.Loop.mk (.v (.ro (.pair (.int .i64) (.pair (.int .i64) .unit))) :: (u 4 ++ (.sl 0 :: (.sl 1 :: (.sl 2 :: (.v (.int .i64) :: (.v (.int .i64) :: (.v (.int .i64) :: (u 44))))))))) [(0, .row (.ro (.int .u8))), (1, .row (.pair (.int .i64) (.pair (.int .i64) .unit))), (2, .row (.int .u8))] 3 (fun x y => p_R_Nearest_2 x.1 x.2.1 x.2.2.1 x.2.2.2.1 y.1 y.2.1 y.2.2.1) (fun x y => m_R_Nearest_2 x.1 x.2.1 x.2.2.1 x.2.2.2.1 y.1 y.2.1 y.2.2.1) (fun x y K => o_R_Nearest_2 x.1 x.2.1 x.2.2.1 x.2.2.2.1 y.1 y.2.1 y.2.2.1 K)
noncomputable def E_R_Nearest : Env := { P := Try.prog, sum := sumsOf [(26, S_R_Constellation), (27, S_R_Far)], nio := 0, head := fun b => if b = 2 then ([0, 5, 6, 7, 8, 9, 10], []) else if b = 0 then ([0, 5, 6, 7, 8], [(7, (.int .u8))]) else ([], []), after := fun _ => none, leave := fun b => if b = 2 then [0, 4, 5, 6, 7, 8, 9] else if b = 0 then [4, 7] else [], loops := fun b => if b = 2 then some L_R_Nearest_2 else if b = 0 then some L_R_Nearest_0 else none }
def W_R_Nearest (a0 : (List (Int × (Int × Unit)))) (a1 : Int) : Prop := (
  (goodO a1) ∧
  (p_R_Nearest_0 a0 (0 : Int) (listsC (Int.toNat a1)) (pointsC (Int.toNat a1)) []) ∧
  ([] ++ nearL (List.drop (0 : Nat) a0) (ordOf (listsC (Int.toNat a1))) = nearL a0 (Int.toNat a1)) ∧
  True)
theorem V_R_Nearest (a0 : (List (Int × (Int × Unit)))) (a1 : Int) : awp E_R_Nearest (bodyOf Try.f24) 0 (fin Try.prog S_R_Nearest (a0, a1, ()) [(4, none)] 0) (initSt S_R_Nearest.par (a0, a1, ()) 55) = W_R_Nearest a0 a1 := by kernel_rfl
def B_R_Nearest_0 (t0 : (List (Int × (Int × Unit)))) (t8 : Int) (r0 : (List (List Int))) (r1 : (List (Int × (Int × Unit)))) (r2 : (List Int)) (m : Nat) (K : AExit → St → Prop) : Prop := (
  condP (decide (t8 < (↑(List.length t0) : Int)))
    ((p_R_Nearest_2 t0 t8 (0 : Int) (1 : Int) r0 r1 r2) ∧
    ((0 : Int) ≤ (↑(Prod.snd (bestN (List.getD t0 (Int.toNat t8) ((0 : Int), (0 : Int), ())) (ordOf r0) ((2 : Nat) ^ ordOf r0))) : Int)) ∧
    ((↑(Prod.snd (bestN (List.getD t0 (Int.toNat t8) ((0 : Int), (0 : Int), ())) (ordOf r0) ((2 : Nat) ^ ordOf r0))) : Int) < (↑(List.length r0) : Int)) ∧
    ((List.length r2 + List.length (List.getD r0 (Int.toNat (↑(Prod.snd (bestN (List.getD t0 (Int.toNat t8) ((0 : Int), (0 : Int), ())) (ordOf r0) ((2 : Nat) ^ ordOf r0))) : Int)) [])) * (1 : Nat) ≤ (140737488355328 : Nat)) ∧
    (p_R_Nearest_0 t0 (IntKind.wrap IntKind.i64 (t8 + (1 : Int))) r0 r1 (List.append r2 (List.getD r0 (Int.toNat (↑(Prod.snd (bestN (List.getD t0 (Int.toNat t8) ((0 : Int), (0 : Int), ())) (ordOf r0) ((2 : Nat) ^ ordOf r0))) : Int)) []))) ∧
    (m_R_Nearest_0 t0 (IntKind.wrap IntKind.i64 (t8 + (1 : Int))) r0 r1 (List.append r2 (List.getD r0 (Int.toNat (↑(Prod.snd (bestN (List.getD t0 (Int.toNat t8) ((0 : Int), (0 : Int), ())) (ordOf r0) ((2 : Nat) ^ ordOf r0))) : Int)) [])) < m) ∧
    o_R_Nearest_0 t0 (IntKind.wrap IntKind.i64 (t8 + (1 : Int))) r0 r1 (List.append r2 (List.getD r0 (Int.toNat (↑(Prod.snd (bestN (List.getD t0 (Int.toNat t8) ((0 : Int), (0 : Int), ())) (ordOf r0) ((2 : Nat) ^ ordOf r0))) : Int)) [])) K)
    (X_R_Nearest_0_0 (r2) K))
theorem R_R_Nearest_0 (t0 : (List (Int × (Int × Unit)))) (t8 : Int) (r0 : (List (List Int))) (r1 : (List (Int × (Int × Unit)))) (r2 : (List Int)) (m : Nat) (K : AExit → St → Prop) : awp E_R_Nearest (loopAt (bodyOf Try.f24) 0) 0 (roundP E_R_Nearest 0 L_R_Nearest_0 m K) (L_R_Nearest_0.abs (t0, t8, ()) (r0, r1, r2, ())) = B_R_Nearest_0 t0 t8 r0 r1 r2 m K := by kernel_rfl
theorem I_R_Nearest_0 (h : ∀ (t0 : (List (Int × (Int × Unit)))) (t8 : Int) (r0 : (List (List Int))) (r1 : (List (Int × (Int × Unit)))) (r2 : (List Int)) (K : AExit → St → Prop), p_R_Nearest_0 t0 t8 r0 r1 r2 → o_R_Nearest_0 t0 t8 r0 r1 r2 K → B_R_Nearest_0 t0 t8 r0 r1 r2 (m_R_Nearest_0 t0 t8 r0 r1 r2) K) : LoopOK E_R_Nearest 0 (loopAt (bodyOf Try.f24) 0) L_R_Nearest_0 :=
  fun x y K hp ho => match x, y, hp, ho with | (t0, t8, ()), (r0, r1, r2, ()), hp, ho => (R_R_Nearest_0 t0 t8 r0 r1 r2 (m_R_Nearest_0 t0 t8 r0 r1 r2) K).mpr (h t0 t8 r0 r1 r2 K hp ho)
def B_R_Nearest_2 (t0 : (List (Int × (Int × Unit)))) (t8 : Int) (t9 : Int) (t10 : Int) (r0 : (List (List Int))) (r1 : (List (Int × (Int × Unit)))) (r2 : (List Int)) (m : Nat) (K : AExit → St → Prop) : Prop := (
  condP (decide (t10 < (↑(List.length r0) : Int)))
    (((0 : Int) ≤ t8) ∧
    (t8 < (↑(List.length t0) : Int)) ∧
    ((0 : Int) ≤ t10) ∧
    (t10 < (↑(List.length r1) : Int)) ∧
    (okPt (List.getD t0 (Int.toNat t8) ((0 : Int), (0 : Int), ())) = true ∧ okPt (List.getD r1 (Int.toNat t10) ((0 : Int), (0 : Int), ())) = true) ∧
    ((0 : Int) ≤ t8) ∧
    (t8 < (↑(List.length t0) : Int)) ∧
    ((0 : Int) ≤ t9) ∧
    (t9 < (↑(List.length r1) : Int)) ∧
    (okPt (List.getD t0 (Int.toNat t8) ((0 : Int), (0 : Int), ())) = true ∧ okPt (List.getD r1 (Int.toNat t9) ((0 : Int), (0 : Int), ())) = true) ∧
    condP (decide (far (List.getD t0 (Int.toNat t8) ((0 : Int), (0 : Int), ())) (List.getD r1 (Int.toNat t10) ((0 : Int), (0 : Int), ())) < far (List.getD t0 (Int.toNat t8) ((0 : Int), (0 : Int), ())) (List.getD r1 (Int.toNat t9) ((0 : Int), (0 : Int), ()))))
      ((p_R_Nearest_2 t0 t8 t10 (IntKind.wrap IntKind.i64 (t10 + (1 : Int))) r0 r1 r2) ∧
      (m_R_Nearest_2 t0 t8 t10 (IntKind.wrap IntKind.i64 (t10 + (1 : Int))) r0 r1 r2 < m) ∧
      o_R_Nearest_2 t0 t8 t10 (IntKind.wrap IntKind.i64 (t10 + (1 : Int))) r0 r1 r2 K)
      ((p_R_Nearest_2 t0 t8 t9 (IntKind.wrap IntKind.i64 (t10 + (1 : Int))) r0 r1 r2) ∧
      (m_R_Nearest_2 t0 t8 t9 (IntKind.wrap IntKind.i64 (t10 + (1 : Int))) r0 r1 r2 < m) ∧
      o_R_Nearest_2 t0 t8 t9 (IntKind.wrap IntKind.i64 (t10 + (1 : Int))) r0 r1 r2 K))
    (X_R_Nearest_2_0 (t0) (t8) (t9) (r0) (r1) (r2) K))
theorem R_R_Nearest_2 (t0 : (List (Int × (Int × Unit)))) (t8 : Int) (t9 : Int) (t10 : Int) (r0 : (List (List Int))) (r1 : (List (Int × (Int × Unit)))) (r2 : (List Int)) (m : Nat) (K : AExit → St → Prop) : awp E_R_Nearest (loopAt (bodyOf Try.f24) 2) 2 (roundP E_R_Nearest 2 L_R_Nearest_2 m K) (L_R_Nearest_2.abs (t0, t8, t9, t10, ()) (r0, r1, r2, ())) = B_R_Nearest_2 t0 t8 t9 t10 r0 r1 r2 m K := by kernel_rfl
theorem I_R_Nearest_2 (h : ∀ (t0 : (List (Int × (Int × Unit)))) (t8 : Int) (t9 : Int) (t10 : Int) (r0 : (List (List Int))) (r1 : (List (Int × (Int × Unit)))) (r2 : (List Int)) (K : AExit → St → Prop), p_R_Nearest_2 t0 t8 t9 t10 r0 r1 r2 → o_R_Nearest_2 t0 t8 t9 t10 r0 r1 r2 K → B_R_Nearest_2 t0 t8 t9 t10 r0 r1 r2 (m_R_Nearest_2 t0 t8 t9 t10 r0 r1 r2) K) : LoopOK E_R_Nearest 2 (loopAt (bodyOf Try.f24) 2) L_R_Nearest_2 :=
  fun x y K hp ho => match x, y, hp, ho with | (t0, t8, t9, t10, ()), (r0, r1, r2, ()), hp, ho => (R_R_Nearest_2 t0 t8 t9 t10 r0 r1 r2 (m_R_Nearest_2 t0 t8 t9 t10 r0 r1 r2) K).mpr (h t0 t8 t9 t10 r0 r1 r2 K hp ho)
theorem G_R_Nearest : loopsAll E_R_Nearest (loopList (bodyOf Try.f24) 0) = (LoopOK E_R_Nearest 0 (loopAt (bodyOf Try.f24) 0) L_R_Nearest_0 ∧ LoopOK E_R_Nearest 2 (loopAt (bodyOf Try.f24) 2) L_R_Nearest_2 ∧ True) := by kernel_rfl
theorem envok_R_Nearest (h_R_Constellation : SumOK Try.prog 26 S_R_Constellation) (h_R_Far : SumOK Try.prog 27 S_R_Far) : EnvOK E_R_Nearest := ⟨sumsOf_ok (List.forall_mem_cons.2 ⟨h_R_Constellation, (List.forall_mem_cons.2 ⟨h_R_Far, (fun _ h => nomatch h)⟩)⟩), follows⟩
theorem whole_R_Nearest (h_R_Constellation : SumOK Try.prog 26 S_R_Constellation) (h_R_Far : SumOK Try.prog 27 S_R_Far) (l0 : LoopOK E_R_Nearest 0 (loopAt (bodyOf Try.f24) 0) L_R_Nearest_0) (l2 : LoopOK E_R_Nearest 2 (loopAt (bodyOf Try.f24) 2) L_R_Nearest_2) (main : ∀ (a0 : (List (Int × (Int × Unit)))) (a1 : Int), (hearB a0 a1 = true) → W_R_Nearest a0 a1) : SumOK Try.prog 24 S_R_Nearest :=
  fun_sound (E := E_R_Nearest) (envok_R_Nearest h_R_Constellation h_R_Far) (fn := Try.f24) (c := bodyOf Try.f24) (ts := [(4, none)]) S_R_Nearest Try.func24 (body_some (by kernel_rfl)) (by kernel_rfl) (by kernel_rfl) (by kernel_rfl) (G_R_Nearest.mpr ⟨l0, l2, trivial⟩) (fun x hp => match x, hp with | (a0, a1, ()), hp => (V_R_Nearest a0 a1).mpr (main a0 a1 hp))
/-! ### law_WaveSays -/
noncomputable def E_law_WaveSays : Env := { P := Try.prog, sum := sumsOf [(14, S_wave_Send), (15, S_R_Bits), (17, S_R_Sent), (16, S_R_SamePoints), (18, S_wave_Hear), (19, S_wave_Near), (20, S_R_Hears), (22, S_R_Heard), (21, S_R_SameInts), (24, S_R_Nearest), (23, S_R_SameBits)], nio := 0, head := fun b => ([], []), after := fun _ => none, leave := fun b => [], loops := fun b => none }
def W_law_WaveSays (a0 : (List Int)) (a1 : (List (Int × (Int × Unit)))) (a2 : Int) : Prop := (
  ((↑(List.length a0) : Int) ≤ big ∧ ∀ (y : Int), y ∈ a0 → (0 : Int) ≤ y) ∧
  ((↑(List.length a0) : Int) ≤ big) ∧
  (((bitsErr a0 == (0 : Int)) == true && (!if (if (a2 == (2 : Int)) = true then true else a2 == (4 : Int)) = true then true else a2 == (6 : Int)) == false) = true → a2 ≠ (0 : Int)) ∧
  condP (if (bitsErr a0 == (0 : Int)) = true then if (!if (if (a2 == (2 : Int)) = true then true else a2 == (4 : Int)) = true then true else a2 == (6 : Int)) = true then true else Int.tmod (↑(List.length a0) : Int) a2 != (0 : Int) else false)
    ((((sendErr a0 a2 != (1 : Int)) == false && (sendErr a0 a2 == (0 : Int)) == true) = true → sendErr a0 a2 = (0 : Int)) ∧
    (((sendErr a0 a2 != (1 : Int)) == false && (sendErr a0 a2 == (0 : Int)) == true) = true → (↑(List.length (sendL a0 a2)) : Int) ≤ big) ∧
    condP (if (if (sendErr a0 a2 != (1 : Int)) = true then true else if (sendErr a0 a2 == (0 : Int)) = true then !decide (sendL a0 a2 = sendL a0 a2) else false) = true then true else if (sendErr a0 a2 != (0 : Int)) = true then decide ((↑(List.length (sendL a0 a2)) : Int) > (0 : Int)) else false)
      ((false = true) ∧
      True)
      (((↑(List.length a1) : Int) ≤ big) ∧
      ((↑(List.length a1) : Int) ≤ big) ∧
      ((↑(List.length a1) : Int) ≤ big) ∧
      condP (!hearB a1 a2)
        (((if (if (if (heardErr a1 a2 == (1 : Int)) = true then heardErr a1 a2 == (1 : Int) else false) = true then (↑(List.length (if hearB a1 a2 = true then heardL a1 (Int.toNat a2) else [])) : Int) == (0 : Int) else false) = true then (↑(List.length (if hearB a1 a2 = true then nearL a1 (Int.toNat a2) else [])) : Int) == (0 : Int) else false) = true) ∧
        True)
        (((if (heardErr a1 a2 == (0 : Int)) = true then heardErr a1 a2 == (0 : Int) else false) = true → hearB a1 a2 = true) ∧
        ((if (heardErr a1 a2 == (0 : Int)) = true then heardErr a1 a2 == (0 : Int) else false) = true → (↑(List.length (if hearB a1 a2 = true then heardL a1 (Int.toNat a2) else [])) : Int) ≤ big) ∧
        ((if (if (heardErr a1 a2 == (0 : Int)) = true then heardErr a1 a2 == (0 : Int) else false) = true then decide ((if hearB a1 a2 = true then heardL a1 (Int.toNat a2) else []) = heardL a1 (Int.toNat a2)) else false) = true → hearB a1 a2 = true) ∧
        ((if (if (heardErr a1 a2 == (0 : Int)) = true then heardErr a1 a2 == (0 : Int) else false) = true then decide ((if hearB a1 a2 = true then heardL a1 (Int.toNat a2) else []) = heardL a1 (Int.toNat a2)) else false) = true → (↑(List.length (if hearB a1 a2 = true then nearL a1 (Int.toNat a2) else [])) : Int) ≤ big) ∧
        ((if (if (if (heardErr a1 a2 == (0 : Int)) = true then heardErr a1 a2 == (0 : Int) else false) = true then decide ((if hearB a1 a2 = true then heardL a1 (Int.toNat a2) else []) = heardL a1 (Int.toNat a2)) else false) = true then decide ((if hearB a1 a2 = true then nearL a1 (Int.toNat a2) else []) = nearL a1 (Int.toNat a2)) else false) = true) ∧
        True)))
    ((((sendErr a0 a2 != bitsErr a0) == false && (sendErr a0 a2 == (0 : Int)) == true) = true → sendErr a0 a2 = (0 : Int)) ∧
    (((sendErr a0 a2 != bitsErr a0) == false && (sendErr a0 a2 == (0 : Int)) == true) = true → (↑(List.length (sendL a0 a2)) : Int) ≤ big) ∧
    condP (if (if (sendErr a0 a2 != bitsErr a0) = true then true else if (sendErr a0 a2 == (0 : Int)) = true then !decide (sendL a0 a2 = sendL a0 a2) else false) = true then true else if (sendErr a0 a2 != (0 : Int)) = true then decide ((↑(List.length (sendL a0 a2)) : Int) > (0 : Int)) else false)
      ((false = true) ∧
      True)
      (((↑(List.length a1) : Int) ≤ big) ∧
      ((↑(List.length a1) : Int) ≤ big) ∧
      ((↑(List.length a1) : Int) ≤ big) ∧
      condP (!hearB a1 a2)
        (((if (if (if (heardErr a1 a2 == (1 : Int)) = true then heardErr a1 a2 == (1 : Int) else false) = true then (↑(List.length (if hearB a1 a2 = true then heardL a1 (Int.toNat a2) else [])) : Int) == (0 : Int) else false) = true then (↑(List.length (if hearB a1 a2 = true then nearL a1 (Int.toNat a2) else [])) : Int) == (0 : Int) else false) = true) ∧
        True)
        (((if (heardErr a1 a2 == (0 : Int)) = true then heardErr a1 a2 == (0 : Int) else false) = true → hearB a1 a2 = true) ∧
        ((if (heardErr a1 a2 == (0 : Int)) = true then heardErr a1 a2 == (0 : Int) else false) = true → (↑(List.length (if hearB a1 a2 = true then heardL a1 (Int.toNat a2) else [])) : Int) ≤ big) ∧
        ((if (if (heardErr a1 a2 == (0 : Int)) = true then heardErr a1 a2 == (0 : Int) else false) = true then decide ((if hearB a1 a2 = true then heardL a1 (Int.toNat a2) else []) = heardL a1 (Int.toNat a2)) else false) = true → hearB a1 a2 = true) ∧
        ((if (if (heardErr a1 a2 == (0 : Int)) = true then heardErr a1 a2 == (0 : Int) else false) = true then decide ((if hearB a1 a2 = true then heardL a1 (Int.toNat a2) else []) = heardL a1 (Int.toNat a2)) else false) = true → (↑(List.length (if hearB a1 a2 = true then nearL a1 (Int.toNat a2) else [])) : Int) ≤ big) ∧
        ((if (if (if (heardErr a1 a2 == (0 : Int)) = true then heardErr a1 a2 == (0 : Int) else false) = true then decide ((if hearB a1 a2 = true then heardL a1 (Int.toNat a2) else []) = heardL a1 (Int.toNat a2)) else false) = true then decide ((if hearB a1 a2 = true then nearL a1 (Int.toNat a2) else []) = nearL a1 (Int.toNat a2)) else false) = true) ∧
        True))))
theorem V_law_WaveSays (a0 : (List Int)) (a1 : (List (Int × (Int × Unit)))) (a2 : Int) : awp E_law_WaveSays (bodyOf Try.f3) 0 (fin Try.prog S_law_WaveSays (a0, a1, a2, ()) [(6, none)] 0) (initSt S_law_WaveSays.par (a0, a1, a2, ()) 122) = W_law_WaveSays a0 a1 a2 := by kernel_rfl
theorem G_law_WaveSays : loopsAll E_law_WaveSays (loopList (bodyOf Try.f3) 0) = (True) := by kernel_rfl
theorem envok_law_WaveSays (h_wave_Send : SumOK Try.prog 14 S_wave_Send) (h_R_Bits : SumOK Try.prog 15 S_R_Bits) (h_R_Sent : SumOK Try.prog 17 S_R_Sent) (h_R_SamePoints : SumOK Try.prog 16 S_R_SamePoints) (h_wave_Hear : SumOK Try.prog 18 S_wave_Hear) (h_wave_Near : SumOK Try.prog 19 S_wave_Near) (h_R_Hears : SumOK Try.prog 20 S_R_Hears) (h_R_Heard : SumOK Try.prog 22 S_R_Heard) (h_R_SameInts : SumOK Try.prog 21 S_R_SameInts) (h_R_Nearest : SumOK Try.prog 24 S_R_Nearest) (h_R_SameBits : SumOK Try.prog 23 S_R_SameBits) : EnvOK E_law_WaveSays := ⟨sumsOf_ok (List.forall_mem_cons.2 ⟨h_wave_Send, (List.forall_mem_cons.2 ⟨h_R_Bits, (List.forall_mem_cons.2 ⟨h_R_Sent, (List.forall_mem_cons.2 ⟨h_R_SamePoints, (List.forall_mem_cons.2 ⟨h_wave_Hear, (List.forall_mem_cons.2 ⟨h_wave_Near, (List.forall_mem_cons.2 ⟨h_R_Hears, (List.forall_mem_cons.2 ⟨h_R_Heard, (List.forall_mem_cons.2 ⟨h_R_SameInts, (List.forall_mem_cons.2 ⟨h_R_Nearest, (List.forall_mem_cons.2 ⟨h_R_SameBits, (fun _ h => nomatch h)⟩)⟩)⟩)⟩)⟩)⟩)⟩)⟩)⟩)⟩)⟩), follows⟩
theorem whole_law_WaveSays (h_wave_Send : SumOK Try.prog 14 S_wave_Send) (h_R_Bits : SumOK Try.prog 15 S_R_Bits) (h_R_Sent : SumOK Try.prog 17 S_R_Sent) (h_R_SamePoints : SumOK Try.prog 16 S_R_SamePoints) (h_wave_Hear : SumOK Try.prog 18 S_wave_Hear) (h_wave_Near : SumOK Try.prog 19 S_wave_Near) (h_R_Hears : SumOK Try.prog 20 S_R_Hears) (h_R_Heard : SumOK Try.prog 22 S_R_Heard) (h_R_SameInts : SumOK Try.prog 21 S_R_SameInts) (h_R_Nearest : SumOK Try.prog 24 S_R_Nearest) (h_R_SameBits : SumOK Try.prog 23 S_R_SameBits)  (main : ∀ (a0 : (List Int)) (a1 : (List (Int × (Int × Unit)))) (a2 : Int), ((↑(List.length a0) : Int) ≤ big ∧ (∀ (y : Int), y ∈ a0 → (0 : Int) ≤ y) ∧ (↑(List.length a1) : Int) ≤ big) → W_law_WaveSays a0 a1 a2) : SumOK Try.prog 3 S_law_WaveSays :=
  fun_sound (E := E_law_WaveSays) (envok_law_WaveSays h_wave_Send h_R_Bits h_R_Sent h_R_SamePoints h_wave_Hear h_wave_Near h_R_Hears h_R_Heard h_R_SameInts h_R_Nearest h_R_SameBits) (fn := Try.f3) (c := bodyOf Try.f3) (ts := [(6, none)]) S_law_WaveSays Try.func3 (body_some (by kernel_rfl)) (by kernel_rfl) (by kernel_rfl) (by kernel_rfl) (G_law_WaveSays.mpr trivial) (fun x hp => match x, hp with | (a0, a1, a2, ()), hp => (V_law_WaveSays a0 a1 a2).mpr (main a0 a1 a2 hp))
end Go.Spec
