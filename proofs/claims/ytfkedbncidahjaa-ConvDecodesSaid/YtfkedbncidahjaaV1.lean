/- The runs of the functions, told. -/
import Derived.Test.YtfkedbncidahjaaLF
import Derived.Test.YtfkedbncidahjaaProg
import Derived.Test.YtfkedbncidahjaaE1
set_option linter.unusedVariables false
set_option linter.unusedSimpArgs false
namespace Go.Spec
open Go Go.Lift Go.Proofs
attribute [local irreducible] Go.Lift.awp
theorem follows : Try.prog.follows .mixedOrders = true := by kernel_rfl
/-! ### R_SameInts -/
def L_R_SameInts_0 : Lift.Loop := Lift.Loop.mk (.v (.ro (.int .i64)) :: (.v (.ro (.int .i64)) :: (u 3 ++ (.v (.int .i64) :: (u 20))))) [] 0 (fun x y => p_R_SameInts_0 x.1 x.2.1 x.2.2.1) (fun x y => m_R_SameInts_0 x.1 x.2.1 x.2.2.1) (fun x y K => o_R_SameInts_0 x.1 x.2.1 x.2.2.1 K)
noncomputable def E_R_SameInts : Env := { P := Try.prog, sum := sumsOf [], nio := 0, head := fun b => if b = 0 then ([0, 1, 5], []) else ([], []), after := fun _ => none, leave := fun b => if b = 0 then [4] else [], loops := fun b => if b = 0 then some L_R_SameInts_0 else none }
def W_R_SameInts (a0 : (List Int)) (a1 : (List Int)) : Prop := (
  condP ((↑(List.length a0) : Int) != (↑(List.length a1) : Int))
    ((false = decide (a0 = a1)) ∧
    True)
    ((p_R_SameInts_0 a0 a1 (0 : Int)) ∧
    condP (decide (List.drop (0 : Nat) a0 = List.drop (0 : Nat) a1))
      ((true = decide (a0 = a1)) ∧
      True)
      ((false = decide (a0 = a1)) ∧
      True)))
theorem V_R_SameInts (a0 : (List Int)) (a1 : (List Int)) : awp E_R_SameInts (bodyOf Try.f15) 0 (fin Try.prog S_R_SameInts (a0, a1, ()) [(4, none)] 0) (initSt S_R_SameInts.par (a0, a1, ()) 26) = W_R_SameInts a0 a1 := by kernel_rfl
def B_R_SameInts_0 (t0 : (List Int)) (t1 : (List Int)) (t5 : Int) (m : Nat) (K : AExit → St → Prop) : Prop := (
  condP (decide (t5 < (↑(List.length t0) : Int)))
    (((0 : Int) ≤ t5) ∧
    (t5 < (↑(List.length t0) : Int)) ∧
    ((0 : Int) ≤ t5) ∧
    (t5 < (↑(List.length t1) : Int)) ∧
    condP (List.getD t0 (Int.toNat t5) (0 : Int) != List.getD t1 (Int.toNat t5) (0 : Int))
      (X_R_SameInts_0_0 (false) K)
      ((p_R_SameInts_0 t0 t1 (IntKind.wrap IntKind.i64 (t5 + (1 : Int)))) ∧
      (m_R_SameInts_0 t0 t1 (IntKind.wrap IntKind.i64 (t5 + (1 : Int))) < m) ∧
      o_R_SameInts_0 t0 t1 (IntKind.wrap IntKind.i64 (t5 + (1 : Int))) K))
    (X_R_SameInts_0_1  K))
theorem R_R_SameInts_0 (t0 : (List Int)) (t1 : (List Int)) (t5 : Int) (m : Nat) (K : AExit → St → Prop) : awp E_R_SameInts (loopAt (bodyOf Try.f15) 0) 0 (roundP E_R_SameInts 0 L_R_SameInts_0 m K) (L_R_SameInts_0.abs (t0, t1, t5, ()) (())) = B_R_SameInts_0 t0 t1 t5 m K := by kernel_rfl
theorem I_R_SameInts_0 (h : ∀ (t0 : (List Int)) (t1 : (List Int)) (t5 : Int) (K : AExit → St → Prop), p_R_SameInts_0 t0 t1 t5 → o_R_SameInts_0 t0 t1 t5 K → B_R_SameInts_0 t0 t1 t5 (m_R_SameInts_0 t0 t1 t5) K) : LoopOK E_R_SameInts 0 (loopAt (bodyOf Try.f15) 0) L_R_SameInts_0 :=
  fun x y K hp ho => match x, y, hp, ho with | (t0, t1, t5, ()), (), hp, ho => (R_R_SameInts_0 t0 t1 t5 (m_R_SameInts_0 t0 t1 t5) K).mpr (h t0 t1 t5 K hp ho)
theorem G_R_SameInts : loopsAll E_R_SameInts (loopList (bodyOf Try.f15) 0) = (LoopOK E_R_SameInts 0 (loopAt (bodyOf Try.f15) 0) L_R_SameInts_0 ∧ True) := by kernel_rfl
theorem envok_R_SameInts  : EnvOK E_R_SameInts := ⟨sumsOf_ok (fun _ h => nomatch h), follows⟩
theorem whole_R_SameInts  (l0 : LoopOK E_R_SameInts 0 (loopAt (bodyOf Try.f15) 0) L_R_SameInts_0) (main : ∀ (a0 : (List Int)) (a1 : (List Int)), ((↑(List.length a0) : Int) ≤ big) → W_R_SameInts a0 a1) : SumOK Try.prog 15 S_R_SameInts :=
  fun_sound (E := E_R_SameInts) (envok_R_SameInts ) (fn := Try.f15) (c := bodyOf Try.f15) (ts := [(4, none)]) S_R_SameInts Try.func15 (body_some (by kernel_rfl)) (by kernel_rfl) (by kernel_rfl) (by kernel_rfl) (G_R_SameInts.mpr ⟨l0, trivial⟩) (fun x hp => match x, hp with | (a0, a1, ()), hp => (V_R_SameInts a0 a1).mpr (main a0 a1 hp))
/-! ### R_SameBits -/
def L_R_SameBits_0 : Lift.Loop := Lift.Loop.mk (.v (.ro (.int .u8)) :: (.v (.ro (.int .u8)) :: (u 3 ++ (.v (.int .i64) :: (u 20))))) [] 0 (fun x y => p_R_SameBits_0 x.1 x.2.1 x.2.2.1) (fun x y => m_R_SameBits_0 x.1 x.2.1 x.2.2.1) (fun x y K => o_R_SameBits_0 x.1 x.2.1 x.2.2.1 K)
noncomputable def E_R_SameBits : Env := { P := Try.prog, sum := sumsOf [], nio := 0, head := fun b => if b = 0 then ([0, 1, 5], []) else ([], []), after := fun _ => none, leave := fun b => if b = 0 then [4] else [], loops := fun b => if b = 0 then some L_R_SameBits_0 else none }
def W_R_SameBits (a0 : (List Int)) (a1 : (List Int)) : Prop := (
  condP ((↑(List.length a0) : Int) != (↑(List.length a1) : Int))
    ((false = decide (a0 = a1)) ∧
    True)
    ((p_R_SameBits_0 a0 a1 (0 : Int)) ∧
    condP (decide (List.drop (0 : Nat) a0 = List.drop (0 : Nat) a1))
      ((true = decide (a0 = a1)) ∧
      True)
      ((false = decide (a0 = a1)) ∧
      True)))
theorem V_R_SameBits (a0 : (List Int)) (a1 : (List Int)) : awp E_R_SameBits (bodyOf Try.f25) 0 (fin Try.prog S_R_SameBits (a0, a1, ()) [(4, none)] 0) (initSt S_R_SameBits.par (a0, a1, ()) 26) = W_R_SameBits a0 a1 := by kernel_rfl
def B_R_SameBits_0 (t0 : (List Int)) (t1 : (List Int)) (t5 : Int) (m : Nat) (K : AExit → St → Prop) : Prop := (
  condP (decide (t5 < (↑(List.length t0) : Int)))
    (((0 : Int) ≤ t5) ∧
    (t5 < (↑(List.length t0) : Int)) ∧
    ((0 : Int) ≤ t5) ∧
    (t5 < (↑(List.length t1) : Int)) ∧
    condP (List.getD t0 (Int.toNat t5) (0 : Int) != List.getD t1 (Int.toNat t5) (0 : Int))
      (X_R_SameBits_0_0 (false) K)
      ((p_R_SameBits_0 t0 t1 (IntKind.wrap IntKind.i64 (t5 + (1 : Int)))) ∧
      (m_R_SameBits_0 t0 t1 (IntKind.wrap IntKind.i64 (t5 + (1 : Int))) < m) ∧
      o_R_SameBits_0 t0 t1 (IntKind.wrap IntKind.i64 (t5 + (1 : Int))) K))
    (X_R_SameBits_0_1  K))
theorem R_R_SameBits_0 (t0 : (List Int)) (t1 : (List Int)) (t5 : Int) (m : Nat) (K : AExit → St → Prop) : awp E_R_SameBits (loopAt (bodyOf Try.f25) 0) 0 (roundP E_R_SameBits 0 L_R_SameBits_0 m K) (L_R_SameBits_0.abs (t0, t1, t5, ()) (())) = B_R_SameBits_0 t0 t1 t5 m K := by kernel_rfl
theorem I_R_SameBits_0 (h : ∀ (t0 : (List Int)) (t1 : (List Int)) (t5 : Int) (K : AExit → St → Prop), p_R_SameBits_0 t0 t1 t5 → o_R_SameBits_0 t0 t1 t5 K → B_R_SameBits_0 t0 t1 t5 (m_R_SameBits_0 t0 t1 t5) K) : LoopOK E_R_SameBits 0 (loopAt (bodyOf Try.f25) 0) L_R_SameBits_0 :=
  fun x y K hp ho => match x, y, hp, ho with | (t0, t1, t5, ()), (), hp, ho => (R_R_SameBits_0 t0 t1 t5 (m_R_SameBits_0 t0 t1 t5) K).mpr (h t0 t1 t5 K hp ho)
theorem G_R_SameBits : loopsAll E_R_SameBits (loopList (bodyOf Try.f25) 0) = (LoopOK E_R_SameBits 0 (loopAt (bodyOf Try.f25) 0) L_R_SameBits_0 ∧ True) := by kernel_rfl
theorem envok_R_SameBits  : EnvOK E_R_SameBits := ⟨sumsOf_ok (fun _ h => nomatch h), follows⟩
theorem whole_R_SameBits  (l0 : LoopOK E_R_SameBits 0 (loopAt (bodyOf Try.f25) 0) L_R_SameBits_0) (main : ∀ (a0 : (List Int)) (a1 : (List Int)), ((↑(List.length a0) : Int) ≤ big) → W_R_SameBits a0 a1) : SumOK Try.prog 25 S_R_SameBits :=
  fun_sound (E := E_R_SameBits) (envok_R_SameBits ) (fn := Try.f25) (c := bodyOf Try.f25) (ts := [(4, none)]) S_R_SameBits Try.func25 (body_some (by kernel_rfl)) (by kernel_rfl) (by kernel_rfl) (by kernel_rfl) (G_R_SameBits.mpr ⟨l0, trivial⟩) (fun x hp => match x, hp with | (a0, a1, ()), hp => (V_R_SameBits a0 a1).mpr (main a0 a1 hp))
/-! ### R_Version -/
noncomputable def E_R_Version : Env := { P := Try.prog, sum := sumsOf [], nio := 0, head := fun b => ([], []), after := fun _ => none, leave := fun b => [], loops := fun b => none }
def W_R_Version (a0 : Int) : Prop := (
  ((if decide (a0 ≥ (0 : Int)) = true then decide (a0 ≤ (3 : Int)) else false) = versionB a0) ∧
  True)
theorem V_R_Version (a0 : Int) : awp E_R_Version (bodyOf Try.f40) 0 (fin Try.prog S_R_Version (a0, ()) [(2, none)] 0) (initSt S_R_Version.par (a0, ()) 9) = W_R_Version a0 := by kernel_rfl
theorem G_R_Version : loopsAll E_R_Version (loopList (bodyOf Try.f40) 0) = (True) := by kernel_rfl
theorem envok_R_Version  : EnvOK E_R_Version := ⟨sumsOf_ok (fun _ h => nomatch h), follows⟩
theorem whole_R_Version   (main : ∀ (a0 : Int), (True) → W_R_Version a0) : SumOK Try.prog 40 S_R_Version :=
  fun_sound (E := E_R_Version) (envok_R_Version ) (fn := Try.f40) (c := bodyOf Try.f40) (ts := [(2, none)]) S_R_Version Try.func40 (body_some (by kernel_rfl)) (by kernel_rfl) (by kernel_rfl) (by kernel_rfl) (G_R_Version.mpr trivial) (fun x hp => match x, hp with | (a0, ()), hp => (V_R_Version a0).mpr (main a0 hp))
/-! ### bits_Check -/
def L_bits_Check_0 : Lift.Loop := Lift.Loop.mk (.v (.ro (.int .u8)) :: (u 4 ++ (.v (.ro (.int .u8)) :: (.v (.int .i64) :: (.v (.int .i64) :: (u 9)))))) [] 0 (fun x y => p_bits_Check_0 x.1 x.2.1 x.2.2.1 x.2.2.2.1) (fun x y => m_bits_Check_0 x.1 x.2.1 x.2.2.1 x.2.2.2.1) (fun x y K => o_bits_Check_0 x.1 x.2.1 x.2.2.1 x.2.2.2.1 K)
noncomputable def E_bits_Check : Env := { P := Try.prog, sum := sumsOf [], nio := 0, head := fun b => if b = 0 then ([0, 5, 6, 7], []) else ([], []), after := fun _ => none, leave := fun b => if b = 0 then [0, 2] else [], loops := fun b => if b = 0 then some L_bits_Check_0 else none }
def W_bits_Check (a0 : (List Int)) : Prop := (
  (p_bits_Check_0 a0 a0 (↑(List.length a0) : Int) (0 : Int)) ∧
  condP (List.any (List.drop (0 : Nat) a0) fun (x : Int) => decide (x > (1 : Int)))
    (((1 : Int) = bitsErr a0) ∧
    True)
    (condP (decide ((↑(List.length a0) : Int) > (4096 : Int)))
      (((2 : Int) = bitsErr a0) ∧
      True)
      (((0 : Int) = bitsErr a0) ∧
      True)))
theorem V_bits_Check (a0 : (List Int)) : awp E_bits_Check (bodyOf Try.f53) 0 (fin Try.prog S_bits_Check (a0, ()) [(2, none)] 0) (initSt S_bits_Check.par (a0, ()) 17) = W_bits_Check a0 := by kernel_rfl
def B_bits_Check_0 (t0 : (List Int)) (t5 : (List Int)) (t6 : Int) (t7 : Int) (m : Nat) (K : AExit → St → Prop) : Prop := (
  condP (decide (t7 < t6))
    (((0 : Int) ≤ t7) ∧
    (t7 < (↑(List.length t5) : Int)) ∧
    condP (decide (List.getD t5 (Int.toNat t7) (0 : Int) > (1 : Int)))
      (X_bits_Check_0_0 (t0) ((1 : Int)) K)
      ((p_bits_Check_0 t0 t5 t6 (IntKind.wrap IntKind.i64 (t7 + (1 : Int)))) ∧
      (m_bits_Check_0 t0 t5 t6 (IntKind.wrap IntKind.i64 (t7 + (1 : Int))) < m) ∧
      o_bits_Check_0 t0 t5 t6 (IntKind.wrap IntKind.i64 (t7 + (1 : Int))) K))
    (X_bits_Check_0_1 (t0) K))
theorem R_bits_Check_0 (t0 : (List Int)) (t5 : (List Int)) (t6 : Int) (t7 : Int) (m : Nat) (K : AExit → St → Prop) : awp E_bits_Check (loopAt (bodyOf Try.f53) 0) 0 (roundP E_bits_Check 0 L_bits_Check_0 m K) (L_bits_Check_0.abs (t0, t5, t6, t7, ()) (())) = B_bits_Check_0 t0 t5 t6 t7 m K := by kernel_rfl
theorem I_bits_Check_0 (h : ∀ (t0 : (List Int)) (t5 : (List Int)) (t6 : Int) (t7 : Int) (K : AExit → St → Prop), p_bits_Check_0 t0 t5 t6 t7 → o_bits_Check_0 t0 t5 t6 t7 K → B_bits_Check_0 t0 t5 t6 t7 (m_bits_Check_0 t0 t5 t6 t7) K) : LoopOK E_bits_Check 0 (loopAt (bodyOf Try.f53) 0) L_bits_Check_0 :=
  fun x y K hp ho => match x, y, hp, ho with | (t0, t5, t6, t7, ()), (), hp, ho => (R_bits_Check_0 t0 t5 t6 t7 (m_bits_Check_0 t0 t5 t6 t7) K).mpr (h t0 t5 t6 t7 K hp ho)
theorem G_bits_Check : loopsAll E_bits_Check (loopList (bodyOf Try.f53) 0) = (LoopOK E_bits_Check 0 (loopAt (bodyOf Try.f53) 0) L_bits_Check_0 ∧ True) := by kernel_rfl
theorem envok_bits_Check  : EnvOK E_bits_Check := ⟨sumsOf_ok (fun _ h => nomatch h), follows⟩
theorem whole_bits_Check  (l0 : LoopOK E_bits_Check 0 (loopAt (bodyOf Try.f53) 0) L_bits_Check_0) (main : ∀ (a0 : (List Int)), ((↑(List.length a0) : Int) ≤ big ∧ ∀ (y : Int), y ∈ a0 → (0 : Int) ≤ y) → W_bits_Check a0) : SumOK Try.prog 53 S_bits_Check :=
  fun_sound (E := E_bits_Check) (envok_bits_Check ) (fn := Try.f53) (c := bodyOf Try.f53) (ts := [(2, none)]) S_bits_Check Try.func53 (body_some (by kernel_rfl)) (by kernel_rfl) (by kernel_rfl) (by kernel_rfl) (G_bits_Check.mpr ⟨l0, trivial⟩) (fun x hp => match x, hp with | (a0, ()), hp => (V_bits_Check a0).mpr (main a0 hp))
/-! ### R_Bits -/
def L_R_Bits_0 : Lift.Loop := Lift.Loop.mk (.v (.ro (.int .u8)) :: (u 2 ++ (.v (.int .i64) :: (u 21)))) [] 0 (fun x y => p_R_Bits_0 x.1 x.2.1) (fun x y => m_R_Bits_0 x.1 x.2.1) (fun x y K => o_R_Bits_0 x.1 x.2.1 K)
noncomputable def E_R_Bits : Env := { P := Try.prog, sum := sumsOf [], nio := 0, head := fun b => if b = 0 then ([0, 3, 16, 17, 18, 19, 20], []) else ([], []), after := fun _ => none, leave := fun b => if b = 0 then [0, 2] else [], loops := fun b => if b = 0 then some L_R_Bits_0 else none }
def W_R_Bits (a0 : (List Int)) : Prop := (
  (p_R_Bits_0 a0 (0 : Int)) ∧
  condP (List.any (List.drop (0 : Nat) a0) badBit)
    (((1 : Int) = bitsErr a0) ∧
    True)
    (condP (decide ((↑(List.length a0) : Int) > (4096 : Int)))
      (((2 : Int) = bitsErr a0) ∧
      True)
      (((0 : Int) = bitsErr a0) ∧
      True)))
theorem V_R_Bits (a0 : (List Int)) : awp E_R_Bits (bodyOf Try.f22) 0 (fin Try.prog S_R_Bits (a0, ()) [(2, none)] 0) (initSt S_R_Bits.par (a0, ()) 25) = W_R_Bits a0 := by kernel_rfl
def B_R_Bits_0 (t0 : (List Int)) (t3 : Int) (m : Nat) (K : AExit → St → Prop) : Prop := (
  condP (decide (t3 < (↑(List.length t0) : Int)))
    (((0 : Int) ≤ t3) ∧
    (t3 < (↑(List.length t0) : Int)) ∧
    ((List.getD t0 (Int.toNat t3) (0 : Int) != (0 : Int)) = true → (0 : Int) ≤ t3) ∧
    ((List.getD t0 (Int.toNat t3) (0 : Int) != (0 : Int)) = true → t3 < (↑(List.length t0) : Int)) ∧
    condP (if (List.getD t0 (Int.toNat t3) (0 : Int) != (0 : Int)) = true then List.getD t0 (Int.toNat t3) (0 : Int) != (1 : Int) else false)
      (X_R_Bits_0_0 (t0) ((1 : Int)) K)
      ((p_R_Bits_0 t0 (IntKind.wrap IntKind.i64 (t3 + (1 : Int)))) ∧
      (m_R_Bits_0 t0 (IntKind.wrap IntKind.i64 (t3 + (1 : Int))) < m) ∧
      o_R_Bits_0 t0 (IntKind.wrap IntKind.i64 (t3 + (1 : Int))) K))
    (X_R_Bits_0_1 (t0) K))
theorem R_R_Bits_0 (t0 : (List Int)) (t3 : Int) (m : Nat) (K : AExit → St → Prop) : awp E_R_Bits (loopAt (bodyOf Try.f22) 0) 0 (roundP E_R_Bits 0 L_R_Bits_0 m K) (L_R_Bits_0.abs (t0, t3, ()) (())) = B_R_Bits_0 t0 t3 m K := by kernel_rfl
theorem I_R_Bits_0 (h : ∀ (t0 : (List Int)) (t3 : Int) (K : AExit → St → Prop), p_R_Bits_0 t0 t3 → o_R_Bits_0 t0 t3 K → B_R_Bits_0 t0 t3 (m_R_Bits_0 t0 t3) K) : LoopOK E_R_Bits 0 (loopAt (bodyOf Try.f22) 0) L_R_Bits_0 :=
  fun x y K hp ho => match x, y, hp, ho with | (t0, t3, ()), (), hp, ho => (R_R_Bits_0 t0 t3 (m_R_Bits_0 t0 t3) K).mpr (h t0 t3 K hp ho)
theorem G_R_Bits : loopsAll E_R_Bits (loopList (bodyOf Try.f22) 0) = (LoopOK E_R_Bits 0 (loopAt (bodyOf Try.f22) 0) L_R_Bits_0 ∧ True) := by kernel_rfl
theorem envok_R_Bits  : EnvOK E_R_Bits := ⟨sumsOf_ok (fun _ h => nomatch h), follows⟩
theorem whole_R_Bits  (l0 : LoopOK E_R_Bits 0 (loopAt (bodyOf Try.f22) 0) L_R_Bits_0) (main : ∀ (a0 : (List Int)), ((↑(List.length a0) : Int) ≤ big) → W_R_Bits a0) : SumOK Try.prog 22 S_R_Bits :=
  fun_sound (E := E_R_Bits) (envok_R_Bits ) (fn := Try.f22) (c := bodyOf Try.f22) (ts := [(2, none)]) S_R_Bits Try.func22 (body_some (by kernel_rfl)) (by kernel_rfl) (by kernel_rfl) (by kernel_rfl) (G_R_Bits.mpr ⟨l0, trivial⟩) (fun x hp => match x, hp with | (a0, ()), hp => (V_R_Bits a0).mpr (main a0 hp))
/-! ### R_BitAt -/
def L_R_BitAt_0 : Lift.Loop := Lift.Loop.mk (u 5 ++ (.v (.int .i64) :: (.v (.int .i64) :: (u 16)))) [] 0 (fun x y => p_R_BitAt_0 x.1 x.2.1) (fun x y => m_R_BitAt_0 x.1 x.2.1) (fun x y K => o_R_BitAt_0 x.1 x.2.1 K)
noncomputable def E_R_BitAt : Env := { P := Try.prog, sum := sumsOf [], nio := 0, head := fun b => if b = 0 then ([5, 6], []) else ([], []), after := fun _ => none, leave := fun b => if b = 0 then [4, 5] else [], loops := fun b => if b = 0 then some L_R_BitAt_0 else none }
def W_R_BitAt (a0 : ByteArray) (a1 : Int) : Prop := (
  ((8 : Int) ≠ (0 : Int)) ∧
  ((0 : Int) ≤ IntKind.wrap IntKind.i64 (Int.tdiv a1 (8 : Int))) ∧
  (IntKind.wrap IntKind.i64 (Int.tdiv a1 (8 : Int)) < (↑(ByteArray.size a0) : Int)) ∧
  ((8 : Int) ≠ (0 : Int)) ∧
  (p_R_BitAt_0 (IntKind.wrap IntKind.i64 (List.getD (strBytes a0) (Int.toNat (IntKind.wrap IntKind.i64 (Int.tdiv a1 (8 : Int)))) (0 : Int))) (Int.tmod a1 (8 : Int))) ∧
  ((2 : Int) ≠ (0 : Int)) ∧
  (IntKind.wrap IntKind.u8 (Int.tmod (IntKind.wrap IntKind.i64 (List.getD (strBytes a0) (Int.toNat (IntKind.wrap IntKind.i64 (Int.tdiv a1 (8 : Int)))) (0 : Int)) / (2 : Int) ^ Int.toNat ((7 : Int) - Int.tmod a1 (8 : Int))) (2 : Int)) = bitAt a0 (Int.toNat a1)) ∧
  True)
theorem V_R_BitAt (a0 : ByteArray) (a1 : Int) : awp E_R_BitAt (bodyOf Try.f54) 0 (fin Try.prog S_R_BitAt (a0, a1, ()) [(4, none)] 0) (initSt S_R_BitAt.par (a0, a1, ()) 23) = W_R_BitAt a0 a1 := by kernel_rfl
def B_R_BitAt_0 (t5 : Int) (t6 : Int) (m : Nat) (K : AExit → St → Prop) : Prop := (
  condP (decide (t6 < (7 : Int)))
    (((2 : Int) ≠ (0 : Int)) ∧
    (p_R_BitAt_0 (IntKind.wrap IntKind.i64 (Int.tdiv t5 (2 : Int))) (IntKind.wrap IntKind.i64 (t6 + (1 : Int)))) ∧
    (m_R_BitAt_0 (IntKind.wrap IntKind.i64 (Int.tdiv t5 (2 : Int))) (IntKind.wrap IntKind.i64 (t6 + (1 : Int))) < m) ∧
    o_R_BitAt_0 (IntKind.wrap IntKind.i64 (Int.tdiv t5 (2 : Int))) (IntKind.wrap IntKind.i64 (t6 + (1 : Int))) K)
    (X_R_BitAt_0_0 (t5) K))
theorem R_R_BitAt_0 (t5 : Int) (t6 : Int) (m : Nat) (K : AExit → St → Prop) : awp E_R_BitAt (loopAt (bodyOf Try.f54) 0) 0 (roundP E_R_BitAt 0 L_R_BitAt_0 m K) (L_R_BitAt_0.abs (t5, t6, ()) (())) = B_R_BitAt_0 t5 t6 m K := by kernel_rfl
theorem I_R_BitAt_0 (h : ∀ (t5 : Int) (t6 : Int) (K : AExit → St → Prop), p_R_BitAt_0 t5 t6 → o_R_BitAt_0 t5 t6 K → B_R_BitAt_0 t5 t6 (m_R_BitAt_0 t5 t6) K) : LoopOK E_R_BitAt 0 (loopAt (bodyOf Try.f54) 0) L_R_BitAt_0 :=
  fun x y K hp ho => match x, y, hp, ho with | (t5, t6, ()), (), hp, ho => (R_R_BitAt_0 t5 t6 (m_R_BitAt_0 t5 t6) K).mpr (h t5 t6 K hp ho)
theorem G_R_BitAt : loopsAll E_R_BitAt (loopList (bodyOf Try.f54) 0) = (LoopOK E_R_BitAt 0 (loopAt (bodyOf Try.f54) 0) L_R_BitAt_0 ∧ True) := by kernel_rfl
theorem envok_R_BitAt  : EnvOK E_R_BitAt := ⟨sumsOf_ok (fun _ h => nomatch h), follows⟩
theorem whole_R_BitAt  (l0 : LoopOK E_R_BitAt 0 (loopAt (bodyOf Try.f54) 0) L_R_BitAt_0) (main : ∀ (a0 : ByteArray) (a1 : Int), ((0 : Int) ≤ a1 ∧ a1 < (8 : Int) * (↑(ByteArray.size a0) : Int) ∧ (↑(ByteArray.size a0) : Int) ≤ big) → W_R_BitAt a0 a1) : SumOK Try.prog 54 S_R_BitAt :=
  fun_sound (E := E_R_BitAt) (envok_R_BitAt ) (fn := Try.f54) (c := bodyOf Try.f54) (ts := [(4, none)]) S_R_BitAt Try.func54 (body_some (by kernel_rfl)) (by kernel_rfl) (by kernel_rfl) (by kernel_rfl) (G_R_BitAt.mpr ⟨l0, trivial⟩) (fun x hp => match x, hp with | (a0, a1, ()), hp => (V_R_BitAt a0 a1).mpr (main a0 a1 hp))
/-! ### R_Unpack -/
def L_R_Unpack_0 : Lift.Loop := Lift.Loop.mk (.v .str :: (.v (.int .i64) :: (u 4 ++ (.sl 0 :: (.v (.int .i64) :: (u 23)))))) [(0, .row (.int .u8))] 1 (fun x y => p_R_Unpack_0 x.1 x.2.1 x.2.2.1 y.1) (fun x y => m_R_Unpack_0 x.1 x.2.1 x.2.2.1 y.1) (fun x y K => o_R_Unpack_0 x.1 x.2.1 x.2.2.1 y.1 K)
noncomputable def E_R_Unpack : Env := { P := Try.prog, sum := sumsOf [(54, S_R_BitAt)], nio := 0, head := fun b => if b = 0 then ([0, 1, 6, 7], [(6, (.int .u8))]) else ([], []), after := fun _ => none, leave := fun b => if b = 0 then [4, 5, 6] else [], loops := fun b => if b = 0 then some L_R_Unpack_0 else none }
def W_R_Unpack (a0 : ByteArray) (a1 : Int) : Prop := (
  condP (if decide (a1 < (0 : Int)) = true then true else decide (a1 > IntKind.wrap IntKind.i64 ((8 : Int) * (↑(ByteArray.size a0) : Int))))
    (([] = unpackL a0 a1) ∧
    ((1 : Int) = unpackErr a0 a1) ∧
    True)
    (condP (decide (a1 > (4096 : Int)))
      (([] = unpackL a0 a1) ∧
      ((2 : Int) = unpackErr a0 a1) ∧
      True)
      ((p_R_Unpack_0 a0 a1 (0 : Int) []) ∧
      ([] ++ seg (bitAt a0) (0 : Nat) (Int.toNat a1) = unpackL a0 a1) ∧
      ((0 : Int) = unpackErr a0 a1) ∧
      True)))
theorem V_R_Unpack (a0 : ByteArray) (a1 : Int) : awp E_R_Unpack (bodyOf Try.f24) 0 (fin Try.prog S_R_Unpack (a0, a1, ()) [(4, none), (5, none)] 0) (initSt S_R_Unpack.par (a0, a1, ()) 31) = W_R_Unpack a0 a1 := by kernel_rfl
def B_R_Unpack_0 (t0 : ByteArray) (t1 : Int) (t7 : Int) (r0 : (List Int)) (m : Nat) (K : AExit → St → Prop) : Prop := (
  condP (decide (t7 < t1))
    (((0 : Int) ≤ t7 ∧ t7 < (8 : Int) * (↑(ByteArray.size t0) : Int) ∧ (↑(ByteArray.size t0) : Int) ≤ big) ∧
    ((List.length r0 + List.length [bitAt t0 (Int.toNat t7)]) * (1 : Nat) ≤ (140737488355328 : Nat)) ∧
    (p_R_Unpack_0 t0 t1 (IntKind.wrap IntKind.i64 (t7 + (1 : Int))) (List.append r0 [bitAt t0 (Int.toNat t7)])) ∧
    (m_R_Unpack_0 t0 t1 (IntKind.wrap IntKind.i64 (t7 + (1 : Int))) (List.append r0 [bitAt t0 (Int.toNat t7)]) < m) ∧
    o_R_Unpack_0 t0 t1 (IntKind.wrap IntKind.i64 (t7 + (1 : Int))) (List.append r0 [bitAt t0 (Int.toNat t7)]) K)
    (X_R_Unpack_0_0 (r0) K))
theorem R_R_Unpack_0 (t0 : ByteArray) (t1 : Int) (t7 : Int) (r0 : (List Int)) (m : Nat) (K : AExit → St → Prop) : awp E_R_Unpack (loopAt (bodyOf Try.f24) 0) 0 (roundP E_R_Unpack 0 L_R_Unpack_0 m K) (L_R_Unpack_0.abs (t0, t1, t7, ()) (r0, ())) = B_R_Unpack_0 t0 t1 t7 r0 m K := by kernel_rfl
theorem I_R_Unpack_0 (h : ∀ (t0 : ByteArray) (t1 : Int) (t7 : Int) (r0 : (List Int)) (K : AExit → St → Prop), p_R_Unpack_0 t0 t1 t7 r0 → o_R_Unpack_0 t0 t1 t7 r0 K → B_R_Unpack_0 t0 t1 t7 r0 (m_R_Unpack_0 t0 t1 t7 r0) K) : LoopOK E_R_Unpack 0 (loopAt (bodyOf Try.f24) 0) L_R_Unpack_0 :=
  fun x y K hp ho => match x, y, hp, ho with | (t0, t1, t7, ()), (r0, ()), hp, ho => (R_R_Unpack_0 t0 t1 t7 r0 (m_R_Unpack_0 t0 t1 t7 r0) K).mpr (h t0 t1 t7 r0 K hp ho)
theorem G_R_Unpack : loopsAll E_R_Unpack (loopList (bodyOf Try.f24) 0) = (LoopOK E_R_Unpack 0 (loopAt (bodyOf Try.f24) 0) L_R_Unpack_0 ∧ True) := by kernel_rfl
theorem envok_R_Unpack (h_R_BitAt : SumOK Try.prog 54 S_R_BitAt) : EnvOK E_R_Unpack := ⟨sumsOf_ok (List.forall_mem_cons.2 ⟨h_R_BitAt, (fun _ h => nomatch h)⟩), follows⟩
theorem whole_R_Unpack (h_R_BitAt : SumOK Try.prog 54 S_R_BitAt) (l0 : LoopOK E_R_Unpack 0 (loopAt (bodyOf Try.f24) 0) L_R_Unpack_0) (main : ∀ (a0 : ByteArray) (a1 : Int), ((↑(ByteArray.size a0) : Int) ≤ big) → W_R_Unpack a0 a1) : SumOK Try.prog 24 S_R_Unpack :=
  fun_sound (E := E_R_Unpack) (envok_R_Unpack h_R_BitAt) (fn := Try.f24) (c := bodyOf Try.f24) (ts := [(4, none), (5, none)]) S_R_Unpack Try.func24 (body_some (by kernel_rfl)) (by kernel_rfl) (by kernel_rfl) (by kernel_rfl) (G_R_Unpack.mpr ⟨l0, trivial⟩) (fun x hp => match x, hp with | (a0, a1, ()), hp => (V_R_Unpack a0 a1).mpr (main a0 a1 hp))
/-! ### R_Pack -/
def L_R_Pack_0 : Lift.Loop := Lift.Loop.mk (.v (.ro (.int .u8)) :: (u 2 ++ (.sl 0 :: (.v (.int .i64) :: (u 35))))) [(0, .row (.int .u8))] 1 (fun x y => p_R_Pack_0 x.1 x.2.1 y.1) (fun x y => m_R_Pack_0 x.1 x.2.1 y.1) (fun x y K => o_R_Pack_0 x.1 x.2.1 y.1 K)
def L_R_Pack_2 : Lift.Loop := Lift.Loop.mk (.v (.ro (.int .u8)) :: (u 2 ++ (.sl 0 :: (.v (.int .i64) :: (.v (.int .i64) :: (.v (.int .i64) :: (u 33))))))) [(0, .row (.int .u8))] 1 (fun x y => p_R_Pack_2 x.1 x.2.1 x.2.2.1 x.2.2.2.1 y.1) (fun x y => m_R_Pack_2 x.1 x.2.1 x.2.2.1 x.2.2.2.1 y.1) (fun x y K => o_R_Pack_2 x.1 x.2.1 x.2.2.1 x.2.2.2.1 y.1 K)
noncomputable def E_R_Pack : Env := { P := Try.prog, sum := sumsOf [], nio := 0, head := fun b => if b = 2 then ([0, 3, 4, 5, 6], []) else if b = 0 then ([0, 3, 4], [(3, (.int .u8))]) else ([], []), after := fun _ => none, leave := fun b => if b = 2 then [0, 2, 3, 4, 5] else if b = 0 then [2, 3] else [], loops := fun b => if b = 2 then some L_R_Pack_2 else if b = 0 then some L_R_Pack_0 else none }
def W_R_Pack (a0 : (List Int)) : Prop := (
  (p_R_Pack_0 a0 (0 : Int) []) ∧
  (strOfNums ([] ++ seg (fun (q : Nat) => pk a0 q (8 : Nat)) (Int.toNat (0 / 8 : Int)) ((List.length a0 + (7 : Nat)) / (8 : Nat))) = packS a0) ∧
  True)
theorem V_R_Pack (a0 : (List Int)) : awp E_R_Pack (bodyOf Try.f23) 0 (fin Try.prog S_R_Pack (a0, ()) [(2, none)] 0) (initSt S_R_Pack.par (a0, ()) 40) = W_R_Pack a0 := by kernel_rfl
def B_R_Pack_0 (t0 : (List Int)) (t4 : Int) (r0 : (List Int)) (m : Nat) (K : AExit → St → Prop) : Prop := (
  condP (decide (t4 < (↑(List.length t0) : Int)))
    ((p_R_Pack_2 t0 t4 (0 : Int) t4 r0) ∧
    ((List.length r0 + List.length [IntKind.wrap IntKind.u8 (pk t0 (Int.toNat (t4 / (8 : Int))) (8 : Nat))]) * (1 : Nat) ≤ (140737488355328 : Nat)) ∧
    (p_R_Pack_0 t0 (IntKind.wrap IntKind.i64 (t4 + (8 : Int))) (List.append r0 [IntKind.wrap IntKind.u8 (pk t0 (Int.toNat (t4 / (8 : Int))) (8 : Nat))])) ∧
    (m_R_Pack_0 t0 (IntKind.wrap IntKind.i64 (t4 + (8 : Int))) (List.append r0 [IntKind.wrap IntKind.u8 (pk t0 (Int.toNat (t4 / (8 : Int))) (8 : Nat))]) < m) ∧
    o_R_Pack_0 t0 (IntKind.wrap IntKind.i64 (t4 + (8 : Int))) (List.append r0 [IntKind.wrap IntKind.u8 (pk t0 (Int.toNat (t4 / (8 : Int))) (8 : Nat))]) K)
    (X_R_Pack_0_0 (r0) K))
theorem R_R_Pack_0 (t0 : (List Int)) (t4 : Int) (r0 : (List Int)) (m : Nat) (K : AExit → St → Prop) : awp E_R_Pack (loopAt (bodyOf Try.f23) 0) 0 (roundP E_R_Pack 0 L_R_Pack_0 m K) (L_R_Pack_0.abs (t0, t4, ()) (r0, ())) = B_R_Pack_0 t0 t4 r0 m K := by kernel_rfl
theorem I_R_Pack_0 (h : ∀ (t0 : (List Int)) (t4 : Int) (r0 : (List Int)) (K : AExit → St → Prop), p_R_Pack_0 t0 t4 r0 → o_R_Pack_0 t0 t4 r0 K → B_R_Pack_0 t0 t4 r0 (m_R_Pack_0 t0 t4 r0) K) : LoopOK E_R_Pack 0 (loopAt (bodyOf Try.f23) 0) L_R_Pack_0 :=
  fun x y K hp ho => match x, y, hp, ho with | (t0, t4, ()), (r0, ()), hp, ho => (R_R_Pack_0 t0 t4 r0 (m_R_Pack_0 t0 t4 r0) K).mpr (h t0 t4 r0 K hp ho)
def B_R_Pack_2 (t0 : (List Int)) (t4 : Int) (t5 : Int) (t6 : Int) (r0 : (List Int)) (m : Nat) (K : AExit → St → Prop) : Prop := (
  condP (decide (t6 < IntKind.wrap IntKind.i64 (t4 + (8 : Int))))
    (condP (decide (t6 < (↑(List.length t0) : Int)))
      (((0 : Int) ≤ t6) ∧
      (t6 < (↑(List.length t0) : Int)) ∧
      (p_R_Pack_2 t0 t4 (IntKind.wrap IntKind.i64 (IntKind.wrap IntKind.i64 (t5 * (2 : Int)) + IntKind.wrap IntKind.i64 (List.getD t0 (Int.toNat t6) (0 : Int)))) (IntKind.wrap IntKind.i64 (t6 + (1 : Int))) r0) ∧
      (m_R_Pack_2 t0 t4 (IntKind.wrap IntKind.i64 (IntKind.wrap IntKind.i64 (t5 * (2 : Int)) + IntKind.wrap IntKind.i64 (List.getD t0 (Int.toNat t6) (0 : Int)))) (IntKind.wrap IntKind.i64 (t6 + (1 : Int))) r0 < m) ∧
      o_R_Pack_2 t0 t4 (IntKind.wrap IntKind.i64 (IntKind.wrap IntKind.i64 (t5 * (2 : Int)) + IntKind.wrap IntKind.i64 (List.getD t0 (Int.toNat t6) (0 : Int)))) (IntKind.wrap IntKind.i64 (t6 + (1 : Int))) r0 K)
      ((p_R_Pack_2 t0 t4 (IntKind.wrap IntKind.i64 (t5 * (2 : Int))) (IntKind.wrap IntKind.i64 (t6 + (1 : Int))) r0) ∧
      (m_R_Pack_2 t0 t4 (IntKind.wrap IntKind.i64 (t5 * (2 : Int))) (IntKind.wrap IntKind.i64 (t6 + (1 : Int))) r0 < m) ∧
      o_R_Pack_2 t0 t4 (IntKind.wrap IntKind.i64 (t5 * (2 : Int))) (IntKind.wrap IntKind.i64 (t6 + (1 : Int))) r0 K))
    (X_R_Pack_2_0 (t0) (t4) (t5) (r0) K))
theorem R_R_Pack_2 (t0 : (List Int)) (t4 : Int) (t5 : Int) (t6 : Int) (r0 : (List Int)) (m : Nat) (K : AExit → St → Prop) : awp E_R_Pack (loopAt (bodyOf Try.f23) 2) 2 (roundP E_R_Pack 2 L_R_Pack_2 m K) (L_R_Pack_2.abs (t0, t4, t5, t6, ()) (r0, ())) = B_R_Pack_2 t0 t4 t5 t6 r0 m K := by kernel_rfl
theorem I_R_Pack_2 (h : ∀ (t0 : (List Int)) (t4 : Int) (t5 : Int) (t6 : Int) (r0 : (List Int)) (K : AExit → St → Prop), p_R_Pack_2 t0 t4 t5 t6 r0 → o_R_Pack_2 t0 t4 t5 t6 r0 K → B_R_Pack_2 t0 t4 t5 t6 r0 (m_R_Pack_2 t0 t4 t5 t6 r0) K) : LoopOK E_R_Pack 2 (loopAt (bodyOf Try.f23) 2) L_R_Pack_2 :=
  fun x y K hp ho => match x, y, hp, ho with | (t0, t4, t5, t6, ()), (r0, ()), hp, ho => (R_R_Pack_2 t0 t4 t5 t6 r0 (m_R_Pack_2 t0 t4 t5 t6 r0) K).mpr (h t0 t4 t5 t6 r0 K hp ho)
theorem G_R_Pack : loopsAll E_R_Pack (loopList (bodyOf Try.f23) 0) = (LoopOK E_R_Pack 0 (loopAt (bodyOf Try.f23) 0) L_R_Pack_0 ∧ LoopOK E_R_Pack 2 (loopAt (bodyOf Try.f23) 2) L_R_Pack_2 ∧ True) := by kernel_rfl
theorem envok_R_Pack  : EnvOK E_R_Pack := ⟨sumsOf_ok (fun _ h => nomatch h), follows⟩
theorem whole_R_Pack  (l0 : LoopOK E_R_Pack 0 (loopAt (bodyOf Try.f23) 0) L_R_Pack_0) (l2 : LoopOK E_R_Pack 2 (loopAt (bodyOf Try.f23) 2) L_R_Pack_2) (main : ∀ (a0 : (List Int)), (bitsErr a0 = (0 : Int)) → W_R_Pack a0) : SumOK Try.prog 23 S_R_Pack :=
  fun_sound (E := E_R_Pack) (envok_R_Pack ) (fn := Try.f23) (c := bodyOf Try.f23) (ts := [(2, none)]) S_R_Pack Try.func23 (body_some (by kernel_rfl)) (by kernel_rfl) (by kernel_rfl) (by kernel_rfl) (G_R_Pack.mpr ⟨l0, l2, trivial⟩) (fun x hp => match x, hp with | (a0, ()), hp => (V_R_Pack a0).mpr (main a0 hp))
/-! ### bits_Pack -/
def L_bits_Pack_0 : Lift.Loop := Lift.Loop.mk (u 5 ++ (.sl 0 :: (u 12 ++ (.v (.ro (.int .u8)) :: (.v (.int .i64) :: (.v (.int .i64) :: (u 19))))))) [(0, .row (.int .u8))] 1 (fun x y => p_bits_Pack_0 x.1 x.2.1 x.2.2.1 y.1) (fun x y => m_bits_Pack_0 x.1 x.2.1 x.2.2.1 y.1) (fun x y K => o_bits_Pack_0 x.1 x.2.1 x.2.2.1 y.1 K)
noncomputable def E_bits_Pack : Env := { P := Try.prog, sum := sumsOf [(53, S_bits_Check)], nio := 0, head := fun b => if b = 0 then ([5, 18, 19, 20], []) else ([], []), after := fun _ => none, leave := fun b => if b = 0 then [2, 3, 5] else [], loops := fun b => if b = 0 then some L_bits_Pack_0 else none }
def W_bits_Pack (a0 : (List Int)) : Prop := (
  ((↑(List.length a0) : Int) ≤ big ∧ ∀ (y : Int), y ∈ a0 → (0 : Int) ≤ y) ∧
  condP (bitsErr a0 != (0 : Int))
    ((ByteArray.mk #[] = if bitsErr a0 = (0 : Int) then packS a0 else ByteArray.mk #[]) ∧
    (bitsErr a0 = bitsErr a0) ∧
    True)
    (((8 : Int) ≠ (0 : Int)) ∧
    ((0 : Int) ≤ IntKind.wrap IntKind.i64 (Int.tdiv (IntKind.wrap IntKind.i64 ((↑(List.length a0) : Int) + (7 : Int))) (8 : Int))) ∧
    (IntKind.wrap IntKind.i64 (Int.tdiv (IntKind.wrap IntKind.i64 ((↑(List.length a0) : Int) + (7 : Int))) (8 : Int)) ≤ IntKind.wrap IntKind.i64 (Int.tdiv (IntKind.wrap IntKind.i64 ((↑(List.length a0) : Int) + (7 : Int))) (8 : Int))) ∧
    ((↑(1 : Nat) : Int) * IntKind.wrap IntKind.i64 (Int.tdiv (IntKind.wrap IntKind.i64 ((↑(List.length a0) : Int) + (7 : Int))) (8 : Int)) ≤ (281474976710656 : Int)) ∧
    (p_bits_Pack_0 a0 (↑(List.length a0) : Int) (0 : Int) (List.replicate (Int.toNat (IntKind.wrap IntKind.i64 (Int.tdiv (IntKind.wrap IntKind.i64 ((↑(List.length a0) : Int) + (7 : Int))) (8 : Int)))) (0 : Int))) ∧
    (strOfNums (packL a0) = if bitsErr a0 = (0 : Int) then packS a0 else ByteArray.mk #[]) ∧
    ((0 : Int) = bitsErr a0) ∧
    True))
theorem V_bits_Pack (a0 : (List Int)) : awp E_bits_Pack (bodyOf Try.f20) 0 (fin Try.prog S_bits_Pack (a0, ()) [(2, none), (3, none)] 0) (initSt S_bits_Pack.par (a0, ()) 40) = W_bits_Pack a0 := by kernel_rfl
def B_bits_Pack_0 (t18 : (List Int)) (t19 : Int) (t20 : Int) (r0 : (List Int)) (m : Nat) (K : AExit → St → Prop) : Prop := (
  condP (decide (t20 < t19))
    (((0 : Int) ≤ t20) ∧
    (t20 < (↑(List.length t18) : Int)) ∧
    ((8 : Int) ≠ (0 : Int)) ∧
    ((0 : Int) ≤ IntKind.wrap IntKind.i64 (Int.tdiv t20 (8 : Int))) ∧
    (IntKind.wrap IntKind.i64 (Int.tdiv t20 (8 : Int)) < (↑(List.length r0) : Int)) ∧
    ((8 : Int) ≠ (0 : Int)) ∧
    ((0 : Int) ≤ IntKind.wrap IntKind.i64 ((7 : Int) - Int.tmod t20 (8 : Int))) ∧
    ((0 : Int) ≤ IntKind.wrap IntKind.i64 (Int.tdiv t20 (8 : Int))) ∧
    (IntKind.wrap IntKind.i64 (Int.tdiv t20 (8 : Int)) < (↑(List.length r0) : Int)) ∧
    (p_bits_Pack_0 t18 t19 (IntKind.wrap IntKind.i64 (t20 + (1 : Int))) (List.set r0 (Int.toNat (IntKind.wrap IntKind.i64 (Int.tdiv t20 (8 : Int)))) (bits BinOp.or IntKind.u8 (List.getD r0 (Int.toNat (IntKind.wrap IntKind.i64 (Int.tdiv t20 (8 : Int)))) (0 : Int)) (IntKind.wrap IntKind.u8 (List.getD t18 (Int.toNat t20) (0 : Int) * (2 : Int) ^ min (Int.toNat (IntKind.wrap IntKind.i64 ((7 : Int) - Int.tmod t20 (8 : Int)))) (IntKind.bits IntKind.u8)))))) ∧
    (m_bits_Pack_0 t18 t19 (IntKind.wrap IntKind.i64 (t20 + (1 : Int))) (List.set r0 (Int.toNat (IntKind.wrap IntKind.i64 (Int.tdiv t20 (8 : Int)))) (bits BinOp.or IntKind.u8 (List.getD r0 (Int.toNat (IntKind.wrap IntKind.i64 (Int.tdiv t20 (8 : Int)))) (0 : Int)) (IntKind.wrap IntKind.u8 (List.getD t18 (Int.toNat t20) (0 : Int) * (2 : Int) ^ min (Int.toNat (IntKind.wrap IntKind.i64 ((7 : Int) - Int.tmod t20 (8 : Int)))) (IntKind.bits IntKind.u8))))) < m) ∧
    o_bits_Pack_0 t18 t19 (IntKind.wrap IntKind.i64 (t20 + (1 : Int))) (List.set r0 (Int.toNat (IntKind.wrap IntKind.i64 (Int.tdiv t20 (8 : Int)))) (bits BinOp.or IntKind.u8 (List.getD r0 (Int.toNat (IntKind.wrap IntKind.i64 (Int.tdiv t20 (8 : Int)))) (0 : Int)) (IntKind.wrap IntKind.u8 (List.getD t18 (Int.toNat t20) (0 : Int) * (2 : Int) ^ min (Int.toNat (IntKind.wrap IntKind.i64 ((7 : Int) - Int.tmod t20 (8 : Int)))) (IntKind.bits IntKind.u8))))) K)
    (X_bits_Pack_0_0 (r0) K))
theorem R_bits_Pack_0 (t18 : (List Int)) (t19 : Int) (t20 : Int) (r0 : (List Int)) (m : Nat) (K : AExit → St → Prop) : awp E_bits_Pack (loopAt (bodyOf Try.f20) 0) 0 (roundP E_bits_Pack 0 L_bits_Pack_0 m K) (L_bits_Pack_0.abs (t18, t19, t20, ()) (r0, ())) = B_bits_Pack_0 t18 t19 t20 r0 m K := by kernel_rfl
theorem I_bits_Pack_0 (h : ∀ (t18 : (List Int)) (t19 : Int) (t20 : Int) (r0 : (List Int)) (K : AExit → St → Prop), p_bits_Pack_0 t18 t19 t20 r0 → o_bits_Pack_0 t18 t19 t20 r0 K → B_bits_Pack_0 t18 t19 t20 r0 (m_bits_Pack_0 t18 t19 t20 r0) K) : LoopOK E_bits_Pack 0 (loopAt (bodyOf Try.f20) 0) L_bits_Pack_0 :=
  fun x y K hp ho => match x, y, hp, ho with | (t18, t19, t20, ()), (r0, ()), hp, ho => (R_bits_Pack_0 t18 t19 t20 r0 (m_bits_Pack_0 t18 t19 t20 r0) K).mpr (h t18 t19 t20 r0 K hp ho)
theorem G_bits_Pack : loopsAll E_bits_Pack (loopList (bodyOf Try.f20) 0) = (LoopOK E_bits_Pack 0 (loopAt (bodyOf Try.f20) 0) L_bits_Pack_0 ∧ True) := by kernel_rfl
theorem envok_bits_Pack (h_bits_Check : SumOK Try.prog 53 S_bits_Check) : EnvOK E_bits_Pack := ⟨sumsOf_ok (List.forall_mem_cons.2 ⟨h_bits_Check, (fun _ h => nomatch h)⟩), follows⟩
theorem whole_bits_Pack (h_bits_Check : SumOK Try.prog 53 S_bits_Check) (l0 : LoopOK E_bits_Pack 0 (loopAt (bodyOf Try.f20) 0) L_bits_Pack_0) (main : ∀ (a0 : (List Int)), ((↑(List.length a0) : Int) ≤ big ∧ ∀ (y : Int), y ∈ a0 → (0 : Int) ≤ y) → W_bits_Pack a0) : SumOK Try.prog 20 S_bits_Pack :=
  fun_sound (E := E_bits_Pack) (envok_bits_Pack h_bits_Check) (fn := Try.f20) (c := bodyOf Try.f20) (ts := [(2, none), (3, none)]) S_bits_Pack Try.func20 (body_some (by kernel_rfl)) (by kernel_rfl) (by kernel_rfl) (by kernel_rfl) (G_bits_Pack.mpr ⟨l0, trivial⟩) (fun x hp => match x, hp with | (a0, ()), hp => (V_bits_Pack a0).mpr (main a0 hp))
/-! ### bits_Unpack -/
def L_bits_Unpack_0 : Lift.Loop := Lift.Loop.mk (.v .str :: (u 5 ++ (.sl 0 :: (u 15 ++ (.v (.int .i64) :: (.v (.int .i64) :: (u 16))))))) [(0, .row (.int .u8))] 1 (fun x y => p_bits_Unpack_0 x.1 x.2.1 x.2.2.1 y.1) (fun x y => m_bits_Unpack_0 x.1 x.2.1 x.2.2.1 y.1) (fun x y K => o_bits_Unpack_0 x.1 x.2.1 x.2.2.1 y.1 K)
noncomputable def E_bits_Unpack : Env := { P := Try.prog, sum := sumsOf [], nio := 0, head := fun b => if b = 0 then ([0, 6, 22, 23], []) else ([], []), after := fun _ => none, leave := fun b => if b = 0 then [4, 5, 6] else [], loops := fun b => if b = 0 then some L_bits_Unpack_0 else none }
def W_bits_Unpack (a0 : ByteArray) (a1 : Int) : Prop := (
  condP (if decide (a1 < (0 : Int)) = true then true else decide (a1 > IntKind.wrap IntKind.i64 ((8 : Int) * (↑(ByteArray.size a0) : Int))))
    (([] = unpackL a0 a1) ∧
    ((1 : Int) = unpackErr a0 a1) ∧
    True)
    (condP (decide (a1 > (4096 : Int)))
      (([] = unpackL a0 a1) ∧
      ((2 : Int) = unpackErr a0 a1) ∧
      True)
      (((0 : Int) ≤ a1) ∧
      (a1 ≤ a1) ∧
      ((↑(1 : Nat) : Int) * a1 ≤ (281474976710656 : Int)) ∧
      (p_bits_Unpack_0 a0 (↑(List.length (List.replicate (Int.toNat a1) (0 : Int))) : Int) (0 : Int) (List.replicate (Int.toNat a1) (0 : Int))) ∧
      (fillFrom (List.replicate (Int.toNat a1) (0 : Int)) (0 : Nat) (bitAt a0) = unpackL a0 a1) ∧
      ((0 : Int) = unpackErr a0 a1) ∧
      True)))
theorem V_bits_Unpack (a0 : ByteArray) (a1 : Int) : awp E_bits_Unpack (bodyOf Try.f21) 0 (fin Try.prog S_bits_Unpack (a0, a1, ()) [(4, none), (5, none)] 0) (initSt S_bits_Unpack.par (a0, a1, ()) 40) = W_bits_Unpack a0 a1 := by kernel_rfl
def B_bits_Unpack_0 (t0 : ByteArray) (t22 : Int) (t23 : Int) (r0 : (List Int)) (m : Nat) (K : AExit → St → Prop) : Prop := (
  condP (decide (t23 < t22))
    (((8 : Int) ≠ (0 : Int)) ∧
    ((0 : Int) ≤ IntKind.wrap IntKind.i64 (Int.tdiv t23 (8 : Int))) ∧
    (IntKind.wrap IntKind.i64 (Int.tdiv t23 (8 : Int)) < (↑(ByteArray.size t0) : Int)) ∧
    ((8 : Int) ≠ (0 : Int)) ∧
    ((0 : Int) ≤ IntKind.wrap IntKind.i64 ((7 : Int) - Int.tmod t23 (8 : Int))) ∧
    ((0 : Int) ≤ t23) ∧
    (t23 < (↑(List.length r0) : Int)) ∧
    (p_bits_Unpack_0 t0 t22 (IntKind.wrap IntKind.i64 (t23 + (1 : Int))) (List.set r0 (Int.toNat t23) (bits BinOp.and IntKind.u8 (Int.fdiv (List.getD (strBytes t0) (Int.toNat (IntKind.wrap IntKind.i64 (Int.tdiv t23 (8 : Int)))) (0 : Int)) ((2 : Int) ^ min (Int.toNat (IntKind.wrap IntKind.i64 ((7 : Int) - Int.tmod t23 (8 : Int)))) (IntKind.bits IntKind.u8))) (1 : Int)))) ∧
    (m_bits_Unpack_0 t0 t22 (IntKind.wrap IntKind.i64 (t23 + (1 : Int))) (List.set r0 (Int.toNat t23) (bits BinOp.and IntKind.u8 (Int.fdiv (List.getD (strBytes t0) (Int.toNat (IntKind.wrap IntKind.i64 (Int.tdiv t23 (8 : Int)))) (0 : Int)) ((2 : Int) ^ min (Int.toNat (IntKind.wrap IntKind.i64 ((7 : Int) - Int.tmod t23 (8 : Int)))) (IntKind.bits IntKind.u8))) (1 : Int))) < m) ∧
    o_bits_Unpack_0 t0 t22 (IntKind.wrap IntKind.i64 (t23 + (1 : Int))) (List.set r0 (Int.toNat t23) (bits BinOp.and IntKind.u8 (Int.fdiv (List.getD (strBytes t0) (Int.toNat (IntKind.wrap IntKind.i64 (Int.tdiv t23 (8 : Int)))) (0 : Int)) ((2 : Int) ^ min (Int.toNat (IntKind.wrap IntKind.i64 ((7 : Int) - Int.tmod t23 (8 : Int)))) (IntKind.bits IntKind.u8))) (1 : Int))) K)
    (X_bits_Unpack_0_0 (r0) K))
theorem R_bits_Unpack_0 (t0 : ByteArray) (t22 : Int) (t23 : Int) (r0 : (List Int)) (m : Nat) (K : AExit → St → Prop) : awp E_bits_Unpack (loopAt (bodyOf Try.f21) 0) 0 (roundP E_bits_Unpack 0 L_bits_Unpack_0 m K) (L_bits_Unpack_0.abs (t0, t22, t23, ()) (r0, ())) = B_bits_Unpack_0 t0 t22 t23 r0 m K := by kernel_rfl
theorem I_bits_Unpack_0 (h : ∀ (t0 : ByteArray) (t22 : Int) (t23 : Int) (r0 : (List Int)) (K : AExit → St → Prop), p_bits_Unpack_0 t0 t22 t23 r0 → o_bits_Unpack_0 t0 t22 t23 r0 K → B_bits_Unpack_0 t0 t22 t23 r0 (m_bits_Unpack_0 t0 t22 t23 r0) K) : LoopOK E_bits_Unpack 0 (loopAt (bodyOf Try.f21) 0) L_bits_Unpack_0 :=
  fun x y K hp ho => match x, y, hp, ho with | (t0, t22, t23, ()), (r0, ()), hp, ho => (R_bits_Unpack_0 t0 t22 t23 r0 (m_bits_Unpack_0 t0 t22 t23 r0) K).mpr (h t0 t22 t23 r0 K hp ho)
theorem G_bits_Unpack : loopsAll E_bits_Unpack (loopList (bodyOf Try.f21) 0) = (LoopOK E_bits_Unpack 0 (loopAt (bodyOf Try.f21) 0) L_bits_Unpack_0 ∧ True) := by kernel_rfl
theorem envok_bits_Unpack  : EnvOK E_bits_Unpack := ⟨sumsOf_ok (fun _ h => nomatch h), follows⟩
theorem whole_bits_Unpack  (l0 : LoopOK E_bits_Unpack 0 (loopAt (bodyOf Try.f21) 0) L_bits_Unpack_0) (main : ∀ (a0 : ByteArray) (a1 : Int), ((↑(ByteArray.size a0) : Int) ≤ big) → W_bits_Unpack a0 a1) : SumOK Try.prog 21 S_bits_Unpack :=
  fun_sound (E := E_bits_Unpack) (envok_bits_Unpack ) (fn := Try.f21) (c := bodyOf Try.f21) (ts := [(4, none), (5, none)]) S_bits_Unpack Try.func21 (body_some (by kernel_rfl)) (by kernel_rfl) (by kernel_rfl) (by kernel_rfl) (G_bits_Unpack.mpr ⟨l0, trivial⟩) (fun x hp => match x, hp with | (a0, a1, ()), hp => (V_bits_Unpack a0 a1).mpr (main a0 a1 hp))
/-! ### law_BitsPack -/
noncomputable def E_law_BitsPack : Env := { P := Try.prog, sum := sumsOf [(20, S_bits_Pack), (21, S_bits_Unpack), (22, S_R_Bits), (23, S_R_Pack), (24, S_R_Unpack), (25, S_R_SameBits)], nio := 0, head := fun b => ([], []), after := fun _ => none, leave := fun b => [], loops := fun b => none }
def W_law_BitsPack (a0 : (List Int)) (a1 : ByteArray) (a2 : Int) : Prop := (
  ((↑(List.length a0) : Int) ≤ big ∧ ∀ (y : Int), y ∈ a0 → (0 : Int) ≤ y) ∧
  ((↑(ByteArray.size a1) : Int) ≤ big) ∧
  ((↑(List.length a0) : Int) ≤ big) ∧
  condP (bitsErr a0 == (0 : Int))
    ((bitsErr a0 = (0 : Int)) ∧
    ((↑(ByteArray.size a1) : Int) ≤ big) ∧
    ((if (if (bitsErr a0 == bitsErr a0) = true then ByteArray.toList (if bitsErr a0 = (0 : Int) then packS a0 else ByteArray.mk #[]) == ByteArray.toList (packS a0) else false) = true then unpackErr a1 a2 == unpackErr a1 a2 else false) = true → (↑(List.length (unpackL a1 a2)) : Int) ≤ big) ∧
    ((if (if (if (bitsErr a0 == bitsErr a0) = true then ByteArray.toList (if bitsErr a0 = (0 : Int) then packS a0 else ByteArray.mk #[]) == ByteArray.toList (packS a0) else false) = true then unpackErr a1 a2 == unpackErr a1 a2 else false) = true then decide (unpackL a1 a2 = unpackL a1 a2) else false) = true) ∧
    True)
    (((↑(ByteArray.size a1) : Int) ≤ big) ∧
    ((if (if (bitsErr a0 == bitsErr a0) = true then ByteArray.toList (if bitsErr a0 = (0 : Int) then packS a0 else ByteArray.mk #[]) == ByteArray.toList (ByteArray.mk #[]) else false) = true then unpackErr a1 a2 == unpackErr a1 a2 else false) = true → (↑(List.length (unpackL a1 a2)) : Int) ≤ big) ∧
    ((if (if (if (bitsErr a0 == bitsErr a0) = true then ByteArray.toList (if bitsErr a0 = (0 : Int) then packS a0 else ByteArray.mk #[]) == ByteArray.toList (ByteArray.mk #[]) else false) = true then unpackErr a1 a2 == unpackErr a1 a2 else false) = true then decide (unpackL a1 a2 = unpackL a1 a2) else false) = true) ∧
    True))
theorem V_law_BitsPack (a0 : (List Int)) (a1 : ByteArray) (a2 : Int) : awp E_law_BitsPack (bodyOf Try.f5) 0 (fin Try.prog S_law_BitsPack (a0, a1, a2, ()) [(6, none)] 0) (initSt S_law_BitsPack.par (a0, a1, a2, ()) 56) = W_law_BitsPack a0 a1 a2 := by kernel_rfl
theorem G_law_BitsPack : loopsAll E_law_BitsPack (loopList (bodyOf Try.f5) 0) = (True) := by kernel_rfl
theorem envok_law_BitsPack (h_bits_Pack : SumOK Try.prog 20 S_bits_Pack) (h_bits_Unpack : SumOK Try.prog 21 S_bits_Unpack) (h_R_Bits : SumOK Try.prog 22 S_R_Bits) (h_R_Pack : SumOK Try.prog 23 S_R_Pack) (h_R_Unpack : SumOK Try.prog 24 S_R_Unpack) (h_R_SameBits : SumOK Try.prog 25 S_R_SameBits) : EnvOK E_law_BitsPack := ⟨sumsOf_ok (List.forall_mem_cons.2 ⟨h_bits_Pack, (List.forall_mem_cons.2 ⟨h_bits_Unpack, (List.forall_mem_cons.2 ⟨h_R_Bits, (List.forall_mem_cons.2 ⟨h_R_Pack, (List.forall_mem_cons.2 ⟨h_R_Unpack, (List.forall_mem_cons.2 ⟨h_R_SameBits, (fun _ h => nomatch h)⟩)⟩)⟩)⟩)⟩)⟩), follows⟩
theorem whole_law_BitsPack (h_bits_Pack : SumOK Try.prog 20 S_bits_Pack) (h_bits_Unpack : SumOK Try.prog 21 S_bits_Unpack) (h_R_Bits : SumOK Try.prog 22 S_R_Bits) (h_R_Pack : SumOK Try.prog 23 S_R_Pack) (h_R_Unpack : SumOK Try.prog 24 S_R_Unpack) (h_R_SameBits : SumOK Try.prog 25 S_R_SameBits)  (main : ∀ (a0 : (List Int)) (a1 : ByteArray) (a2 : Int), ((↑(List.length a0) : Int) ≤ big ∧ (∀ (y : Int), y ∈ a0 → (0 : Int) ≤ y) ∧ (↑(ByteArray.size a1) : Int) ≤ big) → W_law_BitsPack a0 a1 a2) : SumOK Try.prog 5 S_law_BitsPack :=
  fun_sound (E := E_law_BitsPack) (envok_law_BitsPack h_bits_Pack h_bits_Unpack h_R_Bits h_R_Pack h_R_Unpack h_R_SameBits) (fn := Try.f5) (c := bodyOf Try.f5) (ts := [(6, none)]) S_law_BitsPack Try.func5 (body_some (by kernel_rfl)) (by kernel_rfl) (by kernel_rfl) (by kernel_rfl) (G_law_BitsPack.mpr trivial) (fun x hp => match x, hp with | (a0, a1, a2, ()), hp => (V_law_BitsPack a0 a1 a2).mpr (main a0 a1 a2 hp))
/-! ### harq_NewReceiver -/
noncomputable def E_harq_NewReceiver : Env := { P := Try.prog, sum := sumsOf [], nio := 0, head := fun b => ([], []), after := fun _ => none, leave := fun b => [], loops := fun b => none }
def W_harq_NewReceiver  : Prop := (
  ((List.replicate (8 : Nat) false, List.replicate (8 : Nat) false, ()) = (noFlags, noFlags, ())) ∧
  True)
theorem V_harq_NewReceiver  : awp E_harq_NewReceiver (bodyOf Try.f16) 0 (fin Try.prog S_harq_NewReceiver (()) [(0, none)] 0) (initSt S_harq_NewReceiver.par (()) 3) = W_harq_NewReceiver  := by kernel_rfl
theorem G_harq_NewReceiver : loopsAll E_harq_NewReceiver (loopList (bodyOf Try.f16) 0) = (True) := by kernel_rfl
theorem envok_harq_NewReceiver  : EnvOK E_harq_NewReceiver := ⟨sumsOf_ok (fun _ h => nomatch h), follows⟩
theorem whole_harq_NewReceiver   (main : (True) → W_harq_NewReceiver ) : SumOK Try.prog 16 S_harq_NewReceiver :=
  fun_sound (E := E_harq_NewReceiver) (envok_harq_NewReceiver ) (fn := Try.f16) (c := bodyOf Try.f16) (ts := [(0, none)]) S_harq_NewReceiver Try.func16 (body_some (by kernel_rfl)) (by kernel_rfl) (by kernel_rfl) (by kernel_rfl) (G_harq_NewReceiver.mpr trivial) (fun x hp => match x, hp with | (), hp => (V_harq_NewReceiver ).mpr (main  hp))
/-! ### R_NewTakes -/
def L_R_NewTakes_0 : Lift.Loop := Lift.Loop.mk (u 1 ++ (.addr 0 :: (.v (.int .i64) :: (u 12)))) [(0, .box (.pair (.arr 8 .bool) (.pair (.arr 8 .bool) .unit)))] 1 (fun x y => p_R_NewTakes_0 x.1 y.1) (fun x y => m_R_NewTakes_0 x.1 y.1) (fun x y K => o_R_NewTakes_0 x.1 y.1 K)
noncomputable def E_R_NewTakes : Env := { P := Try.prog, sum := sumsOf [], nio := 0, head := fun b => if b = 0 then ([1, 2], []) else ([], []), after := fun _ => none, leave := fun b => if b = 0 then [0, 1] else [], loops := fun b => if b = 0 then some L_R_NewTakes_0 else none }
def W_R_NewTakes  : Prop := (
  (p_R_NewTakes_0 (0 : Int) (List.replicate (8 : Nat) false, List.replicate (8 : Nat) false, ())) ∧
  ((List.replicate (8 : Nat) false, fillFrom (List.replicate (8 : Nat) false) (0 : Nat) fun (x : Nat) => true, ()) = (noFlags, List.replicate (8 : Nat) true, ())) ∧
  True)
theorem V_R_NewTakes  : awp E_R_NewTakes (bodyOf Try.f17) 0 (fin Try.prog S_R_NewTakes (()) [(0, none)] 0) (initSt S_R_NewTakes.par (()) 15) = W_R_NewTakes  := by kernel_rfl
def B_R_NewTakes_0 (t2 : Int) (r0 : ((List Bool) × ((List Bool) × Unit))) (m : Nat) (K : AExit → St → Prop) : Prop := (
  condP (decide (t2 < (8 : Int)))
    (((0 : Int) ≤ t2) ∧
    (t2 < (↑(8 : Nat) : Int)) ∧
    (p_R_NewTakes_0 (IntKind.wrap IntKind.i64 (t2 + (1 : Int))) (Prod.fst r0, List.set (Prod.fst (Prod.snd r0)) (Int.toNat t2) true, Prod.snd (Prod.snd r0))) ∧
    (m_R_NewTakes_0 (IntKind.wrap IntKind.i64 (t2 + (1 : Int))) (Prod.fst r0, List.set (Prod.fst (Prod.snd r0)) (Int.toNat t2) true, Prod.snd (Prod.snd r0)) < m) ∧
    o_R_NewTakes_0 (IntKind.wrap IntKind.i64 (t2 + (1 : Int))) (Prod.fst r0, List.set (Prod.fst (Prod.snd r0)) (Int.toNat t2) true, Prod.snd (Prod.snd r0)) K)
    (X_R_NewTakes_0_0 (r0) K))
theorem R_R_NewTakes_0 (t2 : Int) (r0 : ((List Bool) × ((List Bool) × Unit))) (m : Nat) (K : AExit → St → Prop) : awp E_R_NewTakes (loopAt (bodyOf Try.f17) 0) 0 (roundP E_R_NewTakes 0 L_R_NewTakes_0 m K) (L_R_NewTakes_0.abs (t2, ()) (r0, ())) = B_R_NewTakes_0 t2 r0 m K := by kernel_rfl
theorem I_R_NewTakes_0 (h : ∀ (t2 : Int) (r0 : ((List Bool) × ((List Bool) × Unit))) (K : AExit → St → Prop), p_R_NewTakes_0 t2 r0 → o_R_NewTakes_0 t2 r0 K → B_R_NewTakes_0 t2 r0 (m_R_NewTakes_0 t2 r0) K) : LoopOK E_R_NewTakes 0 (loopAt (bodyOf Try.f17) 0) L_R_NewTakes_0 :=
  fun x y K hp ho => match x, y, hp, ho with | (t2, ()), (r0, ()), hp, ho => (R_R_NewTakes_0 t2 r0 (m_R_NewTakes_0 t2 r0) K).mpr (h t2 r0 K hp ho)
theorem G_R_NewTakes : loopsAll E_R_NewTakes (loopList (bodyOf Try.f17) 0) = (LoopOK E_R_NewTakes 0 (loopAt (bodyOf Try.f17) 0) L_R_NewTakes_0 ∧ True) := by kernel_rfl
theorem envok_R_NewTakes  : EnvOK E_R_NewTakes := ⟨sumsOf_ok (fun _ h => nomatch h), follows⟩
theorem whole_R_NewTakes  (l0 : LoopOK E_R_NewTakes 0 (loopAt (bodyOf Try.f17) 0) L_R_NewTakes_0) (main : (True) → W_R_NewTakes ) : SumOK Try.prog 17 S_R_NewTakes :=
  fun_sound (E := E_R_NewTakes) (envok_R_NewTakes ) (fn := Try.f17) (c := bodyOf Try.f17) (ts := [(0, none)]) S_R_NewTakes Try.func17 (body_some (by kernel_rfl)) (by kernel_rfl) (by kernel_rfl) (by kernel_rfl) (G_R_NewTakes.mpr ⟨l0, trivial⟩) (fun x hp => match x, hp with | (), hp => (V_R_NewTakes ).mpr (main  hp))
/-! ### harq_Receiver_Take -/
noncomputable def E_harq_Receiver_Take : Env := { P := Try.prog, sum := sumsOf [], nio := 1, head := fun b => ([], []), after := fun _ => none, leave := fun b => [], loops := fun b => none }
def W_harq_Receiver_Take (a0 : ((List Bool) × ((List Bool) × Unit))) (a1 : (Int × (Int × (Bool × (ByteArray × Unit))))) (a2 : Bool) : Prop := (
  condP (if (if (if decide (Prod.fst a1 < (0 : Int)) = true then true else decide (Prod.fst a1 > (7 : Int))) = true then true else decide (Prod.fst (Prod.snd a1) < (0 : Int))) = true then true else decide (Prod.fst (Prod.snd a1) > (3 : Int)))
    ((ByteArray.mk #[] = Prod.fst (Prod.fst (takeOf true a0 a1 a2))) ∧
    (false = Prod.fst (Prod.snd (Prod.fst (takeOf true a0 a1 a2)))) ∧
    (false = Prod.fst (Prod.snd (Prod.snd (Prod.fst (takeOf true a0 a1 a2))))) ∧
    ((1 : Int) = Prod.snd (Prod.snd (Prod.snd (Prod.fst (takeOf true a0 a1 a2))))) ∧
    (a0 = Prod.snd (takeOf true a0 a1 a2)) ∧
    True)
    (condP (decide ((↑(ByteArray.size (Prod.fst (Prod.snd (Prod.snd (Prod.snd a1))))) : Int) > (1500 : Int)))
      ((ByteArray.mk #[] = Prod.fst (Prod.fst (takeOf true a0 a1 a2))) ∧
      (false = Prod.fst (Prod.snd (Prod.fst (takeOf true a0 a1 a2)))) ∧
      (false = Prod.fst (Prod.snd (Prod.snd (Prod.fst (takeOf true a0 a1 a2))))) ∧
      ((2 : Int) = Prod.snd (Prod.snd (Prod.snd (Prod.fst (takeOf true a0 a1 a2))))) ∧
      (a0 = Prod.snd (takeOf true a0 a1 a2)) ∧
      True)
      (((0 : Int) ≤ Prod.fst a1) ∧
      (Prod.fst a1 < (↑(8 : Nat) : Int)) ∧
      condP (Prod.fst (Prod.snd (Prod.snd a1)) != List.getD (Prod.fst a0) (Int.toNat (Prod.fst a1)) false)
        (((0 : Int) ≤ Prod.fst a1) ∧
        (Prod.fst a1 < (↑(8 : Nat) : Int)) ∧
        ((0 : Int) ≤ Prod.fst a1) ∧
        (Prod.fst a1 < (↑(8 : Nat) : Int)) ∧
        ((0 : Int) ≤ Prod.fst a1) ∧
        (Prod.fst a1 < (↑(8 : Nat) : Int)) ∧
        condP (!List.getD (List.set (Prod.fst (Prod.snd a0)) (Int.toNat (Prod.fst a1)) true) (Int.toNat (Prod.fst a1)) false)
          ((ByteArray.mk #[] = Prod.fst (Prod.fst (takeOf true a0 a1 a2))) ∧
          (false = Prod.fst (Prod.snd (Prod.fst (takeOf true a0 a1 a2)))) ∧
          (true = Prod.fst (Prod.snd (Prod.snd (Prod.fst (takeOf true a0 a1 a2))))) ∧
          ((0 : Int) = Prod.snd (Prod.snd (Prod.snd (Prod.fst (takeOf true a0 a1 a2))))) ∧
          ((List.set (Prod.fst a0) (Int.toNat (Prod.fst a1)) (Prod.fst (Prod.snd (Prod.snd a1))), List.set (Prod.fst (Prod.snd a0)) (Int.toNat (Prod.fst a1)) true, Prod.snd (Prod.snd a0)) = Prod.snd (takeOf true a0 a1 a2)) ∧
          True)
          (condP (a2)
            (((0 : Int) ≤ Prod.fst a1) ∧
            (Prod.fst a1 < (↑(8 : Nat) : Int)) ∧
            (Prod.fst (Prod.snd (Prod.snd (Prod.snd a1))) = Prod.fst (Prod.fst (takeOf true a0 a1 a2))) ∧
            (true = Prod.fst (Prod.snd (Prod.fst (takeOf true a0 a1 a2)))) ∧
            (true = Prod.fst (Prod.snd (Prod.snd (Prod.fst (takeOf true a0 a1 a2))))) ∧
            ((0 : Int) = Prod.snd (Prod.snd (Prod.snd (Prod.fst (takeOf true a0 a1 a2))))) ∧
            ((List.set (Prod.fst a0) (Int.toNat (Prod.fst a1)) (Prod.fst (Prod.snd (Prod.snd a1))), List.set (List.set (Prod.fst (Prod.snd a0)) (Int.toNat (Prod.fst a1)) true) (Int.toNat (Prod.fst a1)) false, Prod.snd (Prod.snd a0)) = Prod.snd (takeOf true a0 a1 a2)) ∧
            True)
            ((ByteArray.mk #[] = Prod.fst (Prod.fst (takeOf true a0 a1 a2))) ∧
            (false = Prod.fst (Prod.snd (Prod.fst (takeOf true a0 a1 a2)))) ∧
            (false = Prod.fst (Prod.snd (Prod.snd (Prod.fst (takeOf true a0 a1 a2))))) ∧
            ((0 : Int) = Prod.snd (Prod.snd (Prod.snd (Prod.fst (takeOf true a0 a1 a2))))) ∧
            ((List.set (Prod.fst a0) (Int.toNat (Prod.fst a1)) (Prod.fst (Prod.snd (Prod.snd a1))), List.set (Prod.fst (Prod.snd a0)) (Int.toNat (Prod.fst a1)) true, Prod.snd (Prod.snd a0)) = Prod.snd (takeOf true a0 a1 a2)) ∧
            True)))
        (((0 : Int) ≤ Prod.fst a1) ∧
        (Prod.fst a1 < (↑(8 : Nat) : Int)) ∧
        condP (!List.getD (Prod.fst (Prod.snd a0)) (Int.toNat (Prod.fst a1)) false)
          ((ByteArray.mk #[] = Prod.fst (Prod.fst (takeOf true a0 a1 a2))) ∧
          (false = Prod.fst (Prod.snd (Prod.fst (takeOf true a0 a1 a2)))) ∧
          (true = Prod.fst (Prod.snd (Prod.snd (Prod.fst (takeOf true a0 a1 a2))))) ∧
          ((0 : Int) = Prod.snd (Prod.snd (Prod.snd (Prod.fst (takeOf true a0 a1 a2))))) ∧
          (a0 = Prod.snd (takeOf true a0 a1 a2)) ∧
          True)
          (condP (a2)
            (((0 : Int) ≤ Prod.fst a1) ∧
            (Prod.fst a1 < (↑(8 : Nat) : Int)) ∧
            (Prod.fst (Prod.snd (Prod.snd (Prod.snd a1))) = Prod.fst (Prod.fst (takeOf true a0 a1 a2))) ∧
            (true = Prod.fst (Prod.snd (Prod.fst (takeOf true a0 a1 a2)))) ∧
            (true = Prod.fst (Prod.snd (Prod.snd (Prod.fst (takeOf true a0 a1 a2))))) ∧
            ((0 : Int) = Prod.snd (Prod.snd (Prod.snd (Prod.fst (takeOf true a0 a1 a2))))) ∧
            ((Prod.fst a0, List.set (Prod.fst (Prod.snd a0)) (Int.toNat (Prod.fst a1)) false, Prod.snd (Prod.snd a0)) = Prod.snd (takeOf true a0 a1 a2)) ∧
            True)
            ((ByteArray.mk #[] = Prod.fst (Prod.fst (takeOf true a0 a1 a2))) ∧
            (false = Prod.fst (Prod.snd (Prod.fst (takeOf true a0 a1 a2)))) ∧
            (false = Prod.fst (Prod.snd (Prod.snd (Prod.fst (takeOf true a0 a1 a2))))) ∧
            ((0 : Int) = Prod.snd (Prod.snd (Prod.snd (Prod.fst (takeOf true a0 a1 a2))))) ∧
            (a0 = Prod.snd (takeOf true a0 a1 a2)) ∧
            True))))))
theorem V_harq_Receiver_Take (a0 : ((List Bool) × ((List Bool) × Unit))) (a1 : (Int × (Int × (Bool × (ByteArray × Unit))))) (a2 : Bool) : awp E_harq_Receiver_Take (bodyOf Try.f18) 0 (fin Try.prog S_harq_Receiver_Take (a0, a1, a2, ()) [(6, none), (7, none), (8, none), (9, none)] 1) (initSt S_harq_Receiver_Take.par (a0, a1, a2, ()) 71) = W_harq_Receiver_Take a0 a1 a2 := by kernel_rfl
theorem G_harq_Receiver_Take : loopsAll E_harq_Receiver_Take (loopList (bodyOf Try.f18) 0) = (True) := by kernel_rfl
theorem envok_harq_Receiver_Take  : EnvOK E_harq_Receiver_Take := ⟨sumsOf_ok (fun _ h => nomatch h), follows⟩
theorem whole_harq_Receiver_Take   (main : ∀ (a0 : ((List Bool) × ((List Bool) × Unit))) (a1 : (Int × (Int × (Bool × (ByteArray × Unit))))) (a2 : Bool), (True) → W_harq_Receiver_Take a0 a1 a2) : SumOK Try.prog 18 S_harq_Receiver_Take :=
  fun_sound (E := E_harq_Receiver_Take) (envok_harq_Receiver_Take ) (fn := Try.f18) (c := bodyOf Try.f18) (ts := [(6, none), (7, none), (8, none), (9, none)]) S_harq_Receiver_Take Try.func18 (body_some (by kernel_rfl)) (by kernel_rfl) (by kernel_rfl) (by kernel_rfl) (G_harq_Receiver_Take.mpr trivial) (fun x hp => match x, hp with | (a0, a1, a2, ()), hp => (V_harq_Receiver_Take a0 a1 a2).mpr (main a0 a1 a2 hp))
/-! ### R_Takes_Take -/
noncomputable def E_R_Takes_Take : Env := { P := Try.prog, sum := sumsOf [(40, S_R_Version)], nio := 1, head := fun b => ([], []), after := fun _ => none, leave := fun b => [], loops := fun b => none }
def W_R_Takes_Take (a0 : ((List Bool) × ((List Bool) × Unit))) (a1 : (Int × (Int × (Bool × (ByteArray × Unit))))) (a2 : Bool) : Prop := (
  ((if decide (Prod.fst a1 < (0 : Int)) = true then true else decide (Prod.fst a1 > (7 : Int))) = false → True) ∧
  condP (if (if decide (Prod.fst a1 < (0 : Int)) = true then true else decide (Prod.fst a1 > (7 : Int))) = true then true else !versionB (Prod.fst (Prod.snd a1)))
    ((ByteArray.mk #[] = Prod.fst (Prod.fst (takeOf false a0 a1 a2))) ∧
    (false = Prod.fst (Prod.snd (Prod.fst (takeOf false a0 a1 a2)))) ∧
    (false = Prod.fst (Prod.snd (Prod.snd (Prod.fst (takeOf false a0 a1 a2))))) ∧
    ((1 : Int) = Prod.snd (Prod.snd (Prod.snd (Prod.fst (takeOf false a0 a1 a2))))) ∧
    (a0 = Prod.snd (takeOf false a0 a1 a2)) ∧
    True)
    (condP (decide ((↑(ByteArray.size (Prod.fst (Prod.snd (Prod.snd (Prod.snd a1))))) : Int) > (1500 : Int)))
      ((ByteArray.mk #[] = Prod.fst (Prod.fst (takeOf false a0 a1 a2))) ∧
      (false = Prod.fst (Prod.snd (Prod.fst (takeOf false a0 a1 a2)))) ∧
      (false = Prod.fst (Prod.snd (Prod.snd (Prod.fst (takeOf false a0 a1 a2))))) ∧
      ((2 : Int) = Prod.snd (Prod.snd (Prod.snd (Prod.fst (takeOf false a0 a1 a2))))) ∧
      (a0 = Prod.snd (takeOf false a0 a1 a2)) ∧
      True)
      (((0 : Int) ≤ Prod.fst a1) ∧
      (Prod.fst a1 < (↑(8 : Nat) : Int)) ∧
      condP (List.getD (Prod.fst a0) (Int.toNat (Prod.fst a1)) false != Prod.fst (Prod.snd (Prod.snd a1)))
        (((0 : Int) ≤ Prod.fst a1) ∧
        (Prod.fst a1 < (↑(8 : Nat) : Int)) ∧
        ((0 : Int) ≤ Prod.fst a1) ∧
        (Prod.fst a1 < (↑(8 : Nat) : Int)) ∧
        ((0 : Int) ≤ Prod.fst a1) ∧
        (Prod.fst a1 < (↑(8 : Nat) : Int)) ∧
        condP (List.getD (List.set (Prod.fst (Prod.snd a0)) (Int.toNat (Prod.fst a1)) false) (Int.toNat (Prod.fst a1)) false)
          ((ByteArray.mk #[] = Prod.fst (Prod.fst (takeOf false a0 a1 a2))) ∧
          (false = Prod.fst (Prod.snd (Prod.fst (takeOf false a0 a1 a2)))) ∧
          (true = Prod.fst (Prod.snd (Prod.snd (Prod.fst (takeOf false a0 a1 a2))))) ∧
          ((0 : Int) = Prod.snd (Prod.snd (Prod.snd (Prod.fst (takeOf false a0 a1 a2))))) ∧
          ((List.set (Prod.fst a0) (Int.toNat (Prod.fst a1)) (Prod.fst (Prod.snd (Prod.snd a1))), List.set (Prod.fst (Prod.snd a0)) (Int.toNat (Prod.fst a1)) false, Prod.snd (Prod.snd a0)) = Prod.snd (takeOf false a0 a1 a2)) ∧
          True)
          (condP (!a2)
            ((ByteArray.mk #[] = Prod.fst (Prod.fst (takeOf false a0 a1 a2))) ∧
            (false = Prod.fst (Prod.snd (Prod.fst (takeOf false a0 a1 a2)))) ∧
            (false = Prod.fst (Prod.snd (Prod.snd (Prod.fst (takeOf false a0 a1 a2))))) ∧
            ((0 : Int) = Prod.snd (Prod.snd (Prod.snd (Prod.fst (takeOf false a0 a1 a2))))) ∧
            ((List.set (Prod.fst a0) (Int.toNat (Prod.fst a1)) (Prod.fst (Prod.snd (Prod.snd a1))), List.set (Prod.fst (Prod.snd a0)) (Int.toNat (Prod.fst a1)) false, Prod.snd (Prod.snd a0)) = Prod.snd (takeOf false a0 a1 a2)) ∧
            True)
            (((0 : Int) ≤ Prod.fst a1) ∧
            (Prod.fst a1 < (↑(8 : Nat) : Int)) ∧
            (Prod.fst (Prod.snd (Prod.snd (Prod.snd a1))) = Prod.fst (Prod.fst (takeOf false a0 a1 a2))) ∧
            (true = Prod.fst (Prod.snd (Prod.fst (takeOf false a0 a1 a2)))) ∧
            (true = Prod.fst (Prod.snd (Prod.snd (Prod.fst (takeOf false a0 a1 a2))))) ∧
            ((0 : Int) = Prod.snd (Prod.snd (Prod.snd (Prod.fst (takeOf false a0 a1 a2))))) ∧
            ((List.set (Prod.fst a0) (Int.toNat (Prod.fst a1)) (Prod.fst (Prod.snd (Prod.snd a1))), List.set (List.set (Prod.fst (Prod.snd a0)) (Int.toNat (Prod.fst a1)) false) (Int.toNat (Prod.fst a1)) true, Prod.snd (Prod.snd a0)) = Prod.snd (takeOf false a0 a1 a2)) ∧
            True)))
        (((0 : Int) ≤ Prod.fst a1) ∧
        (Prod.fst a1 < (↑(8 : Nat) : Int)) ∧
        condP (List.getD (Prod.fst (Prod.snd a0)) (Int.toNat (Prod.fst a1)) false)
          ((ByteArray.mk #[] = Prod.fst (Prod.fst (takeOf false a0 a1 a2))) ∧
          (false = Prod.fst (Prod.snd (Prod.fst (takeOf false a0 a1 a2)))) ∧
          (true = Prod.fst (Prod.snd (Prod.snd (Prod.fst (takeOf false a0 a1 a2))))) ∧
          ((0 : Int) = Prod.snd (Prod.snd (Prod.snd (Prod.fst (takeOf false a0 a1 a2))))) ∧
          (a0 = Prod.snd (takeOf false a0 a1 a2)) ∧
          True)
          (condP (!a2)
            ((ByteArray.mk #[] = Prod.fst (Prod.fst (takeOf false a0 a1 a2))) ∧
            (false = Prod.fst (Prod.snd (Prod.fst (takeOf false a0 a1 a2)))) ∧
            (false = Prod.fst (Prod.snd (Prod.snd (Prod.fst (takeOf false a0 a1 a2))))) ∧
            ((0 : Int) = Prod.snd (Prod.snd (Prod.snd (Prod.fst (takeOf false a0 a1 a2))))) ∧
            (a0 = Prod.snd (takeOf false a0 a1 a2)) ∧
            True)
            (((0 : Int) ≤ Prod.fst a1) ∧
            (Prod.fst a1 < (↑(8 : Nat) : Int)) ∧
            (Prod.fst (Prod.snd (Prod.snd (Prod.snd a1))) = Prod.fst (Prod.fst (takeOf false a0 a1 a2))) ∧
            (true = Prod.fst (Prod.snd (Prod.fst (takeOf false a0 a1 a2)))) ∧
            (true = Prod.fst (Prod.snd (Prod.snd (Prod.fst (takeOf false a0 a1 a2))))) ∧
            ((0 : Int) = Prod.snd (Prod.snd (Prod.snd (Prod.fst (takeOf false a0 a1 a2))))) ∧
            ((Prod.fst a0, List.set (Prod.fst (Prod.snd a0)) (Int.toNat (Prod.fst a1)) true, Prod.snd (Prod.snd a0)) = Prod.snd (takeOf false a0 a1 a2)) ∧
            True))))))
theorem V_R_Takes_Take (a0 : ((List Bool) × ((List Bool) × Unit))) (a1 : (Int × (Int × (Bool × (ByteArray × Unit))))) (a2 : Bool) : awp E_R_Takes_Take (bodyOf Try.f19) 0 (fin Try.prog S_R_Takes_Take (a0, a1, a2, ()) [(6, none), (7, none), (8, none), (9, none)] 1) (initSt S_R_Takes_Take.par (a0, a1, a2, ()) 65) = W_R_Takes_Take a0 a1 a2 := by kernel_rfl
theorem G_R_Takes_Take : loopsAll E_R_Takes_Take (loopList (bodyOf Try.f19) 0) = (True) := by kernel_rfl
theorem envok_R_Takes_Take (h_R_Version : SumOK Try.prog 40 S_R_Version) : EnvOK E_R_Takes_Take := ⟨sumsOf_ok (List.forall_mem_cons.2 ⟨h_R_Version, (fun _ h => nomatch h)⟩), follows⟩
theorem whole_R_Takes_Take (h_R_Version : SumOK Try.prog 40 S_R_Version)  (main : ∀ (a0 : ((List Bool) × ((List Bool) × Unit))) (a1 : (Int × (Int × (Bool × (ByteArray × Unit))))) (a2 : Bool), (True) → W_R_Takes_Take a0 a1 a2) : SumOK Try.prog 19 S_R_Takes_Take :=
  fun_sound (E := E_R_Takes_Take) (envok_R_Takes_Take h_R_Version) (fn := Try.f19) (c := bodyOf Try.f19) (ts := [(6, none), (7, none), (8, none), (9, none)]) S_R_Takes_Take Try.func19 (body_some (by kernel_rfl)) (by kernel_rfl) (by kernel_rfl) (by kernel_rfl) (G_R_Takes_Take.mpr trivial) (fun x hp => match x, hp with | (a0, a1, a2, ()), hp => (V_R_Takes_Take a0 a1 a2).mpr (main a0 a1 a2 hp))
/-! ### law_HarqTakes -/
def L_law_HarqTakes_0 : Lift.Loop := Lift.Loop.mk (.v (.ro (.pair (.int .i64) (.pair (.int .i64) (.pair (.int .i64) (.pair .bool (.pair .str .unit)))))) :: (u 2 ++ (.addr 0 :: (.addr 1 :: (.v (.int .i64) :: (u 84)))))) [(0, .box (.pair (.arr 8 .bool) (.pair (.arr 8 .bool) .unit))), (1, .box (.pair (.arr 8 .bool) (.pair (.arr 8 .bool) .unit)))] 2 (fun x y => p_law_HarqTakes_0 x.1 x.2.1 y.1 y.2.1) (fun x y => m_law_HarqTakes_0 x.1 x.2.1 y.1 y.2.1) (fun x y K => o_law_HarqTakes_0 x.1 x.2.1 y.1 y.2.1 K)
noncomputable def E_law_HarqTakes : Env := { P := Try.prog, sum := sumsOf [(16, S_harq_NewReceiver), (17, S_R_NewTakes), (18, S_harq_Receiver_Take), (19, S_R_Takes_Take)], nio := 0, head := fun b => if b = 0 then ([0, 3, 4, 5, 76, 77, 78, 81, 82, 83, 86, 87, 88], []) else ([], []), after := fun _ => none, leave := fun b => if b = 0 then [2] else [], loops := fun b => if b = 0 then some L_law_HarqTakes_0 else none }
def W_law_HarqTakes (a0 : (List (Int × (Int × (Int × (Bool × (ByteArray × Unit))))))) : Prop := (
  (True) ∧
  (True) ∧
  (p_law_HarqTakes_0 a0 (0 : Int) (noFlags, noFlags, ()) (noFlags, List.replicate (8 : Nat) true, ())) ∧
  (true = true) ∧
  True)
theorem V_law_HarqTakes (a0 : (List (Int × (Int × (Int × (Bool × (ByteArray × Unit))))))) : awp E_law_HarqTakes (bodyOf Try.f4) 0 (fin Try.prog S_law_HarqTakes (a0, ()) [(2, none)] 0) (initSt S_law_HarqTakes.par (a0, ()) 90) = W_law_HarqTakes a0 := by kernel_rfl
def B_law_HarqTakes_0 (t0 : (List (Int × (Int × (Int × (Bool × (ByteArray × Unit))))))) (t5 : Int) (r0 : ((List Bool) × ((List Bool) × Unit))) (r1 : ((List Bool) × ((List Bool) × Unit))) (m : Nat) (K : AExit → St → Prop) : Prop := (
  condP (decide (t5 < (↑(List.length t0) : Int)))
    (((0 : Int) ≤ t5) ∧
    (t5 < (↑(List.length t0) : Int)) ∧
    ((0 : Int) ≤ t5) ∧
    (t5 < (↑(List.length t0) : Int)) ∧
    ((0 : Int) ≤ t5) ∧
    (t5 < (↑(List.length t0) : Int)) ∧
    ((0 : Int) ≤ t5) ∧
    (t5 < (↑(List.length t0) : Int)) ∧
    ((0 : Int) ≤ t5) ∧
    (t5 < (↑(List.length t0) : Int)) ∧
    (True) ∧
    ((0 : Int) ≤ t5) ∧
    (t5 < (↑(List.length t0) : Int)) ∧
    (True) ∧
    condP (if (if (if (!ByteArray.toList (Prod.fst (Prod.fst (takeOf true r0 (Prod.fst (Prod.snd (List.getD t0 (Int.toNat t5) ((0 : Int), (0 : Int), (0 : Int), false, ByteArray.empty, ()))), Prod.fst (Prod.snd (Prod.snd (List.getD t0 (Int.toNat t5) ((0 : Int), (0 : Int), (0 : Int), false, ByteArray.empty, ())))), Prod.fst (Prod.snd (Prod.snd (Prod.snd (List.getD t0 (Int.toNat t5) ((0 : Int), (0 : Int), (0 : Int), false, ByteArray.empty, ()))))), Prod.fst (Prod.snd (Prod.snd (Prod.snd (Prod.snd (List.getD t0 (Int.toNat t5) ((0 : Int), (0 : Int), (0 : Int), false, ByteArray.empty, ())))))), ()) (Prod.fst (List.getD t0 (Int.toNat t5) ((0 : Int), (0 : Int), (0 : Int), false, ByteArray.empty, ())) == (1 : Int))))) == ByteArray.toList (Prod.fst (Prod.fst (takeOf false r1 (Prod.fst (Prod.snd (List.getD t0 (Int.toNat t5) ((0 : Int), (0 : Int), (0 : Int), false, ByteArray.empty, ()))), Prod.fst (Prod.snd (Prod.snd (List.getD t0 (Int.toNat t5) ((0 : Int), (0 : Int), (0 : Int), false, ByteArray.empty, ())))), Prod.fst (Prod.snd (Prod.snd (Prod.snd (List.getD t0 (Int.toNat t5) ((0 : Int), (0 : Int), (0 : Int), false, ByteArray.empty, ()))))), Prod.fst (Prod.snd (Prod.snd (Prod.snd (Prod.snd (List.getD t0 (Int.toNat t5) ((0 : Int), (0 : Int), (0 : Int), false, ByteArray.empty, ())))))), ()) (Prod.fst (List.getD t0 (Int.toNat t5) ((0 : Int), (0 : Int), (0 : Int), false, ByteArray.empty, ())) == (1 : Int)))))) = true then true else Prod.fst (Prod.snd (Prod.fst (takeOf true r0 (Prod.fst (Prod.snd (List.getD t0 (Int.toNat t5) ((0 : Int), (0 : Int), (0 : Int), false, ByteArray.empty, ()))), Prod.fst (Prod.snd (Prod.snd (List.getD t0 (Int.toNat t5) ((0 : Int), (0 : Int), (0 : Int), false, ByteArray.empty, ())))), Prod.fst (Prod.snd (Prod.snd (Prod.snd (List.getD t0 (Int.toNat t5) ((0 : Int), (0 : Int), (0 : Int), false, ByteArray.empty, ()))))), Prod.fst (Prod.snd (Prod.snd (Prod.snd (Prod.snd (List.getD t0 (Int.toNat t5) ((0 : Int), (0 : Int), (0 : Int), false, ByteArray.empty, ())))))), ()) (Prod.fst (List.getD t0 (Int.toNat t5) ((0 : Int), (0 : Int), (0 : Int), false, ByteArray.empty, ())) == (1 : Int))))) != Prod.fst (Prod.snd (Prod.fst (takeOf false r1 (Prod.fst (Prod.snd (List.getD t0 (Int.toNat t5) ((0 : Int), (0 : Int), (0 : Int), false, ByteArray.empty, ()))), Prod.fst (Prod.snd (Prod.snd (List.getD t0 (Int.toNat t5) ((0 : Int), (0 : Int), (0 : Int), false, ByteArray.empty, ())))), Prod.fst (Prod.snd (Prod.snd (Prod.snd (List.getD t0 (Int.toNat t5) ((0 : Int), (0 : Int), (0 : Int), false, ByteArray.empty, ()))))), Prod.fst (Prod.snd (Prod.snd (Prod.snd (Prod.snd (List.getD t0 (Int.toNat t5) ((0 : Int), (0 : Int), (0 : Int), false, ByteArray.empty, ())))))), ()) (Prod.fst (List.getD t0 (Int.toNat t5) ((0 : Int), (0 : Int), (0 : Int), false, ByteArray.empty, ())) == (1 : Int)))))) = true then true else Prod.fst (Prod.snd (Prod.snd (Prod.fst (takeOf true r0 (Prod.fst (Prod.snd (List.getD t0 (Int.toNat t5) ((0 : Int), (0 : Int), (0 : Int), false, ByteArray.empty, ()))), Prod.fst (Prod.snd (Prod.snd (List.getD t0 (Int.toNat t5) ((0 : Int), (0 : Int), (0 : Int), false, ByteArray.empty, ())))), Prod.fst (Prod.snd (Prod.snd (Prod.snd (List.getD t0 (Int.toNat t5) ((0 : Int), (0 : Int), (0 : Int), false, ByteArray.empty, ()))))), Prod.fst (Prod.snd (Prod.snd (Prod.snd (Prod.snd (List.getD t0 (Int.toNat t5) ((0 : Int), (0 : Int), (0 : Int), false, ByteArray.empty, ())))))), ()) (Prod.fst (List.getD t0 (Int.toNat t5) ((0 : Int), (0 : Int), (0 : Int), false, ByteArray.empty, ())) == (1 : Int)))))) != Prod.fst (Prod.snd (Prod.snd (Prod.fst (takeOf false r1 (Prod.fst (Prod.snd (List.getD t0 (Int.toNat t5) ((0 : Int), (0 : Int), (0 : Int), false, ByteArray.empty, ()))), Prod.fst (Prod.snd (Prod.snd (List.getD t0 (Int.toNat t5) ((0 : Int), (0 : Int), (0 : Int), false, ByteArray.empty, ())))), Prod.fst (Prod.snd (Prod.snd (Prod.snd (List.getD t0 (Int.toNat t5) ((0 : Int), (0 : Int), (0 : Int), false, ByteArray.empty, ()))))), Prod.fst (Prod.snd (Prod.snd (Prod.snd (Prod.snd (List.getD t0 (Int.toNat t5) ((0 : Int), (0 : Int), (0 : Int), false, ByteArray.empty, ())))))), ()) (Prod.fst (List.getD t0 (Int.toNat t5) ((0 : Int), (0 : Int), (0 : Int), false, ByteArray.empty, ())) == (1 : Int))))))) = true then true else Prod.snd (Prod.snd (Prod.snd (Prod.fst (takeOf true r0 (Prod.fst (Prod.snd (List.getD t0 (Int.toNat t5) ((0 : Int), (0 : Int), (0 : Int), false, ByteArray.empty, ()))), Prod.fst (Prod.snd (Prod.snd (List.getD t0 (Int.toNat t5) ((0 : Int), (0 : Int), (0 : Int), false, ByteArray.empty, ())))), Prod.fst (Prod.snd (Prod.snd (Prod.snd (List.getD t0 (Int.toNat t5) ((0 : Int), (0 : Int), (0 : Int), false, ByteArray.empty, ()))))), Prod.fst (Prod.snd (Prod.snd (Prod.snd (Prod.snd (List.getD t0 (Int.toNat t5) ((0 : Int), (0 : Int), (0 : Int), false, ByteArray.empty, ())))))), ()) (Prod.fst (List.getD t0 (Int.toNat t5) ((0 : Int), (0 : Int), (0 : Int), false, ByteArray.empty, ())) == (1 : Int)))))) != Prod.snd (Prod.snd (Prod.snd (Prod.fst (takeOf false r1 (Prod.fst (Prod.snd (List.getD t0 (Int.toNat t5) ((0 : Int), (0 : Int), (0 : Int), false, ByteArray.empty, ()))), Prod.fst (Prod.snd (Prod.snd (List.getD t0 (Int.toNat t5) ((0 : Int), (0 : Int), (0 : Int), false, ByteArray.empty, ())))), Prod.fst (Prod.snd (Prod.snd (Prod.snd (List.getD t0 (Int.toNat t5) ((0 : Int), (0 : Int), (0 : Int), false, ByteArray.empty, ()))))), Prod.fst (Prod.snd (Prod.snd (Prod.snd (Prod.snd (List.getD t0 (Int.toNat t5) ((0 : Int), (0 : Int), (0 : Int), false, ByteArray.empty, ())))))), ()) (Prod.fst (List.getD t0 (Int.toNat t5) ((0 : Int), (0 : Int), (0 : Int), false, ByteArray.empty, ())) == (1 : Int)))))))
      (X_law_HarqTakes_0_0 (false) K)
      ((p_law_HarqTakes_0 t0 (IntKind.wrap IntKind.i64 (t5 + (1 : Int))) (Prod.snd (takeOf true r0 (Prod.fst (Prod.snd (List.getD t0 (Int.toNat t5) ((0 : Int), (0 : Int), (0 : Int), false, ByteArray.empty, ()))), Prod.fst (Prod.snd (Prod.snd (List.getD t0 (Int.toNat t5) ((0 : Int), (0 : Int), (0 : Int), false, ByteArray.empty, ())))), Prod.fst (Prod.snd (Prod.snd (Prod.snd (List.getD t0 (Int.toNat t5) ((0 : Int), (0 : Int), (0 : Int), false, ByteArray.empty, ()))))), Prod.fst (Prod.snd (Prod.snd (Prod.snd (Prod.snd (List.getD t0 (Int.toNat t5) ((0 : Int), (0 : Int), (0 : Int), false, ByteArray.empty, ())))))), ()) (Prod.fst (List.getD t0 (Int.toNat t5) ((0 : Int), (0 : Int), (0 : Int), false, ByteArray.empty, ())) == (1 : Int)))) (Prod.snd (takeOf false r1 (Prod.fst (Prod.snd (List.getD t0 (Int.toNat t5) ((0 : Int), (0 : Int), (0 : Int), false, ByteArray.empty, ()))), Prod.fst (Prod.snd (Prod.snd (List.getD t0 (Int.toNat t5) ((0 : Int), (0 : Int), (0 : Int), false, ByteArray.empty, ())))), Prod.fst (Prod.snd (Prod.snd (Prod.snd (List.getD t0 (Int.toNat t5) ((0 : Int), (0 : Int), (0 : Int), false, ByteArray.empty, ()))))), Prod.fst (Prod.snd (Prod.snd (Prod.snd (Prod.snd (List.getD t0 (Int.toNat t5) ((0 : Int), (0 : Int), (0 : Int), false, ByteArray.empty, ())))))), ()) (Prod.fst (List.getD t0 (Int.toNat t5) ((0 : Int), (0 : Int), (0 : Int), false, ByteArray.empty, ())) == (1 : Int))))) ∧
      (m_law_HarqTakes_0 t0 (IntKind.wrap IntKind.i64 (t5 + (1 : Int))) (Prod.snd (takeOf true r0 (Prod.fst (Prod.snd (List.getD t0 (Int.toNat t5) ((0 : Int), (0 : Int), (0 : Int), false, ByteArray.empty, ()))), Prod.fst (Prod.snd (Prod.snd (List.getD t0 (Int.toNat t5) ((0 : Int), (0 : Int), (0 : Int), false, ByteArray.empty, ())))), Prod.fst (Prod.snd (Prod.snd (Prod.snd (List.getD t0 (Int.toNat t5) ((0 : Int), (0 : Int), (0 : Int), false, ByteArray.empty, ()))))), Prod.fst (Prod.snd (Prod.snd (Prod.snd (Prod.snd (List.getD t0 (Int.toNat t5) ((0 : Int), (0 : Int), (0 : Int), false, ByteArray.empty, ())))))), ()) (Prod.fst (List.getD t0 (Int.toNat t5) ((0 : Int), (0 : Int), (0 : Int), false, ByteArray.empty, ())) == (1 : Int)))) (Prod.snd (takeOf false r1 (Prod.fst (Prod.snd (List.getD t0 (Int.toNat t5) ((0 : Int), (0 : Int), (0 : Int), false, ByteArray.empty, ()))), Prod.fst (Prod.snd (Prod.snd (List.getD t0 (Int.toNat t5) ((0 : Int), (0 : Int), (0 : Int), false, ByteArray.empty, ())))), Prod.fst (Prod.snd (Prod.snd (Prod.snd (List.getD t0 (Int.toNat t5) ((0 : Int), (0 : Int), (0 : Int), false, ByteArray.empty, ()))))), Prod.fst (Prod.snd (Prod.snd (Prod.snd (Prod.snd (List.getD t0 (Int.toNat t5) ((0 : Int), (0 : Int), (0 : Int), false, ByteArray.empty, ())))))), ()) (Prod.fst (List.getD t0 (Int.toNat t5) ((0 : Int), (0 : Int), (0 : Int), false, ByteArray.empty, ())) == (1 : Int)))) < m) ∧
      o_law_HarqTakes_0 t0 (IntKind.wrap IntKind.i64 (t5 + (1 : Int))) (Prod.snd (takeOf true r0 (Prod.fst (Prod.snd (List.getD t0 (Int.toNat t5) ((0 : Int), (0 : Int), (0 : Int), false, ByteArray.empty, ()))), Prod.fst (Prod.snd (Prod.snd (List.getD t0 (Int.toNat t5) ((0 : Int), (0 : Int), (0 : Int), false, ByteArray.empty, ())))), Prod.fst (Prod.snd (Prod.snd (Prod.snd (List.getD t0 (Int.toNat t5) ((0 : Int), (0 : Int), (0 : Int), false, ByteArray.empty, ()))))), Prod.fst (Prod.snd (Prod.snd (Prod.snd (Prod.snd (List.getD t0 (Int.toNat t5) ((0 : Int), (0 : Int), (0 : Int), false, ByteArray.empty, ())))))), ()) (Prod.fst (List.getD t0 (Int.toNat t5) ((0 : Int), (0 : Int), (0 : Int), false, ByteArray.empty, ())) == (1 : Int)))) (Prod.snd (takeOf false r1 (Prod.fst (Prod.snd (List.getD t0 (Int.toNat t5) ((0 : Int), (0 : Int), (0 : Int), false, ByteArray.empty, ()))), Prod.fst (Prod.snd (Prod.snd (List.getD t0 (Int.toNat t5) ((0 : Int), (0 : Int), (0 : Int), false, ByteArray.empty, ())))), Prod.fst (Prod.snd (Prod.snd (Prod.snd (List.getD t0 (Int.toNat t5) ((0 : Int), (0 : Int), (0 : Int), false, ByteArray.empty, ()))))), Prod.fst (Prod.snd (Prod.snd (Prod.snd (Prod.snd (List.getD t0 (Int.toNat t5) ((0 : Int), (0 : Int), (0 : Int), false, ByteArray.empty, ())))))), ()) (Prod.fst (List.getD t0 (Int.toNat t5) ((0 : Int), (0 : Int), (0 : Int), false, ByteArray.empty, ())) == (1 : Int)))) K))
    (X_law_HarqTakes_0_1  K))
theorem R_law_HarqTakes_0 (t0 : (List (Int × (Int × (Int × (Bool × (ByteArray × Unit))))))) (t5 : Int) (r0 : ((List Bool) × ((List Bool) × Unit))) (r1 : ((List Bool) × ((List Bool) × Unit))) (m : Nat) (K : AExit → St → Prop) : awp E_law_HarqTakes (loopAt (bodyOf Try.f4) 0) 0 (roundP E_law_HarqTakes 0 L_law_HarqTakes_0 m K) (L_law_HarqTakes_0.abs (t0, t5, ()) (r0, r1, ())) = B_law_HarqTakes_0 t0 t5 r0 r1 m K := by kernel_rfl
theorem I_law_HarqTakes_0 (h : ∀ (t0 : (List (Int × (Int × (Int × (Bool × (ByteArray × Unit))))))) (t5 : Int) (r0 : ((List Bool) × ((List Bool) × Unit))) (r1 : ((List Bool) × ((List Bool) × Unit))) (K : AExit → St → Prop), p_law_HarqTakes_0 t0 t5 r0 r1 → o_law_HarqTakes_0 t0 t5 r0 r1 K → B_law_HarqTakes_0 t0 t5 r0 r1 (m_law_HarqTakes_0 t0 t5 r0 r1) K) : LoopOK E_law_HarqTakes 0 (loopAt (bodyOf Try.f4) 0) L_law_HarqTakes_0 :=
  fun x y K hp ho => match x, y, hp, ho with | (t0, t5, ()), (r0, r1, ()), hp, ho => (R_law_HarqTakes_0 t0 t5 r0 r1 (m_law_HarqTakes_0 t0 t5 r0 r1) K).mpr (h t0 t5 r0 r1 K hp ho)
theorem G_law_HarqTakes : loopsAll E_law_HarqTakes (loopList (bodyOf Try.f4) 0) = (LoopOK E_law_HarqTakes 0 (loopAt (bodyOf Try.f4) 0) L_law_HarqTakes_0 ∧ True) := by kernel_rfl
theorem envok_law_HarqTakes (h_harq_NewReceiver : SumOK Try.prog 16 S_harq_NewReceiver) (h_R_NewTakes : SumOK Try.prog 17 S_R_NewTakes) (h_harq_Receiver_Take : SumOK Try.prog 18 S_harq_Receiver_Take) (h_R_Takes_Take : SumOK Try.prog 19 S_R_Takes_Take) : EnvOK E_law_HarqTakes := ⟨sumsOf_ok (List.forall_mem_cons.2 ⟨h_harq_NewReceiver, (List.forall_mem_cons.2 ⟨h_R_NewTakes, (List.forall_mem_cons.2 ⟨h_harq_Receiver_Take, (List.forall_mem_cons.2 ⟨h_R_Takes_Take, (fun _ h => nomatch h)⟩)⟩)⟩)⟩), follows⟩
theorem whole_law_HarqTakes (h_harq_NewReceiver : SumOK Try.prog 16 S_harq_NewReceiver) (h_R_NewTakes : SumOK Try.prog 17 S_R_NewTakes) (h_harq_Receiver_Take : SumOK Try.prog 18 S_harq_Receiver_Take) (h_R_Takes_Take : SumOK Try.prog 19 S_R_Takes_Take) (l0 : LoopOK E_law_HarqTakes 0 (loopAt (bodyOf Try.f4) 0) L_law_HarqTakes_0) (main : ∀ (a0 : (List (Int × (Int × (Int × (Bool × (ByteArray × Unit))))))), ((↑(List.length a0) : Int) ≤ big) → W_law_HarqTakes a0) : SumOK Try.prog 4 S_law_HarqTakes :=
  fun_sound (E := E_law_HarqTakes) (envok_law_HarqTakes h_harq_NewReceiver h_R_NewTakes h_harq_Receiver_Take h_R_Takes_Take) (fn := Try.f4) (c := bodyOf Try.f4) (ts := [(2, none)]) S_law_HarqTakes Try.func4 (body_some (by kernel_rfl)) (by kernel_rfl) (by kernel_rfl) (by kernel_rfl) (G_law_HarqTakes.mpr ⟨l0, trivial⟩) (fun x hp => match x, hp with | (a0, ()), hp => (V_law_HarqTakes a0).mpr (main a0 hp))
end Go.Spec
