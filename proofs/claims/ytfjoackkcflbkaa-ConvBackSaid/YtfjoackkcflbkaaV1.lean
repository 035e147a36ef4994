/- The runs of the functions, told. -/
import Derived.Test.YtfjoackkcflbkaaLF
import Derived.Test.YtfjoackkcflbkaaProg
import Derived.Test.YtfjoackkcflbkaaE1
set_option linter.unusedVariables false
set_option linter.unusedSimpArgs false
namespace Go.Spec
open Go Go.Lift Go.Proofs
attribute [local irreducible] Go.Lift.awp
theorem follows : Try.prog.follows .mixedOrders = true := by kernel_rfl
/-! ### R_SameInts -/
def L_R_SameInts_0 : Lift.Loop := Lift.Loop.mk (.v (.ro (.int .i64)) :: (.v (.ro (.int .i64)) :: (u 3 ++ (.v (.int .i64) :: (u 20))))) [] 0 (fun x y => p_R_SameInts_0 x.1 x.2.1 x.2.2.1) (fun x y => m_R_SameInts_0 x.1 x.2.1 x.2.2.1) (fun x y K => o_R_SameInts_0 x.1 x.2.1 x.2.2.1 K)
noncomputable def E_R_SameInts : Env := { P := Try.prog, sum := sumsOf [], nio := 0, head := fun b => if b = 0 then ([0, 1, 5], []) else ([], []), after := fun _ => none, leave := fun b => if b = 0 then [4] else [], loops := fun b => if b = 0 then some L_R_SameInts_0 else none }
def W_R_SameInts (a0 : (List Int)) (a1 : (List Int)) : Prop := (
  condP ((↑(List.length a0) : Int) != (↑(List.length a1) : Int))
    ((false = decide (a0 = a1)) ∧
    True)
    ((p_R_SameInts_0 a0 a1 (0 : Int)) ∧
    condP (decide (List.drop (0 : Nat) a0 = List.drop (0 : Nat) a1))
      ((true = decide (a0 = a1)) ∧
      True)
      ((false = decide (a0 = a1)) ∧
      True)))
theorem V_R_SameInts (a0 : (List Int)) (a1 : (List Int)) : awp E_R_SameInts (bodyOf Try.f21) 0 (fin Try.prog S_R_SameInts (a0, a1, ()) [(4, none)] 0) (initSt S_R_SameInts.par (a0, a1, ()) 26) = W_R_SameInts a0 a1 := by kernel_rfl
def B_R_SameInts_0 (t0 : (List Int)) (t1 : (List Int)) (t5 : Int) (m : Nat) (K : AExit → St → Prop) : Prop := (
  condP (decide (t5 < (↑(List.length t0) : Int)))
    (((0 : Int) ≤ t5) ∧
    (t5 < (↑(List.length t0) : Int)) ∧
    ((0 : Int) ≤ t5) ∧
    (t5 < (↑(List.length t1) : Int)) ∧
    condP (List.getD t0 (Int.toNat t5) (0 : Int) != List.getD t1 (Int.toNat t5) (0 : Int))
      (X_R_SameInts_0_0 (false) K)
      ((p_R_SameInts_0 t0 t1 (IntKind.wrap IntKind.i64 (t5 + (1 : Int)))) ∧
      (m_R_SameInts_0 t0 t1 (IntKind.wrap IntKind.i64 (t5 + (1 : Int))) < m) ∧
      o_R_SameInts_0 t0 t1 (IntKind.wrap IntKind.i64 (t5 + (1 : Int))) K))
    (X_R_SameInts_0_1  K))
theorem R_R_SameInts_0 (t0 : (List Int)) (t1 : (List Int)) (t5 : Int) (m : Nat) (K : AExit → St → Prop) : awp E_R_SameInts (loopAt (bodyOf Try.f21) 0) 0 (roundP E_R_SameInts 0 L_R_SameInts_0 m K) (L_R_SameInts_0.abs (t0, t1, t5, ()) (())) = B_R_SameInts_0 t0 t1 t5 m K := by kernel_rfl
theorem I_R_SameInts_0 (h : ∀ (t0 : (List Int)) (t1 : (List Int)) (t5 : Int) (K : AExit → St → Prop), p_R_SameInts_0 t0 t1 t5 → o_R_SameInts_0 t0 t1 t5 K → B_R_SameInts_0 t0 t1 t5 (m_R_SameInts_0 t0 t1 t5) K) : LoopOK E_R_SameInts 0 (loopAt (bodyOf Try.f21) 0) L_R_SameInts_0 :=
  fun x y K hp ho => match x, y, hp, ho with | (t0, t1, t5, ()), (), hp, ho => (R_R_SameInts_0 t0 t1 t5 (m_R_SameInts_0 t0 t1 t5) K).mpr (h t0 t1 t5 K hp ho)
theorem G_R_SameInts : loopsAll E_R_SameInts (loopList (bodyOf Try.f21) 0) = (LoopOK E_R_SameInts 0 (loopAt (bodyOf Try.f21) 0) L_R_SameInts_0 ∧ True) := by kernel_rfl
theorem envok_R_SameInts  : EnvOK E_R_SameInts := ⟨sumsOf_ok (fun _ h => nomatch h), follows⟩
theorem whole_R_SameInts  (l0 : LoopOK E_R_SameInts 0 (loopAt (bodyOf Try.f21) 0) L_R_SameInts_0) (main : ∀ (a0 : (List Int)) (a1 : (List Int)), ((↑(List.length a0) : Int) ≤ big) → W_R_SameInts a0 a1) : SumOK Try.prog 21 S_R_SameInts :=
  fun_sound (E := E_R_SameInts) (envok_R_SameInts ) (fn := Try.f21) (c := bodyOf Try.f21) (ts := [(4, none)]) S_R_SameInts Try.func21 (body_some (by kernel_rfl)) (by kernel_rfl) (by kernel_rfl) (by kernel_rfl) (G_R_SameInts.mpr ⟨l0, trivial⟩) (fun x hp => match x, hp with | (a0, a1, ()), hp => (V_R_SameInts a0 a1).mpr (main a0 a1 hp))
/-! ### R_SameBits -/
def L_R_SameBits_0 : Lift.Loop := Lift.Loop.mk (.v (.ro (.int .u8)) :: (.v (.ro (.int .u8)) :: (u 3 ++ (.v (.int .i64) :: (u 20))))) [] 0 (fun x y => p_R_SameBits_0 x.1 x.2.1 x.2.2.1) (fun x y => m_R_SameBits_0 x.1 x.2.1 x.2.2.1) (fun x y K => o_R_SameBits_0 x.1 x.2.1 x.2.2.1 K)
noncomputable def E_R_SameBits : Env := { P := Try.prog, sum := sumsOf [], nio := 0, head := fun b => if b = 0 then ([0, 1, 5], []) else ([], []), after := fun _ => none, leave := fun b => if b = 0 then [4] else [], loops := fun b => if b = 0 then some L_R_SameBits_0 else none }
def W_R_SameBits (a0 : (List Int)) (a1 : (List Int)) : Prop := (
  condP ((↑(List.length a0) : Int) != (↑(List.length a1) : Int))
    ((false = decide (a0 = a1)) ∧
    True)
    ((p_R_SameBits_0 a0 a1 (0 : Int)) ∧
    condP (decide (List.drop (0 : Nat) a0 = List.drop (0 : Nat) a1))
      ((true = decide (a0 = a1)) ∧
      True)
      ((false = decide (a0 = a1)) ∧
      True)))
theorem V_R_SameBits (a0 : (List Int)) (a1 : (List Int)) : awp E_R_SameBits (bodyOf Try.f23) 0 (fin Try.prog S_R_SameBits (a0, a1, ()) [(4, none)] 0) (initSt S_R_SameBits.par (a0, a1, ()) 26) = W_R_SameBits a0 a1 := by kernel_rfl
def B_R_SameBits_0 (t0 : (List Int)) (t1 : (List Int)) (t5 : Int) (m : Nat) (K : AExit → St → Prop) : Prop := (
  condP (decide (t5 < (↑(List.length t0) : Int)))
    (((0 : Int) ≤ t5) ∧
    (t5 < (↑(List.length t0) : Int)) ∧
    ((0 : Int) ≤ t5) ∧
    (t5 < (↑(List.length t1) : Int)) ∧
    condP (List.getD t0 (Int.toNat t5) (0 : Int) != List.getD t1 (Int.toNat t5) (0 : Int))
      (X_R_SameBits_0_0 (false) K)
      ((p_R_SameBits_0 t0 t1 (IntKind.wrap IntKind.i64 (t5 + (1 : Int)))) ∧
      (m_R_SameBits_0 t0 t1 (IntKind.wrap IntKind.i64 (t5 + (1 : Int))) < m) ∧
      o_R_SameBits_0 t0 t1 (IntKind.wrap IntKind.i64 (t5 + (1 : Int))) K))
    (X_R_SameBits_0_1  K))
theorem R_R_SameBits_0 (t0 : (List Int)) (t1 : (List Int)) (t5 : Int) (m : Nat) (K : AExit → St → Prop) : awp E_R_SameBits (loopAt (bodyOf Try.f23) 0) 0 (roundP E_R_SameBits 0 L_R_SameBits_0 m K) (L_R_SameBits_0.abs (t0, t1, t5, ()) (())) = B_R_SameBits_0 t0 t1 t5 m K := by kernel_rfl
theorem I_R_SameBits_0 (h : ∀ (t0 : (List Int)) (t1 : (List Int)) (t5 : Int) (K : AExit → St → Prop), p_R_SameBits_0 t0 t1 t5 → o_R_SameBits_0 t0 t1 t5 K → B_R_SameBits_0 t0 t1 t5 (m_R_SameBits_0 t0 t1 t5) K) : LoopOK E_R_SameBits 0 (loopAt (bodyOf Try.f23) 0) L_R_SameBits_0 :=
  fun x y K hp ho => match x, y, hp, ho with | (t0, t1, t5, ()), (), hp, ho => (R_R_SameBits_0 t0 t1 t5 (m_R_SameBits_0 t0 t1 t5) K).mpr (h t0 t1 t5 K hp ho)
theorem G_R_SameBits : loopsAll E_R_SameBits (loopList (bodyOf Try.f23) 0) = (LoopOK E_R_SameBits 0 (loopAt (bodyOf Try.f23) 0) L_R_SameBits_0 ∧ True) := by kernel_rfl
theorem envok_R_SameBits  : EnvOK E_R_SameBits := ⟨sumsOf_ok (fun _ h => nomatch h), follows⟩
theorem whole_R_SameBits  (l0 : LoopOK E_R_SameBits 0 (loopAt (bodyOf Try.f23) 0) L_R_SameBits_0) (main : ∀ (a0 : (List Int)) (a1 : (List Int)), ((↑(List.length a0) : Int) ≤ big) → W_R_SameBits a0 a1) : SumOK Try.prog 23 S_R_SameBits :=
  fun_sound (E := E_R_SameBits) (envok_R_SameBits ) (fn := Try.f23) (c := bodyOf Try.f23) (ts := [(4, none)]) S_R_SameBits Try.func23 (body_some (by kernel_rfl)) (by kernel_rfl) (by kernel_rfl) (by kernel_rfl) (G_R_SameBits.mpr ⟨l0, trivial⟩) (fun x hp => match x, hp with | (a0, a1, ()), hp => (V_R_SameBits a0 a1).mpr (main a0 a1 hp))
/-! ### bits_Check -/
def L_bits_Check_0 : Lift.Loop := Lift.Loop.mk (.v (.ro (.int .u8)) :: (u 4 ++ (.v (.ro (.int .u8)) :: (.v (.int .i64) :: (.v (.int .i64) :: (u 9)))))) [] 0 (fun x y => p_bits_Check_0 x.1 x.2.1 x.2.2.1 x.2.2.2.1) (fun x y => m_bits_Check_0 x.1 x.2.1 x.2.2.1 x.2.2.2.1) (fun x y K => o_bits_Check_0 x.1 x.2.1 x.2.2.1 x.2.2.2.1 K)
noncomputable def E_bits_Check : Env := { P := Try.prog, sum := sumsOf [], nio := 0, head := fun b => if b = 0 then ([0, 5, 6, 7], []) else ([], []), after := fun _ => none, leave := fun b => if b = 0 then [0, 2] else [], loops := fun b => if b = 0 then some L_bits_Check_0 else none }
def W_bits_Check (a0 : (List Int)) : Prop := (
  (p_bits_Check_0 a0 a0 (↑(List.length a0) : Int) (0 : Int)) ∧
  condP (List.any (List.drop (0 : Nat) a0) fun (x : Int) => decide (x > (1 : Int)))
    (((1 : Int) = bitsErr a0) ∧
    True)
    (condP (decide ((↑(List.length a0) : Int) > (4096 : Int)))
      (((2 : Int) = bitsErr a0) ∧
      True)
      (((0 : Int) = bitsErr a0) ∧
      True)))
theorem V_bits_Check (a0 : (List Int)) : awp E_bits_Check (bodyOf Try.f74) 0 (fin Try.prog S_bits_Check (a0, ()) [(2, none)] 0) (initSt S_bits_Check.par (a0, ()) 17) = W_bits_Check a0 := by kernel_rfl
def B_bits_Check_0 (t0 : (List Int)) (t5 : (List Int)) (t6 : Int) (t7 : Int) (m : Nat) (K : AExit → St → Prop) : Prop := (
  condP (decide (t7 < t6))
    (((0 : Int) ≤ t7) ∧
    (t7 < (↑(List.length t5) : Int)) ∧
    condP (decide (List.getD t5 (Int.toNat t7) (0 : Int) > (1 : Int)))
      (X_bits_Check_0_0 (t0) ((1 : Int)) K)
      ((p_bits_Check_0 t0 t5 t6 (IntKind.wrap IntKind.i64 (t7 + (1 : Int)))) ∧
      (m_bits_Check_0 t0 t5 t6 (IntKind.wrap IntKind.i64 (t7 + (1 : Int))) < m) ∧
      o_bits_Check_0 t0 t5 t6 (IntKind.wrap IntKind.i64 (t7 + (1 : Int))) K))
    (X_bits_Check_0_1 (t0) K))
theorem R_bits_Check_0 (t0 : (List Int)) (t5 : (List Int)) (t6 : Int) (t7 : Int) (m : Nat) (K : AExit → St → Prop) : awp E_bits_Check (loopAt (bodyOf Try.f74) 0) 0 (roundP E_bits_Check 0 L_bits_Check_0 m K) (L_bits_Check_0.abs (t0, t5, t6, t7, ()) (())) = B_bits_Check_0 t0 t5 t6 t7 m K := by kernel_rfl
theorem I_bits_Check_0 (h : ∀ (t0 : (List Int)) (t5 : (List Int)) (t6 : Int) (t7 : Int) (K : AExit → St → Prop), p_bits_Check_0 t0 t5 t6 t7 → o_bits_Check_0 t0 t5 t6 t7 K → B_bits_Check_0 t0 t5 t6 t7 (m_bits_Check_0 t0 t5 t6 t7) K) : LoopOK E_bits_Check 0 (loopAt (bodyOf Try.f74) 0) L_bits_Check_0 :=
  fun x y K hp ho => match x, y, hp, ho with | (t0, t5, t6, t7, ()), (), hp, ho => (R_bits_Check_0 t0 t5 t6 t7 (m_bits_Check_0 t0 t5 t6 t7) K).mpr (h t0 t5 t6 t7 K hp ho)
theorem G_bits_Check : loopsAll E_bits_Check (loopList (bodyOf Try.f74) 0) = (LoopOK E_bits_Check 0 (loopAt (bodyOf Try.f74) 0) L_bits_Check_0 ∧ True) := by kernel_rfl
theorem envok_bits_Check  : EnvOK E_bits_Check := ⟨sumsOf_ok (fun _ h => nomatch h), follows⟩
theorem whole_bits_Check  (l0 : LoopOK E_bits_Check 0 (loopAt (bodyOf Try.f74) 0) L_bits_Check_0) (main : ∀ (a0 : (List Int)), ((↑(List.length a0) : Int) ≤ big ∧ ∀ (y : Int), y ∈ a0 → (0 : Int) ≤ y) → W_bits_Check a0) : SumOK Try.prog 74 S_bits_Check :=
  fun_sound (E := E_bits_Check) (envok_bits_Check ) (fn := Try.f74) (c := bodyOf Try.f74) (ts := [(2, none)]) S_bits_Check Try.func74 (body_some (by kernel_rfl)) (by kernel_rfl) (by kernel_rfl) (by kernel_rfl) (G_bits_Check.mpr ⟨l0, trivial⟩) (fun x hp => match x, hp with | (a0, ()), hp => (V_bits_Check a0).mpr (main a0 hp))
/-! ### R_Bits -/
def L_R_Bits_0 : Lift.Loop := Lift.Loop.mk (.v (.ro (.int .u8)) :: (u 2 ++ (.v (.int .i64) :: (u 21)))) [] 0 (fun x y => p_R_Bits_0 x.1 x.2.1) (fun x y => m_R_Bits_0 x.1 x.2.1) (fun x y K => o_R_Bits_0 x.1 x.2.1 K)
noncomputable def E_R_Bits : Env := { P := Try.prog, sum := sumsOf [], nio := 0, head := fun b => if b = 0 then ([0, 3, 16, 17, 18, 19, 20], []) else ([], []), after := fun _ => none, leave := fun b => if b = 0 then [0, 2] else [], loops := fun b => if b = 0 then some L_R_Bits_0 else none }
def W_R_Bits (a0 : (List Int)) : Prop := (
  (p_R_Bits_0 a0 (0 : Int)) ∧
  condP (List.any (List.drop (0 : Nat) a0) badBit)
    (((1 : Int) = bitsErr a0) ∧
    True)
    (condP (decide ((↑(List.length a0) : Int) > (4096 : Int)))
      (((2 : Int) = bitsErr a0) ∧
      True)
      (((0 : Int) = bitsErr a0) ∧
      True)))
theorem V_R_Bits (a0 : (List Int)) : awp E_R_Bits (bodyOf Try.f15) 0 (fin Try.prog S_R_Bits (a0, ()) [(2, none)] 0) (initSt S_R_Bits.par (a0, ()) 25) = W_R_Bits a0 := by kernel_rfl
def B_R_Bits_0 (t0 : (List Int)) (t3 : Int) (m : Nat) (K : AExit → St → Prop) : Prop := (
  condP (decide (t3 < (↑(List.length t0) : Int)))
    (((0 : Int) ≤ t3) ∧
    (t3 < (↑(List.length t0) : Int)) ∧
    ((List.getD t0 (Int.toNat t3) (0 : Int) != (0 : Int)) = true → (0 : Int) ≤ t3) ∧
    ((List.getD t0 (Int.toNat t3) (0 : Int) != (0 : Int)) = true → t3 < (↑(List.length t0) : Int)) ∧
    condP (if (List.getD t0 (Int.toNat t3) (0 : Int) != (0 : Int)) = true then List.getD t0 (Int.toNat t3) (0 : Int) != (1 : Int) else false)
      (X_R_Bits_0_0 (t0) ((1 : Int)) K)
      ((p_R_Bits_0 t0 (IntKind.wrap IntKind.i64 (t3 + (1 : Int)))) ∧
      (m_R_Bits_0 t0 (IntKind.wrap IntKind.i64 (t3 + (1 : Int))) < m) ∧
      o_R_Bits_0 t0 (IntKind.wrap IntKind.i64 (t3 + (1 : Int))) K))
    (X_R_Bits_0_1 (t0) K))
theorem R_R_Bits_0 (t0 : (List Int)) (t3 : Int) (m : Nat) (K : AExit → St → Prop) : awp E_R_Bits (loopAt (bodyOf Try.f15) 0) 0 (roundP E_R_Bits 0 L_R_Bits_0 m K) (L_R_Bits_0.abs (t0, t3, ()) (())) = B_R_Bits_0 t0 t3 m K := by kernel_rfl
theorem I_R_Bits_0 (h : ∀ (t0 : (List Int)) (t3 : Int) (K : AExit → St → Prop), p_R_Bits_0 t0 t3 → o_R_Bits_0 t0 t3 K → B_R_Bits_0 t0 t3 (m_R_Bits_0 t0 t3) K) : LoopOK E_R_Bits 0 (loopAt (bodyOf Try.f15) 0) L_R_Bits_0 :=
  fun x y K hp ho => match x, y, hp, ho with | (t0, t3, ()), (), hp, ho => (R_R_Bits_0 t0 t3 (m_R_Bits_0 t0 t3) K).mpr (h t0 t3 K hp ho)
theorem G_R_Bits : loopsAll E_R_Bits (loopList (bodyOf Try.f15) 0) = (LoopOK E_R_Bits 0 (loopAt (bodyOf Try.f15) 0) L_R_Bits_0 ∧ True) := by kernel_rfl
theorem envok_R_Bits  : EnvOK E_R_Bits := ⟨sumsOf_ok (fun _ h => nomatch h), follows⟩
theorem whole_R_Bits  (l0 : LoopOK E_R_Bits 0 (loopAt (bodyOf Try.f15) 0) L_R_Bits_0) (main : ∀ (a0 : (List Int)), ((↑(List.length a0) : Int) ≤ big) → W_R_Bits a0) : SumOK Try.prog 15 S_R_Bits :=
  fun_sound (E := E_R_Bits) (envok_R_Bits ) (fn := Try.f15) (c := bodyOf Try.f15) (ts := [(2, none)]) S_R_Bits Try.func15 (body_some (by kernel_rfl)) (by kernel_rfl) (by kernel_rfl) (by kernel_rfl) (G_R_Bits.mpr ⟨l0, trivial⟩) (fun x hp => match x, hp with | (a0, ()), hp => (V_R_Bits a0).mpr (main a0 hp))
/-! ### bits_Pack -/
def L_bits_Pack_0 : Lift.Loop := Lift.Loop.mk (u 5 ++ (.sl 0 :: (u 12 ++ (.v (.ro (.int .u8)) :: (.v (.int .i64) :: (.v (.int .i64) :: (u 19))))))) [(0, .row (.int .u8))] 1 (fun x y => p_bits_Pack_0 x.1 x.2.1 x.2.2.1 y.1) (fun x y => m_bits_Pack_0 x.1 x.2.1 x.2.2.1 y.1) (fun x y K => o_bits_Pack_0 x.1 x.2.1 x.2.2.1 y.1 K)
noncomputable def E_bits_Pack : Env := { P := Try.prog, sum := sumsOf [(74, S_bits_Check)], nio := 0, head := fun b => if b = 0 then ([5, 18, 19, 20], []) else ([], []), after := fun _ => none, leave := fun b => if b = 0 then [2, 3, 5] else [], loops := fun b => if b = 0 then some L_bits_Pack_0 else none }
def W_bits_Pack (a0 : (List Int)) : Prop := (
  ((↑(List.length a0) : Int) ≤ big ∧ ∀ (y : Int), y ∈ a0 → (0 : Int) ≤ y) ∧
  condP (bitsErr a0 != (0 : Int))
    ((ByteArray.mk #[] = if bitsErr a0 = (0 : Int) then packS a0 else ByteArray.mk #[]) ∧
    (bitsErr a0 = bitsErr a0) ∧
    True)
    (((8 : Int) ≠ (0 : Int)) ∧
    ((0 : Int) ≤ IntKind.wrap IntKind.i64 (Int.tdiv (IntKind.wrap IntKind.i64 ((↑(List.length a0) : Int) + (7 : Int))) (8 : Int))) ∧
    (IntKind.wrap IntKind.i64 (Int.tdiv (IntKind.wrap IntKind.i64 ((↑(List.length a0) : Int) + (7 : Int))) (8 : Int)) ≤ IntKind.wrap IntKind.i64 (Int.tdiv (IntKind.wrap IntKind.i64 ((↑(List.length a0) : Int) + (7 : Int))) (8 : Int))) ∧
    ((↑(1 : Nat) : Int) * IntKind.wrap IntKind.i64 (Int.tdiv (IntKind.wrap IntKind.i64 ((↑(List.length a0) : Int) + (7 : Int))) (8 : Int)) ≤ (281474976710656 : Int)) ∧
    (p_bits_Pack_0 a0 (↑(List.length a0) : Int) (0 : Int) (List.replicate (Int.toNat (IntKind.wrap IntKind.i64 (Int.tdiv (IntKind.wrap IntKind.i64 ((↑(List.length a0) : Int) + (7 : Int))) (8 : Int)))) (0 : Int))) ∧
    (strOfNums (packL a0) = if bitsErr a0 = (0 : Int) then packS a0 else ByteArray.mk #[]) ∧
    ((0 : Int) = bitsErr a0) ∧
    True))
theorem V_bits_Pack (a0 : (List Int)) : awp E_bits_Pack (bodyOf Try.f115) 0 (fin Try.prog S_bits_Pack (a0, ()) [(2, none), (3, none)] 0) (initSt S_bits_Pack.par (a0, ()) 40) = W_bits_Pack a0 := by kernel_rfl
def B_bits_Pack_0 (t18 : (List Int)) (t19 : Int) (t20 : Int) (r0 : (List Int)) (m : Nat) (K : AExit → St → Prop) : Prop := (
  condP (decide (t20 < t19))
    (((0 : Int) ≤ t20) ∧
    (t20 < (↑(List.length t18) : Int)) ∧
    ((8 : Int) ≠ (0 : Int)) ∧
    ((0 : Int) ≤ IntKind.wrap IntKind.i64 (Int.tdiv t20 (8 : Int))) ∧
    (IntKind.wrap IntKind.i64 (Int.tdiv t20 (8 : Int)) < (↑(List.length r0) : Int)) ∧
    ((8 : Int) ≠ (0 : Int)) ∧
    ((0 : Int) ≤ IntKind.wrap IntKind.i64 ((7 : Int) - Int.tmod t20 (8 : Int))) ∧
    ((0 : Int) ≤ IntKind.wrap IntKind.i64 (Int.tdiv t20 (8 : Int))) ∧
    (IntKind.wrap IntKind.i64 (Int.tdiv t20 (8 : Int)) < (↑(List.length r0) : Int)) ∧
    (p_bits_Pack_0 t18 t19 (IntKind.wrap IntKind.i64 (t20 + (1 : Int))) (List.set r0 (Int.toNat (IntKind.wrap IntKind.i64 (Int.tdiv t20 (8 : Int)))) (bits BinOp.or IntKind.u8 (List.getD r0 (Int.toNat (IntKind.wrap IntKind.i64 (Int.tdiv t20 (8 : Int)))) (0 : Int)) (IntKind.wrap IntKind.u8 (List.getD t18 (Int.toNat t20) (0 : Int) * (2 : Int) ^ min (Int.toNat (IntKind.wrap IntKind.i64 ((7 : Int) - Int.tmod t20 (8 : Int)))) (IntKind.bits IntKind.u8)))))) ∧
    (m_bits_Pack_0 t18 t19 (IntKind.wrap IntKind.i64 (t20 + (1 : Int))) (List.set r0 (Int.toNat (IntKind.wrap IntKind.i64 (Int.tdiv t20 (8 : Int)))) (bits BinOp.or IntKind.u8 (List.getD r0 (Int.toNat (IntKind.wrap IntKind.i64 (Int.tdiv t20 (8 : Int)))) (0 : Int)) (IntKind.wrap IntKind.u8 (List.getD t18 (Int.toNat t20) (0 : Int) * (2 : Int) ^ min (Int.toNat (IntKind.wrap IntKind.i64 ((7 : Int) - Int.tmod t20 (8 : Int)))) (IntKind.bits IntKind.u8))))) < m) ∧
    o_bits_Pack_0 t18 t19 (IntKind.wrap IntKind.i64 (t20 + (1 : Int))) (List.set r0 (Int.toNat (IntKind.wrap IntKind.i64 (Int.tdiv t20 (8 : Int)))) (bits BinOp.or IntKind.u8 (List.getD r0 (Int.toNat (IntKind.wrap IntKind.i64 (Int.tdiv t20 (8 : Int)))) (0 : Int)) (IntKind.wrap IntKind.u8 (List.getD t18 (Int.toNat t20) (0 : Int) * (2 : Int) ^ min (Int.toNat (IntKind.wrap IntKind.i64 ((7 : Int) - Int.tmod t20 (8 : Int)))) (IntKind.bits IntKind.u8))))) K)
    (X_bits_Pack_0_0 (r0) K))
theorem R_bits_Pack_0 (t18 : (List Int)) (t19 : Int) (t20 : Int) (r0 : (List Int)) (m : Nat) (K : AExit → St → Prop) : awp E_bits_Pack (loopAt (bodyOf Try.f115) 0) 0 (roundP E_bits_Pack 0 L_bits_Pack_0 m K) (L_bits_Pack_0.abs (t18, t19, t20, ()) (r0, ())) = B_bits_Pack_0 t18 t19 t20 r0 m K := by kernel_rfl
theorem I_bits_Pack_0 (h : ∀ (t18 : (List Int)) (t19 : Int) (t20 : Int) (r0 : (List Int)) (K : AExit → St → Prop), p_bits_Pack_0 t18 t19 t20 r0 → o_bits_Pack_0 t18 t19 t20 r0 K → B_bits_Pack_0 t18 t19 t20 r0 (m_bits_Pack_0 t18 t19 t20 r0) K) : LoopOK E_bits_Pack 0 (loopAt (bodyOf Try.f115) 0) L_bits_Pack_0 :=
  fun x y K hp ho => match x, y, hp, ho with | (t18, t19, t20, ()), (r0, ()), hp, ho => (R_bits_Pack_0 t18 t19 t20 r0 (m_bits_Pack_0 t18 t19 t20 r0) K).mpr (h t18 t19 t20 r0 K hp ho)
theorem G_bits_Pack : loopsAll E_bits_Pack (loopList (bodyOf Try.f115) 0) = (LoopOK E_bits_Pack 0 (loopAt (bodyOf Try.f115) 0) L_bits_Pack_0 ∧ True) := by kernel_rfl
theorem envok_bits_Pack (h_bits_Check : SumOK Try.prog 74 S_bits_Check) : EnvOK E_bits_Pack := ⟨sumsOf_ok (List.forall_mem_cons.2 ⟨h_bits_Check, (fun _ h => nomatch h)⟩), follows⟩
theorem whole_bits_Pack (h_bits_Check : SumOK Try.prog 74 S_bits_Check) (l0 : LoopOK E_bits_Pack 0 (loopAt (bodyOf Try.f115) 0) L_bits_Pack_0) (main : ∀ (a0 : (List Int)), ((↑(List.length a0) : Int) ≤ big ∧ ∀ (y : Int), y ∈ a0 → (0 : Int) ≤ y) → W_bits_Pack a0) : SumOK Try.prog 115 S_bits_Pack :=
  fun_sound (E := E_bits_Pack) (envok_bits_Pack h_bits_Check) (fn := Try.f115) (c := bodyOf Try.f115) (ts := [(2, none), (3, none)]) S_bits_Pack Try.func115 (body_some (by kernel_rfl)) (by kernel_rfl) (by kernel_rfl) (by kernel_rfl) (G_bits_Pack.mpr ⟨l0, trivial⟩) (fun x hp => match x, hp with | (a0, ()), hp => (V_bits_Pack a0).mpr (main a0 hp))
end Go.Spec
