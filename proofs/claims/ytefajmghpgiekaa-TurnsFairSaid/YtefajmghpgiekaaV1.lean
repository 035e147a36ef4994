/- The runs of the functions, told. -/
import Derived.Test.YtefajmghpgiekaaLF
import Derived.Test.YtefajmghpgiekaaProg
import Derived.Test.YtefajmghpgiekaaE1
set_option linter.unusedVariables false
set_option linter.unusedSimpArgs false
namespace Go.Spec
open Go Go.Lift Go.Proofs
attribute [local irreducible] Go.Lift.awp
theorem follows : Try.prog.follows .mixedOrders = true := by kernel_rfl
/-! ### R_SameInts -/
def L_R_SameInts_0 : Lift.Loop := Lift.Loop.mk (.v (.ro (.int .i64)) :: (.v (.ro (.int .i64)) :: (u 3 ++ (.v (.int .i64) :: (u 20))))) [] 0 (fun x y => p_R_SameInts_0 x.1 x.2.1 x.2.2.1) (fun x y => m_R_SameInts_0 x.1 x.2.1 x.2.2.1) (fun x y K => o_R_SameInts_0 x.1 x.2.1 x.2.2.1 K)
noncomputable def E_R_SameInts : Env := { P := Try.prog, sum := sumsOf [], nio := 0, head := fun b => if b = 0 then ([0, 1, 5], []) else ([], []), after := fun _ => none, leave := fun b => if b = 0 then [4] else [], loops := fun b => if b = 0 then some L_R_SameInts_0 else none }
def W_R_SameInts (a0 : (List Int)) (a1 : (List Int)) : Prop := (
  condP ((↑(List.length a0) : Int) != (↑(List.length a1) : Int))
    ((false = decide (a0 = a1)) ∧
    True)
    ((p_R_SameInts_0 a0 a1 (0 : Int)) ∧
    condP (decide (List.drop (0 : Nat) a0 = List.drop (0 : Nat) a1))
      ((true = decide (a0 = a1)) ∧
      True)
      ((false = decide (a0 = a1)) ∧
      True)))
theorem V_R_SameInts (a0 : (List Int)) (a1 : (List Int)) : awp E_R_SameInts (bodyOf Try.f20) 0 (fin Try.prog S_R_SameInts (a0, a1, ()) [(4, none)] 0) (initSt S_R_SameInts.par (a0, a1, ()) 26) = W_R_SameInts a0 a1 := by kernel_rfl
def B_R_SameInts_0 (t0 : (List Int)) (t1 : (List Int)) (t5 : Int) (m : Nat) (K : AExit → St → Prop) : Prop := (
  condP (decide (t5 < (↑(List.length t0) : Int)))
    (((0 : Int) ≤ t5) ∧
    (t5 < (↑(List.length t0) : Int)) ∧
    ((0 : Int) ≤ t5) ∧
    (t5 < (↑(List.length t1) : Int)) ∧
    condP (List.getD t0 (Int.toNat t5) (0 : Int) != List.getD t1 (Int.toNat t5) (0 : Int))
      (X_R_SameInts_0_0 (false) K)
      ((p_R_SameInts_0 t0 t1 (IntKind.wrap IntKind.i64 (t5 + (1 : Int)))) ∧
      (m_R_SameInts_0 t0 t1 (IntKind.wrap IntKind.i64 (t5 + (1 : Int))) < m) ∧
      o_R_SameInts_0 t0 t1 (IntKind.wrap IntKind.i64 (t5 + (1 : Int))) K))
    (X_R_SameInts_0_1  K))
theorem R_R_SameInts_0 (t0 : (List Int)) (t1 : (List Int)) (t5 : Int) (m : Nat) (K : AExit → St → Prop) : awp E_R_SameInts (loopAt (bodyOf Try.f20) 0) 0 (roundP E_R_SameInts 0 L_R_SameInts_0 m K) (L_R_SameInts_0.abs (t0, t1, t5, ()) (())) = B_R_SameInts_0 t0 t1 t5 m K := by kernel_rfl
theorem I_R_SameInts_0 (h : ∀ (t0 : (List Int)) (t1 : (List Int)) (t5 : Int) (K : AExit → St → Prop), p_R_SameInts_0 t0 t1 t5 → o_R_SameInts_0 t0 t1 t5 K → B_R_SameInts_0 t0 t1 t5 (m_R_SameInts_0 t0 t1 t5) K) : LoopOK E_R_SameInts 0 (loopAt (bodyOf Try.f20) 0) L_R_SameInts_0 :=
  fun x y K hp ho => match x, y, hp, ho with | (t0, t1, t5, ()), (), hp, ho => (R_R_SameInts_0 t0 t1 t5 (m_R_SameInts_0 t0 t1 t5) K).mpr (h t0 t1 t5 K hp ho)
theorem G_R_SameInts : loopsAll E_R_SameInts (loopList (bodyOf Try.f20) 0) = (LoopOK E_R_SameInts 0 (loopAt (bodyOf Try.f20) 0) L_R_SameInts_0 ∧ True) := by kernel_rfl
theorem envok_R_SameInts  : EnvOK E_R_SameInts := ⟨sumsOf_ok (fun _ h => nomatch h), follows⟩
theorem whole_R_SameInts  (l0 : LoopOK E_R_SameInts 0 (loopAt (bodyOf Try.f20) 0) L_R_SameInts_0) (main : ∀ (a0 : (List Int)) (a1 : (List Int)), ((↑(List.length a0) : Int) ≤ big) → W_R_SameInts a0 a1) : SumOK Try.prog 20 S_R_SameInts :=
  fun_sound (E := E_R_SameInts) (envok_R_SameInts ) (fn := Try.f20) (c := bodyOf Try.f20) (ts := [(4, none)]) S_R_SameInts Try.func20 (body_some (by kernel_rfl)) (by kernel_rfl) (by kernel_rfl) (by kernel_rfl) (G_R_SameInts.mpr ⟨l0, trivial⟩) (fun x hp => match x, hp with | (a0, a1, ()), hp => (V_R_SameInts a0 a1).mpr (main a0 a1 hp))
/-! ### bits_Check -/
def L_bits_Check_0 : Lift.Loop := Lift.Loop.mk (.v (.ro (.int .u8)) :: (u 4 ++ (.v (.ro (.int .u8)) :: (.v (.int .i64) :: (.v (.int .i64) :: (u 9)))))) [] 0 (fun x y => p_bits_Check_0 x.1 x.2.1 x.2.2.1 x.2.2.2.1) (fun x y => m_bits_Check_0 x.1 x.2.1 x.2.2.1 x.2.2.2.1) (fun x y K => o_bits_Check_0 x.1 x.2.1 x.2.2.1 x.2.2.2.1 K)
noncomputable def E_bits_Check : Env := { P := Try.prog, sum := sumsOf [], nio := 0, head := fun b => if b = 0 then ([0, 5, 6, 7], []) else ([], []), after := fun _ => none, leave := fun b => if b = 0 then [0, 2] else [], loops := fun b => if b = 0 then some L_bits_Check_0 else none }
def W_bits_Check (a0 : (List Int)) : Prop := (
  (p_bits_Check_0 a0 a0 (↑(List.length a0) : Int) (0 : Int)) ∧
  condP (List.any (List.drop (0 : Nat) a0) fun (x : Int) => decide (x > (1 : Int)))
    (((1 : Int) = bitsErr a0) ∧
    True)
    (condP (decide ((↑(List.length a0) : Int) > (4096 : Int)))
      (((2 : Int) = bitsErr a0) ∧
      True)
      (((0 : Int) = bitsErr a0) ∧
      True)))
theorem V_bits_Check (a0 : (List Int)) : awp E_bits_Check (bodyOf Try.f145) 0 (fin Try.prog S_bits_Check (a0, ()) [(2, none)] 0) (initSt S_bits_Check.par (a0, ()) 17) = W_bits_Check a0 := by kernel_rfl
def B_bits_Check_0 (t0 : (List Int)) (t5 : (List Int)) (t6 : Int) (t7 : Int) (m : Nat) (K : AExit → St → Prop) : Prop := (
  condP (decide (t7 < t6))
    (((0 : Int) ≤ t7) ∧
    (t7 < (↑(List.length t5) : Int)) ∧
    condP (decide (List.getD t5 (Int.toNat t7) (0 : Int) > (1 : Int)))
      (X_bits_Check_0_0 (t0) ((1 : Int)) K)
      ((p_bits_Check_0 t0 t5 t6 (IntKind.wrap IntKind.i64 (t7 + (1 : Int)))) ∧
      (m_bits_Check_0 t0 t5 t6 (IntKind.wrap IntKind.i64 (t7 + (1 : Int))) < m) ∧
      o_bits_Check_0 t0 t5 t6 (IntKind.wrap IntKind.i64 (t7 + (1 : Int))) K))
    (X_bits_Check_0_1 (t0) K))
theorem R_bits_Check_0 (t0 : (List Int)) (t5 : (List Int)) (t6 : Int) (t7 : Int) (m : Nat) (K : AExit → St → Prop) : awp E_bits_Check (loopAt (bodyOf Try.f145) 0) 0 (roundP E_bits_Check 0 L_bits_Check_0 m K) (L_bits_Check_0.abs (t0, t5, t6, t7, ()) (())) = B_bits_Check_0 t0 t5 t6 t7 m K := by kernel_rfl
theorem I_bits_Check_0 (h : ∀ (t0 : (List Int)) (t5 : (List Int)) (t6 : Int) (t7 : Int) (K : AExit → St → Prop), p_bits_Check_0 t0 t5 t6 t7 → o_bits_Check_0 t0 t5 t6 t7 K → B_bits_Check_0 t0 t5 t6 t7 (m_bits_Check_0 t0 t5 t6 t7) K) : LoopOK E_bits_Check 0 (loopAt (bodyOf Try.f145) 0) L_bits_Check_0 :=
  fun x y K hp ho => match x, y, hp, ho with | (t0, t5, t6, t7, ()), (), hp, ho => (R_bits_Check_0 t0 t5 t6 t7 (m_bits_Check_0 t0 t5 t6 t7) K).mpr (h t0 t5 t6 t7 K hp ho)
theorem G_bits_Check : loopsAll E_bits_Check (loopList (bodyOf Try.f145) 0) = (LoopOK E_bits_Check 0 (loopAt (bodyOf Try.f145) 0) L_bits_Check_0 ∧ True) := by kernel_rfl
theorem envok_bits_Check  : EnvOK E_bits_Check := ⟨sumsOf_ok (fun _ h => nomatch h), follows⟩
theorem whole_bits_Check  (l0 : LoopOK E_bits_Check 0 (loopAt (bodyOf Try.f145) 0) L_bits_Check_0) (main : ∀ (a0 : (List Int)), ((↑(List.length a0) : Int) ≤ big ∧ ∀ (y : Int), y ∈ a0 → (0 : Int) ≤ y) → W_bits_Check a0) : SumOK Try.prog 145 S_bits_Check :=
  fun_sound (E := E_bits_Check) (envok_bits_Check ) (fn := Try.f145) (c := bodyOf Try.f145) (ts := [(2, none)]) S_bits_Check Try.func145 (body_some (by kernel_rfl)) (by kernel_rfl) (by kernel_rfl) (by kernel_rfl) (G_bits_Check.mpr ⟨l0, trivial⟩) (fun x hp => match x, hp with | (a0, ()), hp => (V_bits_Check a0).mpr (main a0 hp))
/-! ### bits_Pack -/
def L_bits_Pack_0 : Lift.Loop := Lift.Loop.mk (u 5 ++ (.sl 0 :: (u 12 ++ (.v (.ro (.int .u8)) :: (.v (.int .i64) :: (.v (.int .i64) :: (u 19))))))) [(0, .row (.int .u8))] 1 (fun x y => p_bits_Pack_0 x.1 x.2.1 x.2.2.1 y.1) (fun x y => m_bits_Pack_0 x.1 x.2.1 x.2.2.1 y.1) (fun x y K => o_bits_Pack_0 x.1 x.2.1 x.2.2.1 y.1 K)
noncomputable def E_bits_Pack : Env := { P := Try.prog, sum := sumsOf [(145, S_bits_Check)], nio := 0, head := fun b => if b = 0 then ([5, 18, 19, 20], []) else ([], []), after := fun _ => none, leave := fun b => if b = 0 then [2, 3, 5] else [], loops := fun b => if b = 0 then some L_bits_Pack_0 else none }
def W_bits_Pack (a0 : (List Int)) : Prop := (
  ((↑(List.length a0) : Int) ≤ big ∧ ∀ (y : Int), y ∈ a0 → (0 : Int) ≤ y) ∧
  condP (bitsErr a0 != (0 : Int))
    ((ByteArray.mk (List.toArray (@List.nil UInt8)) = if bitsErr a0 = (0 : Int) then packS a0 else ByteArray.mk (List.toArray (@List.nil UInt8))) ∧
    (bitsErr a0 = bitsErr a0) ∧
    True)
    (((8 : Int) ≠ (0 : Int)) ∧
    ((0 : Int) ≤ IntKind.wrap IntKind.i64 (Int.tdiv (IntKind.wrap IntKind.i64 ((↑(List.length a0) : Int) + (7 : Int))) (8 : Int))) ∧
    (IntKind.wrap IntKind.i64 (Int.tdiv (IntKind.wrap IntKind.i64 ((↑(List.length a0) : Int) + (7 : Int))) (8 : Int)) ≤ IntKind.wrap IntKind.i64 (Int.tdiv (IntKind.wrap IntKind.i64 ((↑(List.length a0) : Int) + (7 : Int))) (8 : Int))) ∧
    ((↑(1 : Nat) : Int) * IntKind.wrap IntKind.i64 (Int.tdiv (IntKind.wrap IntKind.i64 ((↑(List.length a0) : Int) + (7 : Int))) (8 : Int)) ≤ (281474976710656 : Int)) ∧
    (p_bits_Pack_0 a0 (↑(List.length a0) : Int) (0 : Int) (List.replicate (Int.toNat (IntKind.wrap IntKind.i64 (Int.tdiv (IntKind.wrap IntKind.i64 ((↑(List.length a0) : Int) + (7 : Int))) (8 : Int)))) (0 : Int))) ∧
    (strOfNums (packL a0) = if bitsErr a0 = (0 : Int) then packS a0 else ByteArray.mk (List.toArray (@List.nil UInt8))) ∧
    ((0 : Int) = bitsErr a0) ∧
    True))
theorem V_bits_Pack (a0 : (List Int)) : awp E_bits_Pack (bodyOf Try.f132) 0 (fin Try.prog S_bits_Pack (a0, ()) [(2, none), (3, none)] 0) (initSt S_bits_Pack.par (a0, ()) 40) = W_bits_Pack a0 := by kernel_rfl
def B_bits_Pack_0 (t18 : (List Int)) (t19 : Int) (t20 : Int) (r0 : (List Int)) (m : Nat) (K : AExit → St → Prop) : Prop := (
  condP (decide (t20 < t19))
    (((0 : Int) ≤ t20) ∧
    (t20 < (↑(List.length t18) : Int)) ∧
    ((8 : Int) ≠ (0 : Int)) ∧
    ((0 : Int) ≤ IntKind.wrap IntKind.i64 (Int.tdiv t20 (8 : Int))) ∧
    (IntKind.wrap IntKind.i64 (Int.tdiv t20 (8 : Int)) < (↑(List.length r0) : Int)) ∧
    ((8 : Int) ≠ (0 : Int)) ∧
    ((0 : Int) ≤ IntKind.wrap IntKind.i64 ((7 : Int) - Int.tmod t20 (8 : Int))) ∧
    ((0 : Int) ≤ IntKind.wrap IntKind.i64 (Int.tdiv t20 (8 : Int))) ∧
    (IntKind.wrap IntKind.i64 (Int.tdiv t20 (8 : Int)) < (↑(List.length r0) : Int)) ∧
    (p_bits_Pack_0 t18 t19 (IntKind.wrap IntKind.i64 (t20 + (1 : Int))) (List.set r0 (Int.toNat (IntKind.wrap IntKind.i64 (Int.tdiv t20 (8 : Int)))) (bits BinOp.or IntKind.u8 (List.getD r0 (Int.toNat (IntKind.wrap IntKind.i64 (Int.tdiv t20 (8 : Int)))) (0 : Int)) (IntKind.wrap IntKind.u8 (List.getD t18 (Int.toNat t20) (0 : Int) * (2 : Int) ^ min (Int.toNat (IntKind.wrap IntKind.i64 ((7 : Int) - Int.tmod t20 (8 : Int)))) (IntKind.bits IntKind.u8)))))) ∧
    (m_bits_Pack_0 t18 t19 (IntKind.wrap IntKind.i64 (t20 + (1 : Int))) (List.set r0 (Int.toNat (IntKind.wrap IntKind.i64 (Int.tdiv t20 (8 : Int)))) (bits BinOp.or IntKind.u8 (List.getD r0 (Int.toNat (IntKind.wrap IntKind.i64 (Int.tdiv t20 (8 : Int)))) (0 : Int)) (IntKind.wrap IntKind.u8 (List.getD t18 (Int.toNat t20) (0 : Int) * (2 : Int) ^ min (Int.toNat (IntKind.wrap IntKind.i64 ((7 : Int) - Int.tmod t20 (8 : Int)))) (IntKind.bits IntKind.u8))))) < m) ∧
    o_bits_Pack_0 t18 t19 (IntKind.wrap IntKind.i64 (t20 + (1 : Int))) (List.set r0 (Int.toNat (IntKind.wrap IntKind.i64 (Int.tdiv t20 (8 : Int)))) (bits BinOp.or IntKind.u8 (List.getD r0 (Int.toNat (IntKind.wrap IntKind.i64 (Int.tdiv t20 (8 : Int)))) (0 : Int)) (IntKind.wrap IntKind.u8 (List.getD t18 (Int.toNat t20) (0 : Int) * (2 : Int) ^ min (Int.toNat (IntKind.wrap IntKind.i64 ((7 : Int) - Int.tmod t20 (8 : Int)))) (IntKind.bits IntKind.u8))))) K)
    (X_bits_Pack_0_0 (r0) K))
theorem R_bits_Pack_0 (t18 : (List Int)) (t19 : Int) (t20 : Int) (r0 : (List Int)) (m : Nat) (K : AExit → St → Prop) : awp E_bits_Pack (loopAt (bodyOf Try.f132) 0) 0 (roundP E_bits_Pack 0 L_bits_Pack_0 m K) (L_bits_Pack_0.abs (t18, t19, t20, ()) (r0, ())) = B_bits_Pack_0 t18 t19 t20 r0 m K := by kernel_rfl
theorem I_bits_Pack_0 (h : ∀ (t18 : (List Int)) (t19 : Int) (t20 : Int) (r0 : (List Int)) (K : AExit → St → Prop), p_bits_Pack_0 t18 t19 t20 r0 → o_bits_Pack_0 t18 t19 t20 r0 K → B_bits_Pack_0 t18 t19 t20 r0 (m_bits_Pack_0 t18 t19 t20 r0) K) : LoopOK E_bits_Pack 0 (loopAt (bodyOf Try.f132) 0) L_bits_Pack_0 :=
  fun x y K hp ho => match x, y, hp, ho with | (t18, t19, t20, ()), (r0, ()), hp, ho => (R_bits_Pack_0 t18 t19 t20 r0 (m_bits_Pack_0 t18 t19 t20 r0) K).mpr (h t18 t19 t20 r0 K hp ho)
theorem G_bits_Pack : loopsAll E_bits_Pack (loopList (bodyOf Try.f132) 0) = (LoopOK E_bits_Pack 0 (loopAt (bodyOf Try.f132) 0) L_bits_Pack_0 ∧ True) := by kernel_rfl
theorem envok_bits_Pack (h_bits_Check : SumOK Try.prog 145 S_bits_Check) : EnvOK E_bits_Pack := ⟨sumsOf_ok (List.forall_mem_cons.2 ⟨h_bits_Check, (fun _ h => nomatch h)⟩), follows⟩
theorem whole_bits_Pack (h_bits_Check : SumOK Try.prog 145 S_bits_Check) (l0 : LoopOK E_bits_Pack 0 (loopAt (bodyOf Try.f132) 0) L_bits_Pack_0) (main : ∀ (a0 : (List Int)), ((↑(List.length a0) : Int) ≤ big ∧ ∀ (y : Int), y ∈ a0 → (0 : Int) ≤ y) → W_bits_Pack a0) : SumOK Try.prog 132 S_bits_Pack :=
  fun_sound (E := E_bits_Pack) (envok_bits_Pack h_bits_Check) (fn := Try.f132) (c := bodyOf Try.f132) (ts := [(2, none), (3, none)]) S_bits_Pack Try.func132 (body_some (by kernel_rfl)) (by kernel_rfl) (by kernel_rfl) (by kernel_rfl) (G_bits_Pack.mpr ⟨l0, trivial⟩) (fun x hp => match x, hp with | (a0, ()), hp => (V_bits_Pack a0).mpr (main a0 hp))
/-! ### bits_Unpack -/
def L_bits_Unpack_0 : Lift.Loop := Lift.Loop.mk (.v .str :: (u 5 ++ (.sl 0 :: (u 15 ++ (.v (.int .i64) :: (.v (.int .i64) :: (u 16))))))) [(0, .row (.int .u8))] 1 (fun x y => p_bits_Unpack_0 x.1 x.2.1 x.2.2.1 y.1) (fun x y => m_bits_Unpack_0 x.1 x.2.1 x.2.2.1 y.1) (fun x y K => o_bits_Unpack_0 x.1 x.2.1 x.2.2.1 y.1 K)
noncomputable def E_bits_Unpack : Env := { P := Try.prog, sum := sumsOf [], nio := 0, head := fun b => if b = 0 then ([0, 6, 22, 23], []) else ([], []), after := fun _ => none, leave := fun b => if b = 0 then [4, 5, 6] else [], loops := fun b => if b = 0 then some L_bits_Unpack_0 else none }
def W_bits_Unpack (a0 : ByteArray) (a1 : Int) : Prop := (
  condP (if decide (a1 < (0 : Int)) = true then true else decide (a1 > IntKind.wrap IntKind.i64 ((8 : Int) * (↑(ByteArray.size a0) : Int))))
    ((@List.nil Int = unpackL a0 a1) ∧
    ((1 : Int) = unpackErr a0 a1) ∧
    True)
    (condP (decide (a1 > (4096 : Int)))
      ((@List.nil Int = unpackL a0 a1) ∧
      ((2 : Int) = unpackErr a0 a1) ∧
      True)
      (((0 : Int) ≤ a1) ∧
      (a1 ≤ a1) ∧
      ((↑(1 : Nat) : Int) * a1 ≤ (281474976710656 : Int)) ∧
      (p_bits_Unpack_0 a0 (↑(List.length (List.replicate (Int.toNat a1) (0 : Int))) : Int) (0 : Int) (List.replicate (Int.toNat a1) (0 : Int))) ∧
      (fillFrom (List.replicate (Int.toNat a1) (0 : Int)) (0 : Nat) (bitAt a0) = unpackL a0 a1) ∧
      ((0 : Int) = unpackErr a0 a1) ∧
      True)))
theorem V_bits_Unpack (a0 : ByteArray) (a1 : Int) : awp E_bits_Unpack (bodyOf Try.f118) 0 (fin Try.prog S_bits_Unpack (a0, a1, ()) [(4, none), (5, none)] 0) (initSt S_bits_Unpack.par (a0, a1, ()) 40) = W_bits_Unpack a0 a1 := by kernel_rfl
def B_bits_Unpack_0 (t0 : ByteArray) (t22 : Int) (t23 : Int) (r0 : (List Int)) (m : Nat) (K : AExit → St → Prop) : Prop := (
  condP (decide (t23 < t22))
    (((8 : Int) ≠ (0 : Int)) ∧
    ((0 : Int) ≤ IntKind.wrap IntKind.i64 (Int.tdiv t23 (8 : Int))) ∧
    (IntKind.wrap IntKind.i64 (Int.tdiv t23 (8 : Int)) < (↑(ByteArray.size t0) : Int)) ∧
    ((8 : Int) ≠ (0 : Int)) ∧
    ((0 : Int) ≤ IntKind.wrap IntKind.i64 ((7 : Int) - Int.tmod t23 (8 : Int))) ∧
    ((0 : Int) ≤ t23) ∧
    (t23 < (↑(List.length r0) : Int)) ∧
    (p_bits_Unpack_0 t0 t22 (IntKind.wrap IntKind.i64 (t23 + (1 : Int))) (List.set r0 (Int.toNat t23) (bits BinOp.and IntKind.u8 (Int.fdiv (List.getD (strBytes t0) (Int.toNat (IntKind.wrap IntKind.i64 (Int.tdiv t23 (8 : Int)))) (0 : Int)) ((2 : Int) ^ min (Int.toNat (IntKind.wrap IntKind.i64 ((7 : Int) - Int.tmod t23 (8 : Int)))) (IntKind.bits IntKind.u8))) (1 : Int)))) ∧
    (m_bits_Unpack_0 t0 t22 (IntKind.wrap IntKind.i64 (t23 + (1 : Int))) (List.set r0 (Int.toNat t23) (bits BinOp.and IntKind.u8 (Int.fdiv (List.getD (strBytes t0) (Int.toNat (IntKind.wrap IntKind.i64 (Int.tdiv t23 (8 : Int)))) (0 : Int)) ((2 : Int) ^ min (Int.toNat (IntKind.wrap IntKind.i64 ((7 : Int) - Int.tmod t23 (8 : Int)))) (IntKind.bits IntKind.u8))) (1 : Int))) < m) ∧
    o_bits_Unpack_0 t0 t22 (IntKind.wrap IntKind.i64 (t23 + (1 : Int))) (List.set r0 (Int.toNat t23) (bits BinOp.and IntKind.u8 (Int.fdiv (List.getD (strBytes t0) (Int.toNat (IntKind.wrap IntKind.i64 (Int.tdiv t23 (8 : Int)))) (0 : Int)) ((2 : Int) ^ min (Int.toNat (IntKind.wrap IntKind.i64 ((7 : Int) - Int.tmod t23 (8 : Int)))) (IntKind.bits IntKind.u8))) (1 : Int))) K)
    (X_bits_Unpack_0_0 (r0) K))
theorem R_bits_Unpack_0 (t0 : ByteArray) (t22 : Int) (t23 : Int) (r0 : (List Int)) (m : Nat) (K : AExit → St → Prop) : awp E_bits_Unpack (loopAt (bodyOf Try.f118) 0) 0 (roundP E_bits_Unpack 0 L_bits_Unpack_0 m K) (L_bits_Unpack_0.abs (t0, t22, t23, ()) (r0, ())) = B_bits_Unpack_0 t0 t22 t23 r0 m K := by kernel_rfl
theorem I_bits_Unpack_0 (h : ∀ (t0 : ByteArray) (t22 : Int) (t23 : Int) (r0 : (List Int)) (K : AExit → St → Prop), p_bits_Unpack_0 t0 t22 t23 r0 → o_bits_Unpack_0 t0 t22 t23 r0 K → B_bits_Unpack_0 t0 t22 t23 r0 (m_bits_Unpack_0 t0 t22 t23 r0) K) : LoopOK E_bits_Unpack 0 (loopAt (bodyOf Try.f118) 0) L_bits_Unpack_0 :=
  fun x y K hp ho => match x, y, hp, ho with | (t0, t22, t23, ()), (r0, ()), hp, ho => (R_bits_Unpack_0 t0 t22 t23 r0 (m_bits_Unpack_0 t0 t22 t23 r0) K).mpr (h t0 t22 t23 r0 K hp ho)
theorem G_bits_Unpack : loopsAll E_bits_Unpack (loopList (bodyOf Try.f118) 0) = (LoopOK E_bits_Unpack 0 (loopAt (bodyOf Try.f118) 0) L_bits_Unpack_0 ∧ True) := by kernel_rfl
theorem envok_bits_Unpack  : EnvOK E_bits_Unpack := ⟨sumsOf_ok (fun _ h => nomatch h), follows⟩
theorem whole_bits_Unpack  (l0 : LoopOK E_bits_Unpack 0 (loopAt (bodyOf Try.f118) 0) L_bits_Unpack_0) (main : ∀ (a0 : ByteArray) (a1 : Int), ((↑(ByteArray.size a0) : Int) ≤ big) → W_bits_Unpack a0 a1) : SumOK Try.prog 118 S_bits_Unpack :=
  fun_sound (E := E_bits_Unpack) (envok_bits_Unpack ) (fn := Try.f118) (c := bodyOf Try.f118) (ts := [(4, none), (5, none)]) S_bits_Unpack Try.func118 (body_some (by kernel_rfl)) (by kernel_rfl) (by kernel_rfl) (by kernel_rfl) (G_bits_Unpack.mpr ⟨l0, trivial⟩) (fun x hp => match x, hp with | (a0, a1, ()), hp => (V_bits_Unpack a0 a1).mpr (main a0 a1 hp))
/-! ### harq_NewReceiver -/
noncomputable def E_harq_NewReceiver : Env := { P := Try.prog, sum := sumsOf [], nio := 0, head := fun b => ([], []), after := fun _ => none, leave := fun b => [], loops := fun b => none }
def W_harq_NewReceiver  : Prop := (
  ((List.replicate (8 : Nat) false, List.replicate (8 : Nat) false, ()) = (noFlags, noFlags, ())) ∧
  True)
theorem V_harq_NewReceiver  : awp E_harq_NewReceiver (bodyOf Try.f23) 0 (fin Try.prog S_harq_NewReceiver (()) [(0, none)] 0) (initSt S_harq_NewReceiver.par (()) 3) = W_harq_NewReceiver  := by kernel_rfl
theorem G_harq_NewReceiver : loopsAll E_harq_NewReceiver (loopList (bodyOf Try.f23) 0) = (True) := by kernel_rfl
theorem envok_harq_NewReceiver  : EnvOK E_harq_NewReceiver := ⟨sumsOf_ok (fun _ h => nomatch h), follows⟩
theorem whole_harq_NewReceiver   (main : (True) → W_harq_NewReceiver ) : SumOK Try.prog 23 S_harq_NewReceiver :=
  fun_sound (E := E_harq_NewReceiver) (envok_harq_NewReceiver ) (fn := Try.f23) (c := bodyOf Try.f23) (ts := [(0, none)]) S_harq_NewReceiver Try.func23 (body_some (by kernel_rfl)) (by kernel_rfl) (by kernel_rfl) (by kernel_rfl) (G_harq_NewReceiver.mpr trivial) (fun x hp => match x, hp with | (), hp => (V_harq_NewReceiver ).mpr (main  hp))
/-! ### harq_Receiver_Take -/
noncomputable def E_harq_Receiver_Take : Env := { P := Try.prog, sum := sumsOf [], nio := 1, head := fun b => ([], []), after := fun _ => none, leave := fun b => [], loops := fun b => none }
def W_harq_Receiver_Take (a0 : ((List Bool) × ((List Bool) × Unit))) (a1 : (Int × (Int × (Bool × (ByteArray × Unit))))) (a2 : Bool) : Prop := (
  condP (if (if (if decide (Prod.fst a1 < (0 : Int)) = true then true else decide (Prod.fst a1 > (7 : Int))) = true then true else decide (Prod.fst (Prod.snd a1) < (0 : Int))) = true then true else decide (Prod.fst (Prod.snd a1) > (3 : Int)))
    ((ByteArray.mk (List.toArray (@List.nil UInt8)) = Prod.fst (Prod.fst (takeOf true a0 a1 a2))) ∧
    (false = Prod.fst (Prod.snd (Prod.fst (takeOf true a0 a1 a2)))) ∧
    (false = Prod.fst (Prod.snd (Prod.snd (Prod.fst (takeOf true a0 a1 a2))))) ∧
    ((1 : Int) = Prod.snd (Prod.snd (Prod.snd (Prod.fst (takeOf true a0 a1 a2))))) ∧
    (a0 = Prod.snd (takeOf true a0 a1 a2)) ∧
    True)
    (condP (decide ((↑(ByteArray.size (Prod.fst (Prod.snd (Prod.snd (Prod.snd a1))))) : Int) > (1500 : Int)))
      ((ByteArray.mk (List.toArray (@List.nil UInt8)) = Prod.fst (Prod.fst (takeOf true a0 a1 a2))) ∧
      (false = Prod.fst (Prod.snd (Prod.fst (takeOf true a0 a1 a2)))) ∧
      (false = Prod.fst (Prod.snd (Prod.snd (Prod.fst (takeOf true a0 a1 a2))))) ∧
      ((2 : Int) = Prod.snd (Prod.snd (Prod.snd (Prod.fst (takeOf true a0 a1 a2))))) ∧
      (a0 = Prod.snd (takeOf true a0 a1 a2)) ∧
      True)
      (((0 : Int) ≤ Prod.fst a1) ∧
      (Prod.fst a1 < (↑(8 : Nat) : Int)) ∧
      condP (Prod.fst (Prod.snd (Prod.snd a1)) != List.getD (Prod.fst a0) (Int.toNat (Prod.fst a1)) false)
        (((0 : Int) ≤ Prod.fst a1) ∧
        (Prod.fst a1 < (↑(8 : Nat) : Int)) ∧
        ((0 : Int) ≤ Prod.fst a1) ∧
        (Prod.fst a1 < (↑(8 : Nat) : Int)) ∧
        ((0 : Int) ≤ Prod.fst a1) ∧
        (Prod.fst a1 < (↑(8 : Nat) : Int)) ∧
        condP (!List.getD (List.set (Prod.fst (Prod.snd a0)) (Int.toNat (Prod.fst a1)) true) (Int.toNat (Prod.fst a1)) false)
          ((ByteArray.mk (List.toArray (@List.nil UInt8)) = Prod.fst (Prod.fst (takeOf true a0 a1 a2))) ∧
          (false = Prod.fst (Prod.snd (Prod.fst (takeOf true a0 a1 a2)))) ∧
          (true = Prod.fst (Prod.snd (Prod.snd (Prod.fst (takeOf true a0 a1 a2))))) ∧
          ((0 : Int) = Prod.snd (Prod.snd (Prod.snd (Prod.fst (takeOf true a0 a1 a2))))) ∧
          ((List.set (Prod.fst a0) (Int.toNat (Prod.fst a1)) (Prod.fst (Prod.snd (Prod.snd a1))), List.set (Prod.fst (Prod.snd a0)) (Int.toNat (Prod.fst a1)) true, Prod.snd (Prod.snd a0)) = Prod.snd (takeOf true a0 a1 a2)) ∧
          True)
          (condP (a2)
            (((0 : Int) ≤ Prod.fst a1) ∧
            (Prod.fst a1 < (↑(8 : Nat) : Int)) ∧
            (Prod.fst (Prod.snd (Prod.snd (Prod.snd a1))) = Prod.fst (Prod.fst (takeOf true a0 a1 a2))) ∧
            (true = Prod.fst (Prod.snd (Prod.fst (takeOf true a0 a1 a2)))) ∧
            (true = Prod.fst (Prod.snd (Prod.snd (Prod.fst (takeOf true a0 a1 a2))))) ∧
            ((0 : Int) = Prod.snd (Prod.snd (Prod.snd (Prod.fst (takeOf true a0 a1 a2))))) ∧
            ((List.set (Prod.fst a0) (Int.toNat (Prod.fst a1)) (Prod.fst (Prod.snd (Prod.snd a1))), List.set (List.set (Prod.fst (Prod.snd a0)) (Int.toNat (Prod.fst a1)) true) (Int.toNat (Prod.fst a1)) false, Prod.snd (Prod.snd a0)) = Prod.snd (takeOf true a0 a1 a2)) ∧
            True)
            ((ByteArray.mk (List.toArray (@List.nil UInt8)) = Prod.fst (Prod.fst (takeOf true a0 a1 a2))) ∧
            (false = Prod.fst (Prod.snd (Prod.fst (takeOf true a0 a1 a2)))) ∧
            (false = Prod.fst (Prod.snd (Prod.snd (Prod.fst (takeOf true a0 a1 a2))))) ∧
            ((0 : Int) = Prod.snd (Prod.snd (Prod.snd (Prod.fst (takeOf true a0 a1 a2))))) ∧
            ((List.set (Prod.fst a0) (Int.toNat (Prod.fst a1)) (Prod.fst (Prod.snd (Prod.snd a1))), List.set (Prod.fst (Prod.snd a0)) (Int.toNat (Prod.fst a1)) true, Prod.snd (Prod.snd a0)) = Prod.snd (takeOf true a0 a1 a2)) ∧
            True)))
        (((0 : Int) ≤ Prod.fst a1) ∧
        (Prod.fst a1 < (↑(8 : Nat) : Int)) ∧
        condP (!List.getD (Prod.fst (Prod.snd a0)) (Int.toNat (Prod.fst a1)) false)
          ((ByteArray.mk (List.toArray (@List.nil UInt8)) = Prod.fst (Prod.fst (takeOf true a0 a1 a2))) ∧
          (false = Prod.fst (Prod.snd (Prod.fst (takeOf true a0 a1 a2)))) ∧
          (true = Prod.fst (Prod.snd (Prod.snd (Prod.fst (takeOf true a0 a1 a2))))) ∧
          ((0 : Int) = Prod.snd (Prod.snd (Prod.snd (Prod.fst (takeOf true a0 a1 a2))))) ∧
          (a0 = Prod.snd (takeOf true a0 a1 a2)) ∧
          True)
          (condP (a2)
            (((0 : Int) ≤ Prod.fst a1) ∧
            (Prod.fst a1 < (↑(8 : Nat) : Int)) ∧
            (Prod.fst (Prod.snd (Prod.snd (Prod.snd a1))) = Prod.fst (Prod.fst (takeOf true a0 a1 a2))) ∧
            (true = Prod.fst (Prod.snd (Prod.fst (takeOf true a0 a1 a2)))) ∧
            (true = Prod.fst (Prod.snd (Prod.snd (Prod.fst (takeOf true a0 a1 a2))))) ∧
            ((0 : Int) = Prod.snd (Prod.snd (Prod.snd (Prod.fst (takeOf true a0 a1 a2))))) ∧
            ((Prod.fst a0, List.set (Prod.fst (Prod.snd a0)) (Int.toNat (Prod.fst a1)) false, Prod.snd (Prod.snd a0)) = Prod.snd (takeOf true a0 a1 a2)) ∧
            True)
            ((ByteArray.mk (List.toArray (@List.nil UInt8)) = Prod.fst (Prod.fst (takeOf true a0 a1 a2))) ∧
            (false = Prod.fst (Prod.snd (Prod.fst (takeOf true a0 a1 a2)))) ∧
            (false = Prod.fst (Prod.snd (Prod.snd (Prod.fst (takeOf true a0 a1 a2))))) ∧
            ((0 : Int) = Prod.snd (Prod.snd (Prod.snd (Prod.fst (takeOf true a0 a1 a2))))) ∧
            (a0 = Prod.snd (takeOf true a0 a1 a2)) ∧
            True))))))
theorem V_harq_Receiver_Take (a0 : ((List Bool) × ((List Bool) × Unit))) (a1 : (Int × (Int × (Bool × (ByteArray × Unit))))) (a2 : Bool) : awp E_harq_Receiver_Take (bodyOf Try.f24) 0 (fin Try.prog S_harq_Receiver_Take (a0, a1, a2, ()) [(6, none), (7, none), (8, none), (9, none)] 1) (initSt S_harq_Receiver_Take.par (a0, a1, a2, ()) 71) = W_harq_Receiver_Take a0 a1 a2 := by kernel_rfl
theorem G_harq_Receiver_Take : loopsAll E_harq_Receiver_Take (loopList (bodyOf Try.f24) 0) = (True) := by kernel_rfl
theorem envok_harq_Receiver_Take  : EnvOK E_harq_Receiver_Take := ⟨sumsOf_ok (fun _ h => nomatch h), follows⟩
theorem whole_harq_Receiver_Take   (main : ∀ (a0 : ((List Bool) × ((List Bool) × Unit))) (a1 : (Int × (Int × (Bool × (ByteArray × Unit))))) (a2 : Bool), (True) → W_harq_Receiver_Take a0 a1 a2) : SumOK Try.prog 24 S_harq_Receiver_Take :=
  fun_sound (E := E_harq_Receiver_Take) (envok_harq_Receiver_Take ) (fn := Try.f24) (c := bodyOf Try.f24) (ts := [(6, none), (7, none), (8, none), (9, none)]) S_harq_Receiver_Take Try.func24 (body_some (by kernel_rfl)) (by kernel_rfl) (by kernel_rfl) (by kernel_rfl) (G_harq_Receiver_Take.mpr trivial) (fun x hp => match x, hp with | (a0, a1, a2, ()), hp => (V_harq_Receiver_Take a0 a1 a2).mpr (main a0 a1 a2 hp))
end Go.Spec
