/- The runs of the functions, told. -/
import Derived.Test.YtppemehkbnbjlaaLF
import Derived.Test.YtppemehkbnbjlaaProg
import Derived.Test.YtppemehkbnbjlaaS1
set_option linter.unusedVariables false
set_option linter.unusedSimpArgs false
namespace Go.Spec
open Go Go.Lift Go.Proofs
attribute [local irreducible] Go.Lift.awp
theorem follows : Try.prog.follows .mixedOrders = true := by kernel_rfl
/-! ### R_SameInts -/
def L_R_SameInts_0 : Lift.Loop := Lift.Loop.mk 26 (.v (.ro (.int .i64)) :: (.v (.ro (.int .i64)) :: (u 3 ++ (.v (.int .i64) :: (u 20))))) [] 0 (fun x y => p_R_SameInts_0 x.1 x.2.1 x.2.2.1) (fun x y => m_R_SameInts_0 x.1 x.2.1 x.2.2.1) (fun x y K => o_R_SameInts_0 x.1 x.2.1 x.2.2.1 K)
noncomputable def E_R_SameInts : Env := { P := Try.prog, sum := sumsOf [], nio := 0, head := fun b => if b = 0 then ([0, 1, 5], []) else ([], []), after := fun _ => none, leave := fun b => if b = 0 then [4] else [], loops := fun b => if b = 0 then some L_R_SameInts_0 else none }
def W_R_SameInts (a0 : (List Int)) (a1 : (List Int)) : Prop := (
  condP ((↑(List.length a0) : Int) != (↑(List.length a1) : Int))
    ((false = decide (a0 = a1)) ∧
    True)
    ((p_R_SameInts_0 a0 a1 (0 : Int)) ∧
    condP (decide (List.drop (0 : Nat) a0 = List.drop (0 : Nat) a1))
      ((true = decide (a0 = a1)) ∧
      True)
      ((false = decide (a0 = a1)) ∧
      True)))
theorem V_R_SameInts (a0 : (List Int)) (a1 : (List Int)) : awp E_R_SameInts (bodyOf Try.f16) 0 (fin Try.prog S_R_SameInts (a0, a1, ()) [(4, none)] 0) (initSt S_R_SameInts.par (a0, a1, ()) 26) = W_R_SameInts a0 a1 := by kernel_rfl
def B_R_SameInts_0 (t0 : (List Int)) (t1 : (List Int)) (t5 : Int) (m : Nat) (K : AExit → St → Prop) : Prop := (
  condP (decide (t5 < (↑(List.length t0) : Int)))
    (((0 : Int) ≤ t5) ∧
    (t5 < (↑(List.length t0) : Int)) ∧
    ((0 : Int) ≤ t5) ∧
    (t5 < (↑(List.length t1) : Int)) ∧
    condP (List.getD t0 (Int.toNat t5) (0 : Int) != List.getD t1 (Int.toNat t5) (0 : Int))
      (X_R_SameInts_0_0 (false) K)
      ((p_R_SameInts_0 t0 t1 (IntKind.wrap IntKind.i64 (t5 + (1 : Int)))) ∧
      (m_R_SameInts_0 t0 t1 (IntKind.wrap IntKind.i64 (t5 + (1 : Int))) < m) ∧
      o_R_SameInts_0 t0 t1 (IntKind.wrap IntKind.i64 (t5 + (1 : Int))) K))
    (X_R_SameInts_0_1  K))
theorem R_R_SameInts_0 (t0 : (List Int)) (t1 : (List Int)) (t5 : Int) (m : Nat) (K : AExit → St → Prop) : awp E_R_SameInts (loopAt (bodyOf Try.f16) 0) 0 (roundP E_R_SameInts 0 L_R_SameInts_0 m K) (L_R_SameInts_0.abs (t0, t1, t5, ()) (())) = B_R_SameInts_0 t0 t1 t5 m K := by kernel_rfl
theorem I_R_SameInts_0 (h : ∀ (t0 : (List Int)) (t1 : (List Int)) (t5 : Int) (K : AExit → St → Prop), p_R_SameInts_0 t0 t1 t5 → o_R_SameInts_0 t0 t1 t5 K → B_R_SameInts_0 t0 t1 t5 (m_R_SameInts_0 t0 t1 t5) K) : LoopOK E_R_SameInts 0 (loopAt (bodyOf Try.f16) 0) L_R_SameInts_0 :=
  fun x y K hp ho => match x, y, hp, ho with | (t0, t1, t5, ()), (), hp, ho => (R_R_SameInts_0 t0 t1 t5 (m_R_SameInts_0 t0 t1 t5) K).mpr (h t0 t1 t5 K hp ho)
theorem G_R_SameInts : loopsAll E_R_SameInts (loopList (bodyOf Try.f16) 0) = (LoopOK E_R_SameInts 0 (loopAt (bodyOf Try.f16) 0) L_R_SameInts_0 ∧ True) := by kernel_rfl
theorem envok_R_SameInts  : EnvOK E_R_SameInts := ⟨sumsOf_ok (fun _ h => nomatch h), follows⟩
theorem whole_R_SameInts  (l0 : LoopOK E_R_SameInts 0 (loopAt (bodyOf Try.f16) 0) L_R_SameInts_0) (main : ∀ (a0 : (List Int)) (a1 : (List Int)), ((↑(List.length a0) : Int) ≤ big) → W_R_SameInts a0 a1) : SumOK Try.prog 16 S_R_SameInts :=
  fun_sound (E := E_R_SameInts) (envok_R_SameInts ) (fn := Try.f16) (c := bodyOf Try.f16) (ts := [(4, none)]) S_R_SameInts Try.func16 (body_some (by kernel_rfl)) (by kernel_rfl) (Nat.le_of_ble_eq_true (by kernel_rfl)) (by kernel_rfl) (by kernel_rfl) (G_R_SameInts.mpr ⟨l0, trivial⟩) (fun x hp => match x, hp with | (a0, a1, ()), hp => (V_R_SameInts a0 a1).mpr (main a0 a1 hp))
/-! ### harq_NewSender -/
noncomputable def E_harq_NewSender : Env := { P := Try.prog, sum := sumsOf [], nio := 0, head := fun b => ([], []), after := fun _ => none, leave := fun b => [], loops := fun b => none }
def W_harq_NewSender (a0 : Int) : Prop := (
  condP (if decide (a0 < (1 : Int)) = true then true else decide (a0 > (8 : Int)))
    ((none = Prod.fst (newS a0)) ∧
    ((1 : Int) = Prod.snd (newS a0)) ∧
    True)
    ((some (a0, List.replicate (8 : Nat) false, some (@List.nil (Int × Option (ByteArray × Int × Bool × Unit))), ()) = Prod.fst (newS a0)) ∧
    ((0 : Int) = Prod.snd (newS a0)) ∧
    True))
theorem V_harq_NewSender (a0 : Int) : awp E_harq_NewSender (bodyOf Try.f44) 0 (fin Try.prog S_harq_NewSender (a0, ()) [(2, none), (3, none)] 0) (initSt S_harq_NewSender.par (a0, ()) 14) = W_harq_NewSender a0 := by kernel_rfl
theorem G_harq_NewSender : loopsAll E_harq_NewSender (loopList (bodyOf Try.f44) 0) = (True) := by kernel_rfl
theorem envok_harq_NewSender  : EnvOK E_harq_NewSender := ⟨sumsOf_ok (fun _ h => nomatch h), follows⟩
theorem whole_harq_NewSender   (main : ∀ (a0 : Int), (True) → W_harq_NewSender a0) : SumOK Try.prog 44 S_harq_NewSender :=
  fun_sound (E := E_harq_NewSender) (envok_harq_NewSender ) (fn := Try.f44) (c := bodyOf Try.f44) (ts := [(2, none), (3, none)]) S_harq_NewSender Try.func44 (body_some (by kernel_rfl)) (by kernel_rfl) (Nat.le_of_ble_eq_true (by kernel_rfl)) (by kernel_rfl) (by kernel_rfl) (G_harq_NewSender.mpr trivial) (fun x hp => match x, hp with | (a0, ()), hp => (V_harq_NewSender a0).mpr (main a0 hp))
/-! ### harq_Sender_Submit -/
def L_harq_Sender_Submit_0 : Lift.Loop := Lift.Loop.mk 42 (.addr 0 :: (.v .str :: (u 8 ++ (.v (.int .i64) :: (u 31))))) [(0, .box (.pair (.int .i64) (.pair (.arr 8 .bool) (.pair (.map (.int .i64) (.ptr (.pair .str (.pair (.int .i64) (.pair .bool .unit))))) .unit))) [])] 2 (fun x y => p_harq_Sender_Submit_0 x.1 x.2.1 y.1) (fun x y => m_harq_Sender_Submit_0 x.1 x.2.1 y.1) (fun x y K => o_harq_Sender_Submit_0 x.1 x.2.1 y.1 K)
noncomputable def E_harq_Sender_Submit : Env := { P := Try.prog, sum := sumsOf [], nio := 1, head := fun b => if b = 0 then ([0, 1, 10], []) else ([], []), after := fun _ => none, leave := fun b => if b = 0 then [4, 5] else [], loops := fun b => if b = 0 then some L_harq_Sender_Submit_0 else none }
def W_harq_Sender_Submit (a0 : (Int × ((List Bool) × ((Option (List (Int × (Option (ByteArray × (Int × (Bool × Unit))))))) × Unit)))) (a1 : ByteArray) : Prop := (
  condP (decide ((↑(ByteArray.size a1) : Int) > (1500 : Int)))
    (((0 : Int) = Prod.fst (Prod.fst (subS a0 a1))) ∧
    ((2 : Int) = Prod.snd (Prod.fst (subS a0 a1))) ∧
    (a0 = Prod.snd (subS a0 a1)) ∧
    True)
    ((p_harq_Sender_Submit_0 a1 (0 : Int) a0) ∧
    condP (Option.isSome (freeS a0 (0 : Int)))
      ((Option.getD (freeS a0 (0 : Int)) (0 : Int) = Prod.fst (Prod.fst (subS a0 a1))) ∧
      ((0 : Int) = Prod.snd (Prod.fst (subS a0 a1))) ∧
      (putS a0 (Option.getD (freeS a0 (0 : Int)) (0 : Int)) a1 = Prod.snd (subS a0 a1)) ∧
      True)
      (((0 : Int) = Prod.fst (Prod.fst (subS a0 a1))) ∧
      ((7 : Int) = Prod.snd (Prod.fst (subS a0 a1))) ∧
      (a0 = Prod.snd (subS a0 a1)) ∧
      True)))
theorem V_harq_Sender_Submit (a0 : (Int × ((List Bool) × ((Option (List (Int × (Option (ByteArray × (Int × (Bool × Unit))))))) × Unit)))) (a1 : ByteArray) : awp E_harq_Sender_Submit (bodyOf Try.f45) 0 (fin Try.prog S_harq_Sender_Submit (a0, a1, ()) [(4, none), (5, none)] 1) (initSt S_harq_Sender_Submit.par (a0, a1, ()) 42) = W_harq_Sender_Submit a0 a1 := by kernel_rfl
def B_harq_Sender_Submit_0 (t1 : ByteArray) (t10 : Int) (r0 : (Int × ((List Bool) × ((Option (List (Int × (Option (ByteArray × (Int × (Bool × Unit))))))) × Unit)))) (m : Nat) (K : AExit → St → Prop) : Prop := (
  condP (decide (t10 < (8 : Int)))
    ((t10 = t10) ∧
    (Option.isNone (getO (Prod.fst (Prod.snd (Prod.snd r0))) t10) = true → Option.isNone (Option.getD (getO (Prod.fst (Prod.snd (Prod.snd r0))) t10) none) = true) ∧
    condP (Option.isNone (Option.getD (getO (Prod.fst (Prod.snd (Prod.snd r0))) t10) none))
      ((Option.isSome (setO (Prod.fst (Prod.snd (Prod.snd r0))) t10 (Option.getD (getO (Prod.fst (Prod.snd (Prod.snd r0))) t10) none)) = true) ∧
      ((0 : Int) ≤ t10) ∧
      (t10 < (↑(8 : Nat) : Int)) ∧
      ((0 : Int) ≤ t10) ∧
      (t10 < (↑(8 : Nat) : Int)) ∧
      X_harq_Sender_Submit_0_0 (t10) ((0 : Int)) ((Prod.fst r0, List.set (Prod.fst (Prod.snd r0)) (Int.toNat t10) !List.getD (Prod.fst (Prod.snd r0)) (Int.toNat t10) false, setO (putO (setO (Prod.fst (Prod.snd (Prod.snd r0))) t10 (Option.getD (getO (Prod.fst (Prod.snd (Prod.snd r0))) t10) none)) t10 none) t10 (some (t1, (0 : Int), false, ())), Prod.snd (Prod.snd (Prod.snd r0)))) K)
      ((p_harq_Sender_Submit_0 t1 (IntKind.wrap IntKind.i64 (t10 + (1 : Int))) (Prod.fst r0, Prod.fst (Prod.snd r0), setO (Prod.fst (Prod.snd (Prod.snd r0))) t10 (Option.getD (getO (Prod.fst (Prod.snd (Prod.snd r0))) t10) none), Prod.snd (Prod.snd (Prod.snd r0)))) ∧
      (m_harq_Sender_Submit_0 t1 (IntKind.wrap IntKind.i64 (t10 + (1 : Int))) (Prod.fst r0, Prod.fst (Prod.snd r0), setO (Prod.fst (Prod.snd (Prod.snd r0))) t10 (Option.getD (getO (Prod.fst (Prod.snd (Prod.snd r0))) t10) none), Prod.snd (Prod.snd (Prod.snd r0))) < m) ∧
      o_harq_Sender_Submit_0 t1 (IntKind.wrap IntKind.i64 (t10 + (1 : Int))) (Prod.fst r0, Prod.fst (Prod.snd r0), setO (Prod.fst (Prod.snd (Prod.snd r0))) t10 (Option.getD (getO (Prod.fst (Prod.snd (Prod.snd r0))) t10) none), Prod.snd (Prod.snd (Prod.snd r0))) K))
    (X_harq_Sender_Submit_0_1 (r0) K))
theorem R_harq_Sender_Submit_0 (t1 : ByteArray) (t10 : Int) (r0 : (Int × ((List Bool) × ((Option (List (Int × (Option (ByteArray × (Int × (Bool × Unit))))))) × Unit)))) (m : Nat) (K : AExit → St → Prop) : awp E_harq_Sender_Submit (loopAt (bodyOf Try.f45) 0) 0 (roundP E_harq_Sender_Submit 0 L_harq_Sender_Submit_0 m K) (L_harq_Sender_Submit_0.abs (t1, t10, ()) (r0, ())) = B_harq_Sender_Submit_0 t1 t10 r0 m K := by kernel_rfl
theorem I_harq_Sender_Submit_0 (h : ∀ (t1 : ByteArray) (t10 : Int) (r0 : (Int × ((List Bool) × ((Option (List (Int × (Option (ByteArray × (Int × (Bool × Unit))))))) × Unit)))) (K : AExit → St → Prop), p_harq_Sender_Submit_0 t1 t10 r0 → o_harq_Sender_Submit_0 t1 t10 r0 K → B_harq_Sender_Submit_0 t1 t10 r0 (m_harq_Sender_Submit_0 t1 t10 r0) K) : LoopOK E_harq_Sender_Submit 0 (loopAt (bodyOf Try.f45) 0) L_harq_Sender_Submit_0 :=
  fun x y K hp ho => match x, y, hp, ho with | (t1, t10, ()), (r0, ()), hp, ho => (R_harq_Sender_Submit_0 t1 t10 r0 (m_harq_Sender_Submit_0 t1 t10 r0) K).mpr (h t1 t10 r0 K hp ho)
theorem G_harq_Sender_Submit : loopsAll E_harq_Sender_Submit (loopList (bodyOf Try.f45) 0) = (LoopOK E_harq_Sender_Submit 0 (loopAt (bodyOf Try.f45) 0) L_harq_Sender_Submit_0 ∧ True) := by kernel_rfl
theorem envok_harq_Sender_Submit  : EnvOK E_harq_Sender_Submit := ⟨sumsOf_ok (fun _ h => nomatch h), follows⟩
theorem whole_harq_Sender_Submit  (l0 : LoopOK E_harq_Sender_Submit 0 (loopAt (bodyOf Try.f45) 0) L_harq_Sender_Submit_0) (main : ∀ (a0 : (Int × ((List Bool) × ((Option (List (Int × (Option (ByteArray × (Int × (Bool × Unit))))))) × Unit)))) (a1 : ByteArray), (Option.isSome (Prod.fst (Prod.snd (Prod.snd a0))) = true) → W_harq_Sender_Submit a0 a1) : SumOK Try.prog 45 S_harq_Sender_Submit :=
  fun_sound (E := E_harq_Sender_Submit) (envok_harq_Sender_Submit ) (fn := Try.f45) (c := bodyOf Try.f45) (ts := [(4, none), (5, none)]) S_harq_Sender_Submit Try.func45 (body_some (by kernel_rfl)) (by kernel_rfl) (Nat.le_of_ble_eq_true (by kernel_rfl)) (by kernel_rfl) (by kernel_rfl) (G_harq_Sender_Submit.mpr ⟨l0, trivial⟩) (fun x hp => match x, hp with | (a0, a1, ()), hp => (V_harq_Sender_Submit a0 a1).mpr (main a0 a1 hp))
/-! ### R_Tries_Submit -/
def L_R_Tries_Submit_0 : Lift.Loop := Lift.Loop.mk 38 (.addr 0 :: (.v .str :: (u 4 ++ (.v (.int .i64) :: (u 31))))) [(0, .box (.pair (.int .i64) (.pair (.arr 8 (.pair .bool (.pair .bool (.pair .bool (.pair .str (.pair (.int .i64) .unit)))))) .unit)) [])] 2 (fun x y => p_R_Tries_Submit_0 x.1 x.2.1 y.1) (fun x y => m_R_Tries_Submit_0 x.1 x.2.1 y.1) (fun x y K => o_R_Tries_Submit_0 x.1 x.2.1 y.1 K)
noncomputable def E_R_Tries_Submit : Env := { P := Try.prog, sum := sumsOf [], nio := 1, head := fun b => if b = 0 then ([0, 1, 6], []) else ([], []), after := fun _ => none, leave := fun b => if b = 0 then [4, 5] else [], loops := fun b => if b = 0 then some L_R_Tries_Submit_0 else none }
def W_R_Tries_Submit (a0 : (Int × ((List (Bool × (Bool × (Bool × (ByteArray × (Int × Unit)))))) × Unit))) (a1 : ByteArray) : Prop := (
  condP (decide ((↑(ByteArray.size a1) : Int) > (1500 : Int)))
    (((0 : Int) = Prod.fst (Prod.fst (subR a0 a1))) ∧
    ((2 : Int) = Prod.snd (Prod.fst (subR a0 a1))) ∧
    (a0 = Prod.snd (subR a0 a1)) ∧
    True)
    ((p_R_Tries_Submit_0 a1 (0 : Int) a0) ∧
    condP (Option.isSome (freeR a0 (0 : Int)))
      ((Option.getD (freeR a0 (0 : Int)) (0 : Int) = Prod.fst (Prod.fst (subR a0 a1))) ∧
      ((0 : Int) = Prod.snd (Prod.fst (subR a0 a1))) ∧
      (putR a0 (Option.getD (freeR a0 (0 : Int)) (0 : Int)) a1 = Prod.snd (subR a0 a1)) ∧
      True)
      (((0 : Int) = Prod.fst (Prod.fst (subR a0 a1))) ∧
      ((7 : Int) = Prod.snd (Prod.fst (subR a0 a1))) ∧
      (a0 = Prod.snd (subR a0 a1)) ∧
      True)))
theorem V_R_Tries_Submit (a0 : (Int × ((List (Bool × (Bool × (Bool × (ByteArray × (Int × Unit)))))) × Unit))) (a1 : ByteArray) : awp E_R_Tries_Submit (bodyOf Try.f46) 0 (fin Try.prog S_R_Tries_Submit (a0, a1, ()) [(4, none), (5, none)] 1) (initSt S_R_Tries_Submit.par (a0, a1, ()) 38) = W_R_Tries_Submit a0 a1 := by kernel_rfl
def B_R_Tries_Submit_0 (t1 : ByteArray) (t6 : Int) (r0 : (Int × ((List (Bool × (Bool × (Bool × (ByteArray × (Int × Unit)))))) × Unit))) (m : Nat) (K : AExit → St → Prop) : Prop := (
  condP (decide (t6 < (8 : Int)))
    (((0 : Int) ≤ t6) ∧
    (t6 < (↑(8 : Nat) : Int)) ∧
    condP (!Prod.fst (List.getD (Prod.fst (Prod.snd r0)) (Int.toNat t6) (false, false, false, ByteArray.empty, (0 : Int), ())))
      (((0 : Int) ≤ t6) ∧
      (t6 < (↑(8 : Nat) : Int)) ∧
      ((0 : Int) ≤ t6) ∧
      (t6 < (↑(8 : Nat) : Int)) ∧
      X_R_Tries_Submit_0_0 (t6) ((0 : Int)) ((Prod.fst r0, List.set (Prod.fst (Prod.snd r0)) (Int.toNat t6) (true, !Prod.fst (Prod.snd (List.getD (Prod.fst (Prod.snd r0)) (Int.toNat t6) (false, false, false, ByteArray.empty, (0 : Int), ()))), false, t1, (0 : Int), ()), Prod.snd (Prod.snd r0))) K)
      ((p_R_Tries_Submit_0 t1 (IntKind.wrap IntKind.i64 (t6 + (1 : Int))) r0) ∧
      (m_R_Tries_Submit_0 t1 (IntKind.wrap IntKind.i64 (t6 + (1 : Int))) r0 < m) ∧
      o_R_Tries_Submit_0 t1 (IntKind.wrap IntKind.i64 (t6 + (1 : Int))) r0 K))
    (X_R_Tries_Submit_0_1 (r0) K))
theorem R_R_Tries_Submit_0 (t1 : ByteArray) (t6 : Int) (r0 : (Int × ((List (Bool × (Bool × (Bool × (ByteArray × (Int × Unit)))))) × Unit))) (m : Nat) (K : AExit → St → Prop) : awp E_R_Tries_Submit (loopAt (bodyOf Try.f46) 0) 0 (roundP E_R_Tries_Submit 0 L_R_Tries_Submit_0 m K) (L_R_Tries_Submit_0.abs (t1, t6, ()) (r0, ())) = B_R_Tries_Submit_0 t1 t6 r0 m K := by kernel_rfl
theorem I_R_Tries_Submit_0 (h : ∀ (t1 : ByteArray) (t6 : Int) (r0 : (Int × ((List (Bool × (Bool × (Bool × (ByteArray × (Int × Unit)))))) × Unit))) (K : AExit → St → Prop), p_R_Tries_Submit_0 t1 t6 r0 → o_R_Tries_Submit_0 t1 t6 r0 K → B_R_Tries_Submit_0 t1 t6 r0 (m_R_Tries_Submit_0 t1 t6 r0) K) : LoopOK E_R_Tries_Submit 0 (loopAt (bodyOf Try.f46) 0) L_R_Tries_Submit_0 :=
  fun x y K hp ho => match x, y, hp, ho with | (t1, t6, ()), (r0, ()), hp, ho => (R_R_Tries_Submit_0 t1 t6 r0 (m_R_Tries_Submit_0 t1 t6 r0) K).mpr (h t1 t6 r0 K hp ho)
theorem G_R_Tries_Submit : loopsAll E_R_Tries_Submit (loopList (bodyOf Try.f46) 0) = (LoopOK E_R_Tries_Submit 0 (loopAt (bodyOf Try.f46) 0) L_R_Tries_Submit_0 ∧ True) := by kernel_rfl
theorem envok_R_Tries_Submit  : EnvOK E_R_Tries_Submit := ⟨sumsOf_ok (fun _ h => nomatch h), follows⟩
theorem whole_R_Tries_Submit  (l0 : LoopOK E_R_Tries_Submit 0 (loopAt (bodyOf Try.f46) 0) L_R_Tries_Submit_0) (main : ∀ (a0 : (Int × ((List (Bool × (Bool × (Bool × (ByteArray × (Int × Unit)))))) × Unit))) (a1 : ByteArray), (True) → W_R_Tries_Submit a0 a1) : SumOK Try.prog 46 S_R_Tries_Submit :=
  fun_sound (E := E_R_Tries_Submit) (envok_R_Tries_Submit ) (fn := Try.f46) (c := bodyOf Try.f46) (ts := [(4, none), (5, none)]) S_R_Tries_Submit Try.func46 (body_some (by kernel_rfl)) (by kernel_rfl) (Nat.le_of_ble_eq_true (by kernel_rfl)) (by kernel_rfl) (by kernel_rfl) (G_R_Tries_Submit.mpr ⟨l0, trivial⟩) (fun x hp => match x, hp with | (a0, a1, ()), hp => (V_R_Tries_Submit a0 a1).mpr (main a0 a1 hp))
/-! ### harq_Sender_Next -/
noncomputable def E0_harq_Sender_Next : Env := { P := Try.prog, sum := sumsOf [], nio := 1, head := fun b => ([], []), after := fun _ => none, leave := fun b => [], loops := fun b => none }
noncomputable def E_harq_Sender_Next : Env := Go.Lift.withInl 2 [97] E0_harq_Sender_Next
def W_harq_Sender_Next (a0 : (Int × ((List Bool) × ((Option (List (Int × (Option (ByteArray × (Int × (Bool × Unit))))))) × Unit)))) (a1 : Int) : Prop := (
  condP (if decide (a1 < (0 : Int)) = true then true else decide (a1 > (7 : Int)))
    (condP ((1 : Int) != (0 : Int))
      ((((0 : Int), (0 : Int), false, ByteArray.empty, ()) = Prod.fst (Prod.fst (nextS a0 a1))) ∧
      ((1 : Int) = Prod.snd (Prod.fst (nextS a0 a1))) ∧
      (a0 = Prod.snd (nextS a0 a1)) ∧
      True)
      (False))
    ((a1 = a1) ∧
    (Option.isNone (getO (Prod.fst (Prod.snd (Prod.snd a0))) a1) = true → Option.isNone (Option.getD (getO (Prod.fst (Prod.snd (Prod.snd a0))) a1) none) = true) ∧
    condP (Option.isNone (Option.getD (getO (Prod.fst (Prod.snd (Prod.snd a0))) a1) none))
      (condP ((6 : Int) != (0 : Int))
        ((((0 : Int), (0 : Int), false, ByteArray.empty, ()) = Prod.fst (Prod.fst (nextS a0 a1))) ∧
        ((6 : Int) = Prod.snd (Prod.fst (nextS a0 a1))) ∧
        ((Prod.fst a0, Prod.fst (Prod.snd a0), setO (Prod.fst (Prod.snd (Prod.snd a0))) a1 (Option.getD (getO (Prod.fst (Prod.snd (Prod.snd a0))) a1) none), Prod.snd (Prod.snd (Prod.snd a0))) = Prod.snd (nextS a0 a1)) ∧
        True)
        (False))
      (condP ((0 : Int) != (0 : Int))
        ((((0 : Int), (0 : Int), false, ByteArray.empty, ()) = Prod.fst (Prod.fst (nextS a0 a1))) ∧
        ((0 : Int) = Prod.snd (Prod.fst (nextS a0 a1))) ∧
        ((Prod.fst a0, Prod.fst (Prod.snd a0), setO (Prod.fst (Prod.snd (Prod.snd a0))) a1 (Option.getD (getO (Prod.fst (Prod.snd (Prod.snd a0))) a1) none), Prod.snd (Prod.snd (Prod.snd a0))) = Prod.snd (nextS a0 a1)) ∧
        True)
        ((Option.isSome (Option.getD (getO (Prod.fst (Prod.snd (Prod.snd a0))) a1) none) = true) ∧
        condP (Prod.fst (Prod.snd (Prod.snd (Option.getD (Option.getD (getO (Prod.fst (Prod.snd (Prod.snd a0))) a1) none) (ByteArray.empty, (0 : Int), false, ())))))
          ((((0 : Int), (0 : Int), false, ByteArray.empty, ()) = Prod.fst (Prod.fst (nextS a0 a1))) ∧
          ((9 : Int) = Prod.snd (Prod.fst (nextS a0 a1))) ∧
          ((Prod.fst a0, Prod.fst (Prod.snd a0), setO (Prod.fst (Prod.snd (Prod.snd a0))) a1 (some (Option.getD (Option.getD (getO (Prod.fst (Prod.snd (Prod.snd a0))) a1) none) (ByteArray.empty, (0 : Int), false, ()))), Prod.snd (Prod.snd (Prod.snd a0))) = Prod.snd (nextS a0 a1)) ∧
          True)
          (((4 : Int) ≠ (0 : Int)) ∧
          ((0 : Int) ≤ Int.tmod (Prod.fst (Prod.snd (Option.getD (Option.getD (getO (Prod.fst (Prod.snd (Prod.snd a0))) a1) none) (ByteArray.empty, (0 : Int), false, ())))) (4 : Int)) ∧
          (Int.tmod (Prod.fst (Prod.snd (Option.getD (Option.getD (getO (Prod.fst (Prod.snd (Prod.snd a0))) a1) none) (ByteArray.empty, (0 : Int), false, ())))) (4 : Int) < (↑(4 : Nat) : Int)) ∧
          ((0 : Int) ≤ a1) ∧
          (a1 < (↑(8 : Nat) : Int)) ∧
          ((a1, List.getD [(0 : Int), (2 : Int), (3 : Int), (1 : Int)] (Int.toNat (Int.tmod (Prod.fst (Prod.snd (Option.getD (Option.getD (getO (Prod.fst (Prod.snd (Prod.snd a0))) a1) none) (ByteArray.empty, (0 : Int), false, ())))) (4 : Int))) (0 : Int), List.getD (Prod.fst (Prod.snd a0)) (Int.toNat a1) false, Prod.fst (Option.getD (Option.getD (getO (Prod.fst (Prod.snd (Prod.snd a0))) a1) none) (ByteArray.empty, (0 : Int), false, ())), ()) = Prod.fst (Prod.fst (nextS a0 a1))) ∧
          ((0 : Int) = Prod.snd (Prod.fst (nextS a0 a1))) ∧
          ((Prod.fst a0, Prod.fst (Prod.snd a0), setO (Prod.fst (Prod.snd (Prod.snd a0))) a1 (some (Prod.fst (Option.getD (Option.getD (getO (Prod.fst (Prod.snd (Prod.snd a0))) a1) none) (ByteArray.empty, (0 : Int), false, ())), IntKind.wrap IntKind.i64 (Prod.fst (Prod.snd (Option.getD (Option.getD (getO (Prod.fst (Prod.snd (Prod.snd a0))) a1) none) (ByteArray.empty, (0 : Int), false, ()))) + (1 : Int)), true, Prod.snd (Prod.snd (Prod.snd (Option.getD (Option.getD (getO (Prod.fst (Prod.snd (Prod.snd a0))) a1) none) (ByteArray.empty, (0 : Int), false, ())))))), Prod.snd (Prod.snd (Prod.snd a0))) = Prod.snd (nextS a0 a1)) ∧
          True)))))
theorem V_harq_Sender_Next (a0 : (Int × ((List Bool) × ((Option (List (Int × (Option (ByteArray × (Int × (Bool × Unit))))))) × Unit)))) (a1 : Int) : awp E_harq_Sender_Next (bodyOf Try.f47) 0 (fin Try.prog S_harq_Sender_Next (a0, a1, ()) [(4, some 101), (5, none)] 1) (initSt S_harq_Sender_Next.par (a0, a1, ()) 54) = W_harq_Sender_Next a0 a1 := by kernel_rfl
theorem G_harq_Sender_Next : loopsAll E_harq_Sender_Next (loopList (bodyOf Try.f47) 0) = (True) := by kernel_rfl
theorem envok0_harq_Sender_Next  : EnvOK E0_harq_Sender_Next := ⟨sumsOf_ok (fun _ h => nomatch h), follows⟩
theorem envok_harq_Sender_Next  : EnvOK E_harq_Sender_Next := (withInl_ok 2 (envok0_harq_Sender_Next ) (InlsOK.nil rfl)).1
theorem inlok_harq_Sender_Next  : InlsOK E_harq_Sender_Next := (withInl_ok 2 (envok0_harq_Sender_Next ) (InlsOK.nil rfl)).2.1
theorem whole_harq_Sender_Next   (main : ∀ (a0 : (Int × ((List Bool) × ((Option (List (Int × (Option (ByteArray × (Int × (Bool × Unit))))))) × Unit)))) (a1 : Int), ((0 : Int) ≤ a1 ∧ a1 ≤ (7 : Int) → ∀ (b : BL), blk a0 a1 = some b → (0 : Int) ≤ Prod.fst (Prod.snd b) ∧ Prod.fst (Prod.snd b) ≤ (8 : Int)) → W_harq_Sender_Next a0 a1) : SumOK Try.prog 47 S_harq_Sender_Next :=
  fun_sound' (E := E_harq_Sender_Next) (envok_harq_Sender_Next ) (inlok_harq_Sender_Next ) (fn := Try.f47) (c := bodyOf Try.f47) (ts := [(4, some 101), (5, none)]) S_harq_Sender_Next Try.func47 (body_some (by kernel_rfl)) (by kernel_rfl) (Nat.le_of_ble_eq_true (by kernel_rfl)) (by kernel_rfl) (by kernel_rfl) (G_harq_Sender_Next.mpr trivial) (fun x hp => match x, hp with | (a0, a1, ()), hp => (V_harq_Sender_Next a0 a1).mpr (main a0 a1 hp))
/-! ### R_Tries_Next -/
noncomputable def E_R_Tries_Next : Env := { P := Try.prog, sum := sumsOf [], nio := 1, head := fun b => ([], []), after := fun _ => none, leave := fun b => [], loops := fun b => none }
def W_R_Tries_Next (a0 : (Int × ((List (Bool × (Bool × (Bool × (ByteArray × (Int × Unit)))))) × Unit))) (a1 : Int) : Prop := (
  condP (if decide (a1 < (0 : Int)) = true then true else decide (a1 > (7 : Int)))
    ((((0 : Int), (0 : Int), false, ByteArray.empty, ()) = Prod.fst (Prod.fst (nextR a0 a1))) ∧
    ((1 : Int) = Prod.snd (Prod.fst (nextR a0 a1))) ∧
    (a0 = Prod.snd (nextR a0 a1)) ∧
    True)
    (((0 : Int) ≤ a1) ∧
    (a1 < (↑(8 : Nat) : Int)) ∧
    condP (!Prod.fst (List.getD (Prod.fst (Prod.snd a0)) (Int.toNat a1) (false, false, false, ByteArray.empty, (0 : Int), ())))
      ((((0 : Int), (0 : Int), false, ByteArray.empty, ()) = Prod.fst (Prod.fst (nextR a0 a1))) ∧
      ((6 : Int) = Prod.snd (Prod.fst (nextR a0 a1))) ∧
      (a0 = Prod.snd (nextR a0 a1)) ∧
      True)
      (condP (Prod.fst (Prod.snd (Prod.snd (List.getD (Prod.fst (Prod.snd a0)) (Int.toNat a1) (false, false, false, ByteArray.empty, (0 : Int), ())))))
        ((((0 : Int), (0 : Int), false, ByteArray.empty, ()) = Prod.fst (Prod.fst (nextR a0 a1))) ∧
        ((9 : Int) = Prod.snd (Prod.fst (nextR a0 a1))) ∧
        (a0 = Prod.snd (nextR a0 a1)) ∧
        True)
        (((0 : Int) ≤ Prod.fst (Prod.snd (Prod.snd (Prod.snd (Prod.snd (List.getD (Prod.fst (Prod.snd a0)) (Int.toNat a1) (false, false, false, ByteArray.empty, (0 : Int), ()))))))) ∧
        (Prod.fst (Prod.snd (Prod.snd (Prod.snd (Prod.snd (List.getD (Prod.fst (Prod.snd a0)) (Int.toNat a1) (false, false, false, ByteArray.empty, (0 : Int), ())))))) < (↑(List.length [(0 : Int), (2 : Int), (3 : Int), (1 : Int), (0 : Int), (2 : Int), (3 : Int), (1 : Int)]) : Int)) ∧
        ((a1, List.getD [(0 : Int), (2 : Int), (3 : Int), (1 : Int), (0 : Int), (2 : Int), (3 : Int), (1 : Int)] (Int.toNat (Prod.fst (Prod.snd (Prod.snd (Prod.snd (Prod.snd (List.getD (Prod.fst (Prod.snd a0)) (Int.toNat a1) (false, false, false, ByteArray.empty, (0 : Int), ())))))))) (0 : Int), Prod.fst (Prod.snd (List.getD (List.set (List.set (Prod.fst (Prod.snd a0)) (Int.toNat a1) (Prod.fst (List.getD (Prod.fst (Prod.snd a0)) (Int.toNat a1) (false, false, false, ByteArray.empty, (0 : Int), ())), Prod.fst (Prod.snd (List.getD (Prod.fst (Prod.snd a0)) (Int.toNat a1) (false, false, false, ByteArray.empty, (0 : Int), ()))), Prod.fst (Prod.snd (Prod.snd (List.getD (Prod.fst (Prod.snd a0)) (Int.toNat a1) (false, false, false, ByteArray.empty, (0 : Int), ())))), Prod.fst (Prod.snd (Prod.snd (Prod.snd (List.getD (Prod.fst (Prod.snd a0)) (Int.toNat a1) (false, false, false, ByteArray.empty, (0 : Int), ()))))), IntKind.wrap IntKind.i64 (Prod.fst (Prod.snd (Prod.snd (Prod.snd (Prod.snd (List.getD (Prod.fst (Prod.snd a0)) (Int.toNat a1) (false, false, false, ByteArray.empty, (0 : Int), ())))))) + (1 : Int)), Prod.snd (Prod.snd (Prod.snd (Prod.snd (Prod.snd (List.getD (Prod.fst (Prod.snd a0)) (Int.toNat a1) (false, false, false, ByteArray.empty, (0 : Int), ())))))))) (Int.toNat a1) (Prod.fst (List.getD (List.set (Prod.fst (Prod.snd a0)) (Int.toNat a1) (Prod.fst (List.getD (Prod.fst (Prod.snd a0)) (Int.toNat a1) (false, false, false, ByteArray.empty, (0 : Int), ())), Prod.fst (Prod.snd (List.getD (Prod.fst (Prod.snd a0)) (Int.toNat a1) (false, false, false, ByteArray.empty, (0 : Int), ()))), Prod.fst (Prod.snd (Prod.snd (List.getD (Prod.fst (Prod.snd a0)) (Int.toNat a1) (false, false, false, ByteArray.empty, (0 : Int), ())))), Prod.fst (Prod.snd (Prod.snd (Prod.snd (List.getD (Prod.fst (Prod.snd a0)) (Int.toNat a1) (false, false, false, ByteArray.empty, (0 : Int), ()))))), IntKind.wrap IntKind.i64 (Prod.fst (Prod.snd (Prod.snd (Prod.snd (Prod.snd (List.getD (Prod.fst (Prod.snd a0)) (Int.toNat a1) (false, false, false, ByteArray.empty, (0 : Int), ())))))) + (1 : Int)), Prod.snd (Prod.snd (Prod.snd (Prod.snd (Prod.snd (List.getD (Prod.fst (Prod.snd a0)) (Int.toNat a1) (false, false, false, ByteArray.empty, (0 : Int), ())))))))) (Int.toNat a1) (false, false, false, ByteArray.empty, (0 : Int), ())), Prod.fst (Prod.snd (List.getD (List.set (Prod.fst (Prod.snd a0)) (Int.toNat a1) (Prod.fst (List.getD (Prod.fst (Prod.snd a0)) (Int.toNat a1) (false, false, false, ByteArray.empty, (0 : Int), ())), Prod.fst (Prod.snd (List.getD (Prod.fst (Prod.snd a0)) (Int.toNat a1) (false, false, false, ByteArray.empty, (0 : Int), ()))), Prod.fst (Prod.snd (Prod.snd (List.getD (Prod.fst (Prod.snd a0)) (Int.toNat a1) (false, false, false, ByteArray.empty, (0 : Int), ())))), Prod.fst (Prod.snd (Prod.snd (Prod.snd (List.getD (Prod.fst (Prod.snd a0)) (Int.toNat a1) (false, false, false, ByteArray.empty, (0 : Int), ()))))), IntKind.wrap IntKind.i64 (Prod.fst (Prod.snd (Prod.snd (Prod.snd (Prod.snd (List.getD (Prod.fst (Prod.snd a0)) (Int.toNat a1) (false, false, false, ByteArray.empty, (0 : Int), ())))))) + (1 : Int)), Prod.snd (Prod.snd (Prod.snd (Prod.snd (Prod.snd (List.getD (Prod.fst (Prod.snd a0)) (Int.toNat a1) (false, false, false, ByteArray.empty, (0 : Int), ())))))))) (Int.toNat a1) (false, false, false, ByteArray.empty, (0 : Int), ()))), true, Prod.snd (Prod.snd (Prod.snd (List.getD (List.set (Prod.fst (Prod.snd a0)) (Int.toNat a1) (Prod.fst (List.getD (Prod.fst (Prod.snd a0)) (Int.toNat a1) (false, false, false, ByteArray.empty, (0 : Int), ())), Prod.fst (Prod.snd (List.getD (Prod.fst (Prod.snd a0)) (Int.toNat a1) (false, false, false, ByteArray.empty, (0 : Int), ()))), Prod.fst (Prod.snd (Prod.snd (List.getD (Prod.fst (Prod.snd a0)) (Int.toNat a1) (false, false, false, ByteArray.empty, (0 : Int), ())))), Prod.fst (Prod.snd (Prod.snd (Prod.snd (List.getD (Prod.fst (Prod.snd a0)) (Int.toNat a1) (false, false, false, ByteArray.empty, (0 : Int), ()))))), IntKind.wrap IntKind.i64 (Prod.fst (Prod.snd (Prod.snd (Prod.snd (Prod.snd (List.getD (Prod.fst (Prod.snd a0)) (Int.toNat a1) (false, false, false, ByteArray.empty, (0 : Int), ())))))) + (1 : Int)), Prod.snd (Prod.snd (Prod.snd (Prod.snd (Prod.snd (List.getD (Prod.fst (Prod.snd a0)) (Int.toNat a1) (false, false, false, ByteArray.empty, (0 : Int), ())))))))) (Int.toNat a1) (false, false, false, ByteArray.empty, (0 : Int), ())))))) (Int.toNat a1) (false, false, false, ByteArray.empty, (0 : Int), ()))), Prod.fst (Prod.snd (Prod.snd (Prod.snd (List.getD (List.set (List.set (Prod.fst (Prod.snd a0)) (Int.toNat a1) (Prod.fst (List.getD (Prod.fst (Prod.snd a0)) (Int.toNat a1) (false, false, false, ByteArray.empty, (0 : Int), ())), Prod.fst (Prod.snd (List.getD (Prod.fst (Prod.snd a0)) (Int.toNat a1) (false, false, false, ByteArray.empty, (0 : Int), ()))), Prod.fst (Prod.snd (Prod.snd (List.getD (Prod.fst (Prod.snd a0)) (Int.toNat a1) (false, false, false, ByteArray.empty, (0 : Int), ())))), Prod.fst (Prod.snd (Prod.snd (Prod.snd (List.getD (Prod.fst (Prod.snd a0)) (Int.toNat a1) (false, false, false, ByteArray.empty, (0 : Int), ()))))), IntKind.wrap IntKind.i64 (Prod.fst (Prod.snd (Prod.snd (Prod.snd (Prod.snd (List.getD (Prod.fst (Prod.snd a0)) (Int.toNat a1) (false, false, false, ByteArray.empty, (0 : Int), ())))))) + (1 : Int)), Prod.snd (Prod.snd (Prod.snd (Prod.snd (Prod.snd (List.getD (Prod.fst (Prod.snd a0)) (Int.toNat a1) (false, false, false, ByteArray.empty, (0 : Int), ())))))))) (Int.toNat a1) (Prod.fst (List.getD (List.set (Prod.fst (Prod.snd a0)) (Int.toNat a1) (Prod.fst (List.getD (Prod.fst (Prod.snd a0)) (Int.toNat a1) (false, false, false, ByteArray.empty, (0 : Int), ())), Prod.fst (Prod.snd (List.getD (Prod.fst (Prod.snd a0)) (Int.toNat a1) (false, false, false, ByteArray.empty, (0 : Int), ()))), Prod.fst (Prod.snd (Prod.snd (List.getD (Prod.fst (Prod.snd a0)) (Int.toNat a1) (false, false, false, ByteArray.empty, (0 : Int), ())))), Prod.fst (Prod.snd (Prod.snd (Prod.snd (List.getD (Prod.fst (Prod.snd a0)) (Int.toNat a1) (false, false, false, ByteArray.empty, (0 : Int), ()))))), IntKind.wrap IntKind.i64 (Prod.fst (Prod.snd (Prod.snd (Prod.snd (Prod.snd (List.getD (Prod.fst (Prod.snd a0)) (Int.toNat a1) (false, false, false, ByteArray.empty, (0 : Int), ())))))) + (1 : Int)), Prod.snd (Prod.snd (Prod.snd (Prod.snd (Prod.snd (List.getD (Prod.fst (Prod.snd a0)) (Int.toNat a1) (false, false, false, ByteArray.empty, (0 : Int), ())))))))) (Int.toNat a1) (false, false, false, ByteArray.empty, (0 : Int), ())), Prod.fst (Prod.snd (List.getD (List.set (Prod.fst (Prod.snd a0)) (Int.toNat a1) (Prod.fst (List.getD (Prod.fst (Prod.snd a0)) (Int.toNat a1) (false, false, false, ByteArray.empty, (0 : Int), ())), Prod.fst (Prod.snd (List.getD (Prod.fst (Prod.snd a0)) (Int.toNat a1) (false, false, false, ByteArray.empty, (0 : Int), ()))), Prod.fst (Prod.snd (Prod.snd (List.getD (Prod.fst (Prod.snd a0)) (Int.toNat a1) (false, false, false, ByteArray.empty, (0 : Int), ())))), Prod.fst (Prod.snd (Prod.snd (Prod.snd (List.getD (Prod.fst (Prod.snd a0)) (Int.toNat a1) (false, false, false, ByteArray.empty, (0 : Int), ()))))), IntKind.wrap IntKind.i64 (Prod.fst (Prod.snd (Prod.snd (Prod.snd (Prod.snd (List.getD (Prod.fst (Prod.snd a0)) (Int.toNat a1) (false, false, false, ByteArray.empty, (0 : Int), ())))))) + (1 : Int)), Prod.snd (Prod.snd (Prod.snd (Prod.snd (Prod.snd (List.getD (Prod.fst (Prod.snd a0)) (Int.toNat a1) (false, false, false, ByteArray.empty, (0 : Int), ())))))))) (Int.toNat a1) (false, false, false, ByteArray.empty, (0 : Int), ()))), true, Prod.snd (Prod.snd (Prod.snd (List.getD (List.set (Prod.fst (Prod.snd a0)) (Int.toNat a1) (Prod.fst (List.getD (Prod.fst (Prod.snd a0)) (Int.toNat a1) (false, false, false, ByteArray.empty, (0 : Int), ())), Prod.fst (Prod.snd (List.getD (Prod.fst (Prod.snd a0)) (Int.toNat a1) (false, false, false, ByteArray.empty, (0 : Int), ()))), Prod.fst (Prod.snd (Prod.snd (List.getD (Prod.fst (Prod.snd a0)) (Int.toNat a1) (false, false, false, ByteArray.empty, (0 : Int), ())))), Prod.fst (Prod.snd (Prod.snd (Prod.snd (List.getD (Prod.fst (Prod.snd a0)) (Int.toNat a1) (false, false, false, ByteArray.empty, (0 : Int), ()))))), IntKind.wrap IntKind.i64 (Prod.fst (Prod.snd (Prod.snd (Prod.snd (Prod.snd (List.getD (Prod.fst (Prod.snd a0)) (Int.toNat a1) (false, false, false, ByteArray.empty, (0 : Int), ())))))) + (1 : Int)), Prod.snd (Prod.snd (Prod.snd (Prod.snd (Prod.snd (List.getD (Prod.fst (Prod.snd a0)) (Int.toNat a1) (false, false, false, ByteArray.empty, (0 : Int), ())))))))) (Int.toNat a1) (false, false, false, ByteArray.empty, (0 : Int), ())))))) (Int.toNat a1) (false, false, false, ByteArray.empty, (0 : Int), ()))))), ()) = Prod.fst (Prod.fst (nextR a0 a1))) ∧
        ((0 : Int) = Prod.snd (Prod.fst (nextR a0 a1))) ∧
        ((Prod.fst a0, List.set (List.set (Prod.fst (Prod.snd a0)) (Int.toNat a1) (Prod.fst (List.getD (Prod.fst (Prod.snd a0)) (Int.toNat a1) (false, false, false, ByteArray.empty, (0 : Int), ())), Prod.fst (Prod.snd (List.getD (Prod.fst (Prod.snd a0)) (Int.toNat a1) (false, false, false, ByteArray.empty, (0 : Int), ()))), Prod.fst (Prod.snd (Prod.snd (List.getD (Prod.fst (Prod.snd a0)) (Int.toNat a1) (false, false, false, ByteArray.empty, (0 : Int), ())))), Prod.fst (Prod.snd (Prod.snd (Prod.snd (List.getD (Prod.fst (Prod.snd a0)) (Int.toNat a1) (false, false, false, ByteArray.empty, (0 : Int), ()))))), IntKind.wrap IntKind.i64 (Prod.fst (Prod.snd (Prod.snd (Prod.snd (Prod.snd (List.getD (Prod.fst (Prod.snd a0)) (Int.toNat a1) (false, false, false, ByteArray.empty, (0 : Int), ())))))) + (1 : Int)), Prod.snd (Prod.snd (Prod.snd (Prod.snd (Prod.snd (List.getD (Prod.fst (Prod.snd a0)) (Int.toNat a1) (false, false, false, ByteArray.empty, (0 : Int), ())))))))) (Int.toNat a1) (Prod.fst (List.getD (List.set (Prod.fst (Prod.snd a0)) (Int.toNat a1) (Prod.fst (List.getD (Prod.fst (Prod.snd a0)) (Int.toNat a1) (false, false, false, ByteArray.empty, (0 : Int), ())), Prod.fst (Prod.snd (List.getD (Prod.fst (Prod.snd a0)) (Int.toNat a1) (false, false, false, ByteArray.empty, (0 : Int), ()))), Prod.fst (Prod.snd (Prod.snd (List.getD (Prod.fst (Prod.snd a0)) (Int.toNat a1) (false, false, false, ByteArray.empty, (0 : Int), ())))), Prod.fst (Prod.snd (Prod.snd (Prod.snd (List.getD (Prod.fst (Prod.snd a0)) (Int.toNat a1) (false, false, false, ByteArray.empty, (0 : Int), ()))))), IntKind.wrap IntKind.i64 (Prod.fst (Prod.snd (Prod.snd (Prod.snd (Prod.snd (List.getD (Prod.fst (Prod.snd a0)) (Int.toNat a1) (false, false, false, ByteArray.empty, (0 : Int), ())))))) + (1 : Int)), Prod.snd (Prod.snd (Prod.snd (Prod.snd (Prod.snd (List.getD (Prod.fst (Prod.snd a0)) (Int.toNat a1) (false, false, false, ByteArray.empty, (0 : Int), ())))))))) (Int.toNat a1) (false, false, false, ByteArray.empty, (0 : Int), ())), Prod.fst (Prod.snd (List.getD (List.set (Prod.fst (Prod.snd a0)) (Int.toNat a1) (Prod.fst (List.getD (Prod.fst (Prod.snd a0)) (Int.toNat a1) (false, false, false, ByteArray.empty, (0 : Int), ())), Prod.fst (Prod.snd (List.getD (Prod.fst (Prod.snd a0)) (Int.toNat a1) (false, false, false, ByteArray.empty, (0 : Int), ()))), Prod.fst (Prod.snd (Prod.snd (List.getD (Prod.fst (Prod.snd a0)) (Int.toNat a1) (false, false, false, ByteArray.empty, (0 : Int), ())))), Prod.fst (Prod.snd (Prod.snd (Prod.snd (List.getD (Prod.fst (Prod.snd a0)) (Int.toNat a1) (false, false, false, ByteArray.empty, (0 : Int), ()))))), IntKind.wrap IntKind.i64 (Prod.fst (Prod.snd (Prod.snd (Prod.snd (Prod.snd (List.getD (Prod.fst (Prod.snd a0)) (Int.toNat a1) (false, false, false, ByteArray.empty, (0 : Int), ())))))) + (1 : Int)), Prod.snd (Prod.snd (Prod.snd (Prod.snd (Prod.snd (List.getD (Prod.fst (Prod.snd a0)) (Int.toNat a1) (false, false, false, ByteArray.empty, (0 : Int), ())))))))) (Int.toNat a1) (false, false, false, ByteArray.empty, (0 : Int), ()))), true, Prod.snd (Prod.snd (Prod.snd (List.getD (List.set (Prod.fst (Prod.snd a0)) (Int.toNat a1) (Prod.fst (List.getD (Prod.fst (Prod.snd a0)) (Int.toNat a1) (false, false, false, ByteArray.empty, (0 : Int), ())), Prod.fst (Prod.snd (List.getD (Prod.fst (Prod.snd a0)) (Int.toNat a1) (false, false, false, ByteArray.empty, (0 : Int), ()))), Prod.fst (Prod.snd (Prod.snd (List.getD (Prod.fst (Prod.snd a0)) (Int.toNat a1) (false, false, false, ByteArray.empty, (0 : Int), ())))), Prod.fst (Prod.snd (Prod.snd (Prod.snd (List.getD (Prod.fst (Prod.snd a0)) (Int.toNat a1) (false, false, false, ByteArray.empty, (0 : Int), ()))))), IntKind.wrap IntKind.i64 (Prod.fst (Prod.snd (Prod.snd (Prod.snd (Prod.snd (List.getD (Prod.fst (Prod.snd a0)) (Int.toNat a1) (false, false, false, ByteArray.empty, (0 : Int), ())))))) + (1 : Int)), Prod.snd (Prod.snd (Prod.snd (Prod.snd (Prod.snd (List.getD (Prod.fst (Prod.snd a0)) (Int.toNat a1) (false, false, false, ByteArray.empty, (0 : Int), ())))))))) (Int.toNat a1) (false, false, false, ByteArray.empty, (0 : Int), ()))))), Prod.snd (Prod.snd a0)) = Prod.snd (nextR a0 a1)) ∧
        True))))
theorem V_R_Tries_Next (a0 : (Int × ((List (Bool × (Bool × (Bool × (ByteArray × (Int × Unit)))))) × Unit))) (a1 : Int) : awp E_R_Tries_Next (bodyOf Try.f48) 0 (fin Try.prog S_R_Tries_Next (a0, a1, ()) [(4, some 101), (5, none)] 1) (initSt S_R_Tries_Next.par (a0, a1, ()) 59) = W_R_Tries_Next a0 a1 := by kernel_rfl
theorem G_R_Tries_Next : loopsAll E_R_Tries_Next (loopList (bodyOf Try.f48) 0) = (True) := by kernel_rfl
theorem envok_R_Tries_Next  : EnvOK E_R_Tries_Next := ⟨sumsOf_ok (fun _ h => nomatch h), follows⟩
theorem whole_R_Tries_Next   (main : ∀ (a0 : (Int × ((List (Bool × (Bool × (Bool × (ByteArray × (Int × Unit)))))) × Unit))) (a1 : Int), (List.length (Prod.fst (Prod.snd a0)) = (8 : Nat) ∧ ((0 : Int) ≤ a1 ∧ a1 ≤ (7 : Int) → Prod.fst (proc a0 a1) = true → Prod.fst (Prod.snd (Prod.snd (proc a0 a1))) = false → (0 : Int) ≤ Prod.fst (Prod.snd (Prod.snd (Prod.snd (Prod.snd (proc a0 a1))))) ∧ Prod.fst (Prod.snd (Prod.snd (Prod.snd (Prod.snd (proc a0 a1))))) < (8 : Int))) → W_R_Tries_Next a0 a1) : SumOK Try.prog 48 S_R_Tries_Next :=
  fun_sound (E := E_R_Tries_Next) (envok_R_Tries_Next ) (fn := Try.f48) (c := bodyOf Try.f48) (ts := [(4, some 101), (5, none)]) S_R_Tries_Next Try.func48 (body_some (by kernel_rfl)) (by kernel_rfl) (Nat.le_of_ble_eq_true (by kernel_rfl)) (by kernel_rfl) (by kernel_rfl) (G_R_Tries_Next.mpr trivial) (fun x hp => match x, hp with | (a0, a1, ()), hp => (V_R_Tries_Next a0 a1).mpr (main a0 a1 hp))
/-! ### harq_Sender_Answer -/
noncomputable def E0_harq_Sender_Answer : Env := { P := Try.prog, sum := sumsOf [], nio := 1, head := fun b => ([], []), after := fun _ => none, leave := fun b => [], loops := fun b => none }
noncomputable def E_harq_Sender_Answer : Env := Go.Lift.withInl 2 [97] E0_harq_Sender_Answer
def W_harq_Sender_Answer (a0 : (Int × ((List Bool) × ((Option (List (Int × (Option (ByteArray × (Int × (Bool × Unit))))))) × Unit)))) (a1 : Int) (a2 : Bool) : Prop := (
  condP (if decide (a1 < (0 : Int)) = true then true else decide (a1 > (7 : Int)))
    (condP ((1 : Int) != (0 : Int))
      ((false = Prod.fst (Prod.fst (ansS a0 a1 a2))) ∧
      ((1 : Int) = Prod.snd (Prod.fst (ansS a0 a1 a2))) ∧
      (a0 = Prod.snd (ansS a0 a1 a2)) ∧
      True)
      (False))
    ((a1 = a1) ∧
    (Option.isNone (getO (Prod.fst (Prod.snd (Prod.snd a0))) a1) = true → Option.isNone (Option.getD (getO (Prod.fst (Prod.snd (Prod.snd a0))) a1) none) = true) ∧
    condP (Option.isNone (Option.getD (getO (Prod.fst (Prod.snd (Prod.snd a0))) a1) none))
      (condP ((6 : Int) != (0 : Int))
        ((false = Prod.fst (Prod.fst (ansS a0 a1 a2))) ∧
        ((6 : Int) = Prod.snd (Prod.fst (ansS a0 a1 a2))) ∧
        ((Prod.fst a0, Prod.fst (Prod.snd a0), setO (Prod.fst (Prod.snd (Prod.snd a0))) a1 (Option.getD (getO (Prod.fst (Prod.snd (Prod.snd a0))) a1) none), Prod.snd (Prod.snd (Prod.snd a0))) = Prod.snd (ansS a0 a1 a2)) ∧
        True)
        (False))
      (condP ((0 : Int) != (0 : Int))
        ((false = Prod.fst (Prod.fst (ansS a0 a1 a2))) ∧
        ((0 : Int) = Prod.snd (Prod.fst (ansS a0 a1 a2))) ∧
        ((Prod.fst a0, Prod.fst (Prod.snd a0), setO (Prod.fst (Prod.snd (Prod.snd a0))) a1 (Option.getD (getO (Prod.fst (Prod.snd (Prod.snd a0))) a1) none), Prod.snd (Prod.snd (Prod.snd a0))) = Prod.snd (ansS a0 a1 a2)) ∧
        True)
        ((Option.isSome (Option.getD (getO (Prod.fst (Prod.snd (Prod.snd a0))) a1) none) = true) ∧
        condP (!Prod.fst (Prod.snd (Prod.snd (Option.getD (Option.getD (getO (Prod.fst (Prod.snd (Prod.snd a0))) a1) none) (ByteArray.empty, (0 : Int), false, ())))))
          ((false = Prod.fst (Prod.fst (ansS a0 a1 a2))) ∧
          ((9 : Int) = Prod.snd (Prod.fst (ansS a0 a1 a2))) ∧
          ((Prod.fst a0, Prod.fst (Prod.snd a0), setO (Prod.fst (Prod.snd (Prod.snd a0))) a1 (some (Option.getD (Option.getD (getO (Prod.fst (Prod.snd (Prod.snd a0))) a1) none) (ByteArray.empty, (0 : Int), false, ()))), Prod.snd (Prod.snd (Prod.snd a0))) = Prod.snd (ansS a0 a1 a2)) ∧
          True)
          (condP (if a2 = true then true else Prod.fst (Prod.snd (Option.getD (Option.getD (getO (Prod.fst (Prod.snd (Prod.snd a0))) a1) none) (ByteArray.empty, (0 : Int), false, ()))) == Prod.fst a0)
            ((Option.isSome (setO (Prod.fst (Prod.snd (Prod.snd a0))) a1 (some (Prod.fst (Option.getD (Option.getD (getO (Prod.fst (Prod.snd (Prod.snd a0))) a1) none) (ByteArray.empty, (0 : Int), false, ())), Prod.fst (Prod.snd (Option.getD (Option.getD (getO (Prod.fst (Prod.snd (Prod.snd a0))) a1) none) (ByteArray.empty, (0 : Int), false, ()))), false, Prod.snd (Prod.snd (Prod.snd (Option.getD (Option.getD (getO (Prod.fst (Prod.snd (Prod.snd a0))) a1) none) (ByteArray.empty, (0 : Int), false, ()))))))) = true) ∧
            (true = Prod.fst (Prod.fst (ansS a0 a1 a2))) ∧
            ((0 : Int) = Prod.snd (Prod.fst (ansS a0 a1 a2))) ∧
            ((Prod.fst a0, Prod.fst (Prod.snd a0), delO' (setO (Prod.fst (Prod.snd (Prod.snd a0))) a1 (some (Prod.fst (Option.getD (Option.getD (getO (Prod.fst (Prod.snd (Prod.snd a0))) a1) none) (ByteArray.empty, (0 : Int), false, ())), Prod.fst (Prod.snd (Option.getD (Option.getD (getO (Prod.fst (Prod.snd (Prod.snd a0))) a1) none) (ByteArray.empty, (0 : Int), false, ()))), false, Prod.snd (Prod.snd (Prod.snd (Option.getD (Option.getD (getO (Prod.fst (Prod.snd (Prod.snd a0))) a1) none) (ByteArray.empty, (0 : Int), false, ()))))))) a1, Prod.snd (Prod.snd (Prod.snd a0))) = Prod.snd (ansS a0 a1 a2)) ∧
            True)
            ((false = Prod.fst (Prod.fst (ansS a0 a1 a2))) ∧
            ((0 : Int) = Prod.snd (Prod.fst (ansS a0 a1 a2))) ∧
            ((Prod.fst a0, Prod.fst (Prod.snd a0), setO (Prod.fst (Prod.snd (Prod.snd a0))) a1 (some (Prod.fst (Option.getD (Option.getD (getO (Prod.fst (Prod.snd (Prod.snd a0))) a1) none) (ByteArray.empty, (0 : Int), false, ())), Prod.fst (Prod.snd (Option.getD (Option.getD (getO (Prod.fst (Prod.snd (Prod.snd a0))) a1) none) (ByteArray.empty, (0 : Int), false, ()))), false, Prod.snd (Prod.snd (Prod.snd (Option.getD (Option.getD (getO (Prod.fst (Prod.snd (Prod.snd a0))) a1) none) (ByteArray.empty, (0 : Int), false, ())))))), Prod.snd (Prod.snd (Prod.snd a0))) = Prod.snd (ansS a0 a1 a2)) ∧
            True))))))
theorem V_harq_Sender_Answer (a0 : (Int × ((List Bool) × ((Option (List (Int × (Option (ByteArray × (Int × (Bool × Unit))))))) × Unit)))) (a1 : Int) (a2 : Bool) : awp E_harq_Sender_Answer (bodyOf Try.f49) 0 (fin Try.prog S_harq_Sender_Answer (a0, a1, a2, ()) [(6, none), (7, none)] 1) (initSt S_harq_Sender_Answer.par (a0, a1, a2, ()) 44) = W_harq_Sender_Answer a0 a1 a2 := by kernel_rfl
theorem G_harq_Sender_Answer : loopsAll E_harq_Sender_Answer (loopList (bodyOf Try.f49) 0) = (True) := by kernel_rfl
theorem envok0_harq_Sender_Answer  : EnvOK E0_harq_Sender_Answer := ⟨sumsOf_ok (fun _ h => nomatch h), follows⟩
theorem envok_harq_Sender_Answer  : EnvOK E_harq_Sender_Answer := (withInl_ok 2 (envok0_harq_Sender_Answer ) (InlsOK.nil rfl)).1
theorem inlok_harq_Sender_Answer  : InlsOK E_harq_Sender_Answer := (withInl_ok 2 (envok0_harq_Sender_Answer ) (InlsOK.nil rfl)).2.1
theorem whole_harq_Sender_Answer   (main : ∀ (a0 : (Int × ((List Bool) × ((Option (List (Int × (Option (ByteArray × (Int × (Bool × Unit))))))) × Unit)))) (a1 : Int) (a2 : Bool), (Option.isSome (Prod.fst (Prod.snd (Prod.snd a0))) = true) → W_harq_Sender_Answer a0 a1 a2) : SumOK Try.prog 49 S_harq_Sender_Answer :=
  fun_sound' (E := E_harq_Sender_Answer) (envok_harq_Sender_Answer ) (inlok_harq_Sender_Answer ) (fn := Try.f49) (c := bodyOf Try.f49) (ts := [(6, none), (7, none)]) S_harq_Sender_Answer Try.func49 (body_some (by kernel_rfl)) (by kernel_rfl) (Nat.le_of_ble_eq_true (by kernel_rfl)) (by kernel_rfl) (by kernel_rfl) (G_harq_Sender_Answer.mpr trivial) (fun x hp => match x, hp with | (a0, a1, a2, ()), hp => (V_harq_Sender_Answer a0 a1 a2).mpr (main a0 a1 a2 hp))
/-! ### R_Tries_Answer -/
noncomputable def E_R_Tries_Answer : Env := { P := Try.prog, sum := sumsOf [], nio := 1, head := fun b => ([], []), after := fun _ => none, leave := fun b => [], loops := fun b => none }
def W_R_Tries_Answer (a0 : (Int × ((List (Bool × (Bool × (Bool × (ByteArray × (Int × Unit)))))) × Unit))) (a1 : Int) (a2 : Bool) : Prop := (
  condP (if decide (a1 < (0 : Int)) = true then true else decide (a1 > (7 : Int)))
    ((false = Prod.fst (Prod.fst (ansR a0 a1 a2))) ∧
    ((1 : Int) = Prod.snd (Prod.fst (ansR a0 a1 a2))) ∧
    (a0 = Prod.snd (ansR a0 a1 a2)) ∧
    True)
    (((0 : Int) ≤ a1) ∧
    (a1 < (↑(8 : Nat) : Int)) ∧
    condP (!Prod.fst (List.getD (Prod.fst (Prod.snd a0)) (Int.toNat a1) (false, false, false, ByteArray.empty, (0 : Int), ())))
      ((false = Prod.fst (Prod.fst (ansR a0 a1 a2))) ∧
      ((6 : Int) = Prod.snd (Prod.fst (ansR a0 a1 a2))) ∧
      (a0 = Prod.snd (ansR a0 a1 a2)) ∧
      True)
      (condP (!Prod.fst (Prod.snd (Prod.snd (List.getD (Prod.fst (Prod.snd a0)) (Int.toNat a1) (false, false, false, ByteArray.empty, (0 : Int), ())))))
        ((false = Prod.fst (Prod.fst (ansR a0 a1 a2))) ∧
        ((9 : Int) = Prod.snd (Prod.fst (ansR a0 a1 a2))) ∧
        (a0 = Prod.snd (ansR a0 a1 a2)) ∧
        True)
        (((!Prod.fst (List.getD (List.set (List.set (Prod.fst (Prod.snd a0)) (Int.toNat a1) (Prod.fst (List.getD (Prod.fst (Prod.snd a0)) (Int.toNat a1) (false, false, false, ByteArray.empty, (0 : Int), ())), Prod.fst (Prod.snd (List.getD (Prod.fst (Prod.snd a0)) (Int.toNat a1) (false, false, false, ByteArray.empty, (0 : Int), ()))), false, Prod.snd (Prod.snd (Prod.snd (List.getD (Prod.fst (Prod.snd a0)) (Int.toNat a1) (false, false, false, ByteArray.empty, (0 : Int), ())))))) (Int.toNat a1) (if (!a2) = true then decide (Prod.fst (Prod.snd (Prod.snd (Prod.snd (Prod.snd (List.getD (List.set (Prod.fst (Prod.snd a0)) (Int.toNat a1) (Prod.fst (List.getD (Prod.fst (Prod.snd a0)) (Int.toNat a1) (false, false, false, ByteArray.empty, (0 : Int), ())), Prod.fst (Prod.snd (List.getD (Prod.fst (Prod.snd a0)) (Int.toNat a1) (false, false, false, ByteArray.empty, (0 : Int), ()))), false, Prod.snd (Prod.snd (Prod.snd (List.getD (Prod.fst (Prod.snd a0)) (Int.toNat a1) (false, false, false, ByteArray.empty, (0 : Int), ())))))) (Int.toNat a1) (false, false, false, ByteArray.empty, (0 : Int), ())))))) < Prod.fst a0) else false, Prod.snd (List.getD (List.set (Prod.fst (Prod.snd a0)) (Int.toNat a1) (Prod.fst (List.getD (Prod.fst (Prod.snd a0)) (Int.toNat a1) (false, false, false, ByteArray.empty, (0 : Int), ())), Prod.fst (Prod.snd (List.getD (Prod.fst (Prod.snd a0)) (Int.toNat a1) (false, false, false, ByteArray.empty, (0 : Int), ()))), false, Prod.snd (Prod.snd (Prod.snd (List.getD (Prod.fst (Prod.snd a0)) (Int.toNat a1) (false, false, false, ByteArray.empty, (0 : Int), ())))))) (Int.toNat a1) (false, false, false, ByteArray.empty, (0 : Int), ())))) (Int.toNat a1) (false, false, false, ByteArray.empty, (0 : Int), ()))) = Prod.fst (Prod.fst (ansR a0 a1 a2))) ∧
        ((0 : Int) = Prod.snd (Prod.fst (ansR a0 a1 a2))) ∧
        ((Prod.fst a0, List.set (List.set (Prod.fst (Prod.snd a0)) (Int.toNat a1) (Prod.fst (List.getD (Prod.fst (Prod.snd a0)) (Int.toNat a1) (false, false, false, ByteArray.empty, (0 : Int), ())), Prod.fst (Prod.snd (List.getD (Prod.fst (Prod.snd a0)) (Int.toNat a1) (false, false, false, ByteArray.empty, (0 : Int), ()))), false, Prod.snd (Prod.snd (Prod.snd (List.getD (Prod.fst (Prod.snd a0)) (Int.toNat a1) (false, false, false, ByteArray.empty, (0 : Int), ())))))) (Int.toNat a1) (if (!a2) = true then decide (Prod.fst (Prod.snd (Prod.snd (Prod.snd (Prod.snd (List.getD (List.set (Prod.fst (Prod.snd a0)) (Int.toNat a1) (Prod.fst (List.getD (Prod.fst (Prod.snd a0)) (Int.toNat a1) (false, false, false, ByteArray.empty, (0 : Int), ())), Prod.fst (Prod.snd (List.getD (Prod.fst (Prod.snd a0)) (Int.toNat a1) (false, false, false, ByteArray.empty, (0 : Int), ()))), false, Prod.snd (Prod.snd (Prod.snd (List.getD (Prod.fst (Prod.snd a0)) (Int.toNat a1) (false, false, false, ByteArray.empty, (0 : Int), ())))))) (Int.toNat a1) (false, false, false, ByteArray.empty, (0 : Int), ())))))) < Prod.fst a0) else false, Prod.snd (List.getD (List.set (Prod.fst (Prod.snd a0)) (Int.toNat a1) (Prod.fst (List.getD (Prod.fst (Prod.snd a0)) (Int.toNat a1) (false, false, false, ByteArray.empty, (0 : Int), ())), Prod.fst (Prod.snd (List.getD (Prod.fst (Prod.snd a0)) (Int.toNat a1) (false, false, false, ByteArray.empty, (0 : Int), ()))), false, Prod.snd (Prod.snd (Prod.snd (List.getD (Prod.fst (Prod.snd a0)) (Int.toNat a1) (false, false, false, ByteArray.empty, (0 : Int), ())))))) (Int.toNat a1) (false, false, false, ByteArray.empty, (0 : Int), ()))), Prod.snd (Prod.snd a0)) = Prod.snd (ansR a0 a1 a2)) ∧
        True))))
theorem V_R_Tries_Answer (a0 : (Int × ((List (Bool × (Bool × (Bool × (ByteArray × (Int × Unit)))))) × Unit))) (a1 : Int) (a2 : Bool) : awp E_R_Tries_Answer (bodyOf Try.f50) 0 (fin Try.prog S_R_Tries_Answer (a0, a1, a2, ()) [(6, none), (7, none)] 1) (initSt S_R_Tries_Answer.par (a0, a1, a2, ()) 54) = W_R_Tries_Answer a0 a1 a2 := by kernel_rfl
theorem G_R_Tries_Answer : loopsAll E_R_Tries_Answer (loopList (bodyOf Try.f50) 0) = (True) := by kernel_rfl
theorem envok_R_Tries_Answer  : EnvOK E_R_Tries_Answer := ⟨sumsOf_ok (fun _ h => nomatch h), follows⟩
theorem whole_R_Tries_Answer   (main : ∀ (a0 : (Int × ((List (Bool × (Bool × (Bool × (ByteArray × (Int × Unit)))))) × Unit))) (a1 : Int) (a2 : Bool), (List.length (Prod.fst (Prod.snd a0)) = (8 : Nat)) → W_R_Tries_Answer a0 a1 a2) : SumOK Try.prog 50 S_R_Tries_Answer :=
  fun_sound (E := E_R_Tries_Answer) (envok_R_Tries_Answer ) (fn := Try.f50) (c := bodyOf Try.f50) (ts := [(6, none), (7, none)]) S_R_Tries_Answer Try.func50 (body_some (by kernel_rfl)) (by kernel_rfl) (Nat.le_of_ble_eq_true (by kernel_rfl)) (by kernel_rfl) (by kernel_rfl) (G_R_Tries_Answer.mpr trivial) (fun x hp => match x, hp with | (a0, a1, a2, ()), hp => (V_R_Tries_Answer a0 a1 a2).mpr (main a0 a1 a2 hp))
/-! ### harq_Sender_Waiting -/
def L_harq_Sender_Waiting_0 : Lift.Loop := Lift.Loop.mk 21 (.addr 0 :: (u 2 ++ (.sl 1 :: (u 1 ++ (.v (.int .i64) :: (u 15)))))) [(0, .box (.pair (.int .i64) (.pair (.arr 8 .bool) (.pair (.map (.int .i64) (.ptr (.pair .str (.pair (.int .i64) (.pair .bool .unit))))) .unit))) []), (1, .row (.int .i64) [])] 3 (fun x y => p_harq_Sender_Waiting_0 x.1 y.1 y.2.1) (fun x y => m_harq_Sender_Waiting_0 x.1 y.1 y.2.1) (fun x y K => o_harq_Sender_Waiting_0 x.1 y.1 y.2.1 K)
noncomputable def E_harq_Sender_Waiting : Env := { P := Try.prog, sum := sumsOf [], nio := 1, head := fun b => if b = 0 then ([0, 3, 5], [(3, (.int .i64))]) else ([], []), after := fun _ => none, leave := fun b => if b = 0 then [2, 3] else [], loops := fun b => if b = 0 then some L_harq_Sender_Waiting_0 else none }
def W_harq_Sender_Waiting (a0 : (Int × ((List Bool) × ((Option (List (Int × (Option (ByteArray × (Int × (Bool × Unit))))))) × Unit)))) : Prop := (
  (p_harq_Sender_Waiting_0 (0 : Int) a0 (@List.nil Int)) ∧
  (@List.nil Int ++ waitS a0 (0 : Int) = waitS a0 (0 : Int)) ∧
  (a0 = a0) ∧
  True)
theorem V_harq_Sender_Waiting (a0 : (Int × ((List Bool) × ((Option (List (Int × (Option (ByteArray × (Int × (Bool × Unit))))))) × Unit)))) : awp E_harq_Sender_Waiting (bodyOf Try.f51) 0 (fin Try.prog S_harq_Sender_Waiting (a0, ()) [(2, none)] 1) (initSt S_harq_Sender_Waiting.par (a0, ()) 21) = W_harq_Sender_Waiting a0 := by kernel_rfl
def B_harq_Sender_Waiting_0 (t5 : Int) (r0 : (Int × ((List Bool) × ((Option (List (Int × (Option (ByteArray × (Int × (Bool × Unit))))))) × Unit)))) (r1 : (List Int)) (m : Nat) (K : AExit → St → Prop) : Prop := (
  condP (decide (t5 < (8 : Int)))
    ((t5 = t5) ∧
    (Option.isNone (getO (Prod.fst (Prod.snd (Prod.snd r0))) t5) = true → Option.isNone (Option.getD (getO (Prod.fst (Prod.snd (Prod.snd r0))) t5) none) = true) ∧
    condP (!Option.isNone (Option.getD (getO (Prod.fst (Prod.snd (Prod.snd r0))) t5) none))
      (((List.length r1 + List.length [t5]) * (8 : Nat) ≤ (140737488355328 : Nat)) ∧
      (p_harq_Sender_Waiting_0 (IntKind.wrap IntKind.i64 (t5 + (1 : Int))) (Prod.fst r0, Prod.fst (Prod.snd r0), setO (Prod.fst (Prod.snd (Prod.snd r0))) t5 (Option.getD (getO (Prod.fst (Prod.snd (Prod.snd r0))) t5) none), Prod.snd (Prod.snd (Prod.snd r0))) (List.append r1 [t5])) ∧
      (m_harq_Sender_Waiting_0 (IntKind.wrap IntKind.i64 (t5 + (1 : Int))) (Prod.fst r0, Prod.fst (Prod.snd r0), setO (Prod.fst (Prod.snd (Prod.snd r0))) t5 (Option.getD (getO (Prod.fst (Prod.snd (Prod.snd r0))) t5) none), Prod.snd (Prod.snd (Prod.snd r0))) (List.append r1 [t5]) < m) ∧
      o_harq_Sender_Waiting_0 (IntKind.wrap IntKind.i64 (t5 + (1 : Int))) (Prod.fst r0, Prod.fst (Prod.snd r0), setO (Prod.fst (Prod.snd (Prod.snd r0))) t5 (Option.getD (getO (Prod.fst (Prod.snd (Prod.snd r0))) t5) none), Prod.snd (Prod.snd (Prod.snd r0))) (List.append r1 [t5]) K)
      ((p_harq_Sender_Waiting_0 (IntKind.wrap IntKind.i64 (t5 + (1 : Int))) (Prod.fst r0, Prod.fst (Prod.snd r0), setO (Prod.fst (Prod.snd (Prod.snd r0))) t5 (Option.getD (getO (Prod.fst (Prod.snd (Prod.snd r0))) t5) none), Prod.snd (Prod.snd (Prod.snd r0))) r1) ∧
      (m_harq_Sender_Waiting_0 (IntKind.wrap IntKind.i64 (t5 + (1 : Int))) (Prod.fst r0, Prod.fst (Prod.snd r0), setO (Prod.fst (Prod.snd (Prod.snd r0))) t5 (Option.getD (getO (Prod.fst (Prod.snd (Prod.snd r0))) t5) none), Prod.snd (Prod.snd (Prod.snd r0))) r1 < m) ∧
      o_harq_Sender_Waiting_0 (IntKind.wrap IntKind.i64 (t5 + (1 : Int))) (Prod.fst r0, Prod.fst (Prod.snd r0), setO (Prod.fst (Prod.snd (Prod.snd r0))) t5 (Option.getD (getO (Prod.fst (Prod.snd (Prod.snd r0))) t5) none), Prod.snd (Prod.snd (Prod.snd r0))) r1 K))
    (X_harq_Sender_Waiting_0_0 (r0) (r1) K))
theorem R_harq_Sender_Waiting_0 (t5 : Int) (r0 : (Int × ((List Bool) × ((Option (List (Int × (Option (ByteArray × (Int × (Bool × Unit))))))) × Unit)))) (r1 : (List Int)) (m : Nat) (K : AExit → St → Prop) : awp E_harq_Sender_Waiting (loopAt (bodyOf Try.f51) 0) 0 (roundP E_harq_Sender_Waiting 0 L_harq_Sender_Waiting_0 m K) (L_harq_Sender_Waiting_0.abs (t5, ()) (r0, r1, ())) = B_harq_Sender_Waiting_0 t5 r0 r1 m K := by kernel_rfl
theorem I_harq_Sender_Waiting_0 (h : ∀ (t5 : Int) (r0 : (Int × ((List Bool) × ((Option (List (Int × (Option (ByteArray × (Int × (Bool × Unit))))))) × Unit)))) (r1 : (List Int)) (K : AExit → St → Prop), p_harq_Sender_Waiting_0 t5 r0 r1 → o_harq_Sender_Waiting_0 t5 r0 r1 K → B_harq_Sender_Waiting_0 t5 r0 r1 (m_harq_Sender_Waiting_0 t5 r0 r1) K) : LoopOK E_harq_Sender_Waiting 0 (loopAt (bodyOf Try.f51) 0) L_harq_Sender_Waiting_0 :=
  fun x y K hp ho => match x, y, hp, ho with | (t5, ()), (r0, r1, ()), hp, ho => (R_harq_Sender_Waiting_0 t5 r0 r1 (m_harq_Sender_Waiting_0 t5 r0 r1) K).mpr (h t5 r0 r1 K hp ho)
theorem G_harq_Sender_Waiting : loopsAll E_harq_Sender_Waiting (loopList (bodyOf Try.f51) 0) = (LoopOK E_harq_Sender_Waiting 0 (loopAt (bodyOf Try.f51) 0) L_harq_Sender_Waiting_0 ∧ True) := by kernel_rfl
theorem envok_harq_Sender_Waiting  : EnvOK E_harq_Sender_Waiting := ⟨sumsOf_ok (fun _ h => nomatch h), follows⟩
theorem whole_harq_Sender_Waiting  (l0 : LoopOK E_harq_Sender_Waiting 0 (loopAt (bodyOf Try.f51) 0) L_harq_Sender_Waiting_0) (main : ∀ (a0 : (Int × ((List Bool) × ((Option (List (Int × (Option (ByteArray × (Int × (Bool × Unit))))))) × Unit)))), (True) → W_harq_Sender_Waiting a0) : SumOK Try.prog 51 S_harq_Sender_Waiting :=
  fun_sound (E := E_harq_Sender_Waiting) (envok_harq_Sender_Waiting ) (fn := Try.f51) (c := bodyOf Try.f51) (ts := [(2, none)]) S_harq_Sender_Waiting Try.func51 (body_some (by kernel_rfl)) (by kernel_rfl) (Nat.le_of_ble_eq_true (by kernel_rfl)) (by kernel_rfl) (by kernel_rfl) (G_harq_Sender_Waiting.mpr ⟨l0, trivial⟩) (fun x hp => match x, hp with | (a0, ()), hp => (V_harq_Sender_Waiting a0).mpr (main a0 hp))
/-! ### R_Tries_Waiting -/
def L_R_Tries_Waiting_0 : Lift.Loop := Lift.Loop.mk 21 (.addr 0 :: (u 2 ++ (.sl 1 :: (.v (.int .i64) :: (u 16))))) [(0, .box (.pair (.int .i64) (.pair (.arr 8 (.pair .bool (.pair .bool (.pair .bool (.pair .str (.pair (.int .i64) .unit)))))) .unit)) []), (1, .row (.int .i64) [])] 3 (fun x y => p_R_Tries_Waiting_0 x.1 y.1 y.2.1) (fun x y => m_R_Tries_Waiting_0 x.1 y.1 y.2.1) (fun x y K => o_R_Tries_Waiting_0 x.1 y.1 y.2.1 K)
noncomputable def E_R_Tries_Waiting : Env := { P := Try.prog, sum := sumsOf [], nio := 1, head := fun b => if b = 0 then ([0, 3, 4], [(3, (.int .i64))]) else ([], []), after := fun _ => none, leave := fun b => if b = 0 then [2, 3] else [], loops := fun b => if b = 0 then some L_R_Tries_Waiting_0 else none }
def W_R_Tries_Waiting (a0 : (Int × ((List (Bool × (Bool × (Bool × (ByteArray × (Int × Unit)))))) × Unit))) : Prop := (
  (p_R_Tries_Waiting_0 (0 : Int) a0 (@List.nil Int)) ∧
  (@List.nil Int ++ waitR a0 (0 : Int) = waitR a0 (0 : Int)) ∧
  (a0 = a0) ∧
  True)
theorem V_R_Tries_Waiting (a0 : (Int × ((List (Bool × (Bool × (Bool × (ByteArray × (Int × Unit)))))) × Unit))) : awp E_R_Tries_Waiting (bodyOf Try.f52) 0 (fin Try.prog S_R_Tries_Waiting (a0, ()) [(2, none)] 1) (initSt S_R_Tries_Waiting.par (a0, ()) 21) = W_R_Tries_Waiting a0 := by kernel_rfl
def B_R_Tries_Waiting_0 (t4 : Int) (r0 : (Int × ((List (Bool × (Bool × (Bool × (ByteArray × (Int × Unit)))))) × Unit))) (r1 : (List Int)) (m : Nat) (K : AExit → St → Prop) : Prop := (
  condP (decide (t4 < (8 : Int)))
    (((0 : Int) ≤ t4) ∧
    (t4 < (↑(8 : Nat) : Int)) ∧
    condP (Prod.fst (List.getD (Prod.fst (Prod.snd r0)) (Int.toNat t4) (false, false, false, ByteArray.empty, (0 : Int), ())))
      (((List.length r1 + List.length [t4]) * (8 : Nat) ≤ (140737488355328 : Nat)) ∧
      (p_R_Tries_Waiting_0 (IntKind.wrap IntKind.i64 (t4 + (1 : Int))) r0 (List.append r1 [t4])) ∧
      (m_R_Tries_Waiting_0 (IntKind.wrap IntKind.i64 (t4 + (1 : Int))) r0 (List.append r1 [t4]) < m) ∧
      o_R_Tries_Waiting_0 (IntKind.wrap IntKind.i64 (t4 + (1 : Int))) r0 (List.append r1 [t4]) K)
      ((p_R_Tries_Waiting_0 (IntKind.wrap IntKind.i64 (t4 + (1 : Int))) r0 r1) ∧
      (m_R_Tries_Waiting_0 (IntKind.wrap IntKind.i64 (t4 + (1 : Int))) r0 r1 < m) ∧
      o_R_Tries_Waiting_0 (IntKind.wrap IntKind.i64 (t4 + (1 : Int))) r0 r1 K))
    (X_R_Tries_Waiting_0_0 (r0) (r1) K))
theorem R_R_Tries_Waiting_0 (t4 : Int) (r0 : (Int × ((List (Bool × (Bool × (Bool × (ByteArray × (Int × Unit)))))) × Unit))) (r1 : (List Int)) (m : Nat) (K : AExit → St → Prop) : awp E_R_Tries_Waiting (loopAt (bodyOf Try.f52) 0) 0 (roundP E_R_Tries_Waiting 0 L_R_Tries_Waiting_0 m K) (L_R_Tries_Waiting_0.abs (t4, ()) (r0, r1, ())) = B_R_Tries_Waiting_0 t4 r0 r1 m K := by kernel_rfl
theorem I_R_Tries_Waiting_0 (h : ∀ (t4 : Int) (r0 : (Int × ((List (Bool × (Bool × (Bool × (ByteArray × (Int × Unit)))))) × Unit))) (r1 : (List Int)) (K : AExit → St → Prop), p_R_Tries_Waiting_0 t4 r0 r1 → o_R_Tries_Waiting_0 t4 r0 r1 K → B_R_Tries_Waiting_0 t4 r0 r1 (m_R_Tries_Waiting_0 t4 r0 r1) K) : LoopOK E_R_Tries_Waiting 0 (loopAt (bodyOf Try.f52) 0) L_R_Tries_Waiting_0 :=
  fun x y K hp ho => match x, y, hp, ho with | (t4, ()), (r0, r1, ()), hp, ho => (R_R_Tries_Waiting_0 t4 r0 r1 (m_R_Tries_Waiting_0 t4 r0 r1) K).mpr (h t4 r0 r1 K hp ho)
theorem G_R_Tries_Waiting : loopsAll E_R_Tries_Waiting (loopList (bodyOf Try.f52) 0) = (LoopOK E_R_Tries_Waiting 0 (loopAt (bodyOf Try.f52) 0) L_R_Tries_Waiting_0 ∧ True) := by kernel_rfl
theorem envok_R_Tries_Waiting  : EnvOK E_R_Tries_Waiting := ⟨sumsOf_ok (fun _ h => nomatch h), follows⟩
theorem whole_R_Tries_Waiting  (l0 : LoopOK E_R_Tries_Waiting 0 (loopAt (bodyOf Try.f52) 0) L_R_Tries_Waiting_0) (main : ∀ (a0 : (Int × ((List (Bool × (Bool × (Bool × (ByteArray × (Int × Unit)))))) × Unit))), (True) → W_R_Tries_Waiting a0) : SumOK Try.prog 52 S_R_Tries_Waiting :=
  fun_sound (E := E_R_Tries_Waiting) (envok_R_Tries_Waiting ) (fn := Try.f52) (c := bodyOf Try.f52) (ts := [(2, none)]) S_R_Tries_Waiting Try.func52 (body_some (by kernel_rfl)) (by kernel_rfl) (Nat.le_of_ble_eq_true (by kernel_rfl)) (by kernel_rfl) (by kernel_rfl) (G_R_Tries_Waiting.mpr ⟨l0, trivial⟩) (fun x hp => match x, hp with | (a0, ()), hp => (V_R_Tries_Waiting a0).mpr (main a0 hp))
end Go.Spec
