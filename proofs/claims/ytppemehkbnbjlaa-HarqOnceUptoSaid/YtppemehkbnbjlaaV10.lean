/- The runs of the functions, told. -/
import Derived.Test.YtppemehkbnbjlaaLF
import Derived.Test.YtppemehkbnbjlaaProg
import Derived.Test.YtppemehkbnbjlaaS10
import Derived.Test.YtppemehkbnbjlaaV2
set_option linter.unusedVariables false
set_option linter.unusedSimpArgs false
namespace Go.Spec
open Go Go.Lift Go.Proofs
attribute [local irreducible] Go.Lift.awp
/-! ### harq_NewReceiver -/
noncomputable def E_harq_NewReceiver : Env := { P := Try.prog, sum := sumsOf [], nio := 0, head := fun b => ([], []), after := fun _ => none, leave := fun b => [], loops := fun b => none }
def W_harq_NewReceiver  : Prop := (
  ((List.replicate (8 : Nat) false, List.replicate (8 : Nat) false, ()) = (noFlags, noFlags, ())) ∧
  True)
theorem V_harq_NewReceiver  : awp E_harq_NewReceiver (bodyOf Try.f53) 0 (fin Try.prog S_harq_NewReceiver (()) [(0, none)] 0) (initSt S_harq_NewReceiver.par (()) 3) = W_harq_NewReceiver  := by kernel_rfl
theorem G_harq_NewReceiver : loopsAll E_harq_NewReceiver (loopList (bodyOf Try.f53) 0) = (True) := by kernel_rfl
theorem envok_harq_NewReceiver  : EnvOK E_harq_NewReceiver := ⟨sumsOf_ok (fun _ h => nomatch h), follows⟩
theorem whole_harq_NewReceiver   (main : (True) → W_harq_NewReceiver ) : SumOK Try.prog 53 S_harq_NewReceiver :=
  fun_sound (E := E_harq_NewReceiver) (envok_harq_NewReceiver ) (fn := Try.f53) (c := bodyOf Try.f53) (ts := [(0, none)]) S_harq_NewReceiver Try.func53 (body_some (by kernel_rfl)) (by kernel_rfl) (Nat.le_of_ble_eq_true (by kernel_rfl)) (by kernel_rfl) (by kernel_rfl) (G_harq_NewReceiver.mpr trivial) (fun x hp => match x, hp with | (), hp => (V_harq_NewReceiver ).mpr (main  hp))
/-! ### harq_Receiver_Take -/
noncomputable def E_harq_Receiver_Take : Env := { P := Try.prog, sum := sumsOf [], nio := 1, head := fun b => ([], []), after := fun _ => none, leave := fun b => [], loops := fun b => none, gen := true }
def W_harq_Receiver_Take (a0 : ((List Bool) × ((List Bool) × Unit))) (a1 : (Int × (Int × (Bool × (ByteArray × Unit))))) (a2 : Bool) : Prop := (
  condP (if (if (if decide (Prod.fst a1 < (0 : Int)) = true then true else decide (Prod.fst a1 > (7 : Int))) = true then true else decide (Prod.fst (Prod.snd a1) < (0 : Int))) = true then true else decide (Prod.fst (Prod.snd a1) > (3 : Int)))
    ((ByteArray.mk (List.toArray (@List.nil UInt8)) = Prod.fst (Prod.fst (takeOf true a0 a1 a2))) ∧
    (false = Prod.fst (Prod.snd (Prod.fst (takeOf true a0 a1 a2)))) ∧
    (false = Prod.fst (Prod.snd (Prod.snd (Prod.fst (takeOf true a0 a1 a2))))) ∧
    ((1 : Int) = Prod.snd (Prod.snd (Prod.snd (Prod.fst (takeOf true a0 a1 a2))))) ∧
    (a0 = Prod.snd (takeOf true a0 a1 a2)) ∧
    True)
    (condP (decide ((↑(ByteArray.size (Prod.fst (Prod.snd (Prod.snd (Prod.snd a1))))) : Int) > (1500 : Int)))
      ((ByteArray.mk (List.toArray (@List.nil UInt8)) = Prod.fst (Prod.fst (takeOf true a0 a1 a2))) ∧
      (false = Prod.fst (Prod.snd (Prod.fst (takeOf true a0 a1 a2)))) ∧
      (false = Prod.fst (Prod.snd (Prod.snd (Prod.fst (takeOf true a0 a1 a2))))) ∧
      ((2 : Int) = Prod.snd (Prod.snd (Prod.snd (Prod.fst (takeOf true a0 a1 a2))))) ∧
      (a0 = Prod.snd (takeOf true a0 a1 a2)) ∧
      True)
      (((0 : Int) ≤ Prod.fst a1) ∧
      (Prod.fst a1 < (↑(8 : Nat) : Int)) ∧
      condP (Prod.fst (Prod.snd (Prod.snd a1)) != List.getD (Prod.fst a0) (Int.toNat (Prod.fst a1)) false)
        (((0 : Int) ≤ Prod.fst a1) ∧
        (Prod.fst a1 < (↑(8 : Nat) : Int)) ∧
        ((0 : Int) ≤ Prod.fst a1) ∧
        (Prod.fst a1 < (↑(8 : Nat) : Int)) ∧
        ((0 : Int) ≤ Prod.fst a1) ∧
        (Prod.fst a1 < (↑(8 : Nat) : Int)) ∧
        condP (!List.getD (List.set (Prod.fst (Prod.snd a0)) (Int.toNat (Prod.fst a1)) true) (Int.toNat (Prod.fst a1)) false)
          ((ByteArray.mk (List.toArray (@List.nil UInt8)) = Prod.fst (Prod.fst (takeOf true a0 a1 a2))) ∧
          (false = Prod.fst (Prod.snd (Prod.fst (takeOf true a0 a1 a2)))) ∧
          (true = Prod.fst (Prod.snd (Prod.snd (Prod.fst (takeOf true a0 a1 a2))))) ∧
          ((0 : Int) = Prod.snd (Prod.snd (Prod.snd (Prod.fst (takeOf true a0 a1 a2))))) ∧
          ((List.set (Prod.fst a0) (Int.toNat (Prod.fst a1)) (Prod.fst (Prod.snd (Prod.snd a1))), List.set (Prod.fst (Prod.snd a0)) (Int.toNat (Prod.fst a1)) true, Prod.snd (Prod.snd a0)) = Prod.snd (takeOf true a0 a1 a2)) ∧
          True)
          (condP (a2)
            (((0 : Int) ≤ Prod.fst a1) ∧
            (Prod.fst a1 < (↑(8 : Nat) : Int)) ∧
            (Prod.fst (Prod.snd (Prod.snd (Prod.snd a1))) = Prod.fst (Prod.fst (takeOf true a0 a1 a2))) ∧
            (true = Prod.fst (Prod.snd (Prod.fst (takeOf true a0 a1 a2)))) ∧
            (true = Prod.fst (Prod.snd (Prod.snd (Prod.fst (takeOf true a0 a1 a2))))) ∧
            ((0 : Int) = Prod.snd (Prod.snd (Prod.snd (Prod.fst (takeOf true a0 a1 a2))))) ∧
            ((List.set (Prod.fst a0) (Int.toNat (Prod.fst a1)) (Prod.fst (Prod.snd (Prod.snd a1))), List.set (List.set (Prod.fst (Prod.snd a0)) (Int.toNat (Prod.fst a1)) true) (Int.toNat (Prod.fst a1)) false, Prod.snd (Prod.snd a0)) = Prod.snd (takeOf true a0 a1 a2)) ∧
            True)
            ((ByteArray.mk (List.toArray (@List.nil UInt8)) = Prod.fst (Prod.fst (takeOf true a0 a1 a2))) ∧
            (false = Prod.fst (Prod.snd (Prod.fst (takeOf true a0 a1 a2)))) ∧
            (false = Prod.fst (Prod.snd (Prod.snd (Prod.fst (takeOf true a0 a1 a2))))) ∧
            ((0 : Int) = Prod.snd (Prod.snd (Prod.snd (Prod.fst (takeOf true a0 a1 a2))))) ∧
            ((List.set (Prod.fst a0) (Int.toNat (Prod.fst a1)) (Prod.fst (Prod.snd (Prod.snd a1))), List.set (Prod.fst (Prod.snd a0)) (Int.toNat (Prod.fst a1)) true, Prod.snd (Prod.snd a0)) = Prod.snd (takeOf true a0 a1 a2)) ∧
            True)))
        (((0 : Int) ≤ Prod.fst a1) ∧
        (Prod.fst a1 < (↑(8 : Nat) : Int)) ∧
        condP (!List.getD (Prod.fst (Prod.snd a0)) (Int.toNat (Prod.fst a1)) false)
          ((ByteArray.mk (List.toArray (@List.nil UInt8)) = Prod.fst (Prod.fst (takeOf true a0 a1 a2))) ∧
          (false = Prod.fst (Prod.snd (Prod.fst (takeOf true a0 a1 a2)))) ∧
          (true = Prod.fst (Prod.snd (Prod.snd (Prod.fst (takeOf true a0 a1 a2))))) ∧
          ((0 : Int) = Prod.snd (Prod.snd (Prod.snd (Prod.fst (takeOf true a0 a1 a2))))) ∧
          (a0 = Prod.snd (takeOf true a0 a1 a2)) ∧
          True)
          (condP (a2)
            (((0 : Int) ≤ Prod.fst a1) ∧
            (Prod.fst a1 < (↑(8 : Nat) : Int)) ∧
            (Prod.fst (Prod.snd (Prod.snd (Prod.snd a1))) = Prod.fst (Prod.fst (takeOf true a0 a1 a2))) ∧
            (true = Prod.fst (Prod.snd (Prod.fst (takeOf true a0 a1 a2)))) ∧
            (true = Prod.fst (Prod.snd (Prod.snd (Prod.fst (takeOf true a0 a1 a2))))) ∧
            ((0 : Int) = Prod.snd (Prod.snd (Prod.snd (Prod.fst (takeOf true a0 a1 a2))))) ∧
            ((Prod.fst a0, List.set (Prod.fst (Prod.snd a0)) (Int.toNat (Prod.fst a1)) false, Prod.snd (Prod.snd a0)) = Prod.snd (takeOf true a0 a1 a2)) ∧
            True)
            ((ByteArray.mk (List.toArray (@List.nil UInt8)) = Prod.fst (Prod.fst (takeOf true a0 a1 a2))) ∧
            (false = Prod.fst (Prod.snd (Prod.fst (takeOf true a0 a1 a2)))) ∧
            (false = Prod.fst (Prod.snd (Prod.snd (Prod.fst (takeOf true a0 a1 a2))))) ∧
            ((0 : Int) = Prod.snd (Prod.snd (Prod.snd (Prod.fst (takeOf true a0 a1 a2))))) ∧
            (a0 = Prod.snd (takeOf true a0 a1 a2)) ∧
            True))))))
theorem V_harq_Receiver_Take (a0 : ((List Bool) × ((List Bool) × Unit))) (a1 : (Int × (Int × (Bool × (ByteArray × Unit))))) (a2 : Bool) : awp E_harq_Receiver_Take (bodyOf Try.f54) 0 (fin Try.prog S_harq_Receiver_Take (a0, a1, a2, ()) [(6, none), (7, none), (8, none), (9, none)] 1) (initSt S_harq_Receiver_Take.par (a0, a1, a2, ()) 71) = W_harq_Receiver_Take a0 a1 a2 := by kernel_rfl
theorem G_harq_Receiver_Take : loopsAll E_harq_Receiver_Take (loopList (bodyOf Try.f54) 0) = (True) := by kernel_rfl
theorem envok_harq_Receiver_Take  : EnvOK E_harq_Receiver_Take := ⟨sumsOf_ok (fun _ h => nomatch h), follows⟩
theorem whole_harq_Receiver_Take   (main : ∀ (a0 : ((List Bool) × ((List Bool) × Unit))) (a1 : (Int × (Int × (Bool × (ByteArray × Unit))))) (a2 : Bool), (True) → W_harq_Receiver_Take a0 a1 a2) : SumOK Try.prog 54 S_harq_Receiver_Take :=
  fun_sound (E := E_harq_Receiver_Take) (envok_harq_Receiver_Take ) (fn := Try.f54) (c := bodyOf Try.f54) (ts := [(6, none), (7, none), (8, none), (9, none)]) S_harq_Receiver_Take Try.func54 (body_some (by kernel_rfl)) (by kernel_rfl) (Nat.le_of_ble_eq_true (by kernel_rfl)) (by kernel_rfl) (by kernel_rfl) (G_harq_Receiver_Take.mpr trivial) (fun x hp => match x, hp with | (a0, a1, a2, ()), hp => (V_harq_Receiver_Take a0 a1 a2).mpr (main a0 a1 a2 hp))
end Go.Spec
