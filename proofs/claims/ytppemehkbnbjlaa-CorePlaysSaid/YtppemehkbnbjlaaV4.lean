/- The runs of the functions, told. -/
import Derived.Test.YtppemehkbnbjlaaLF
import Derived.Test.YtppemehkbnbjlaaProg
import Derived.Test.YtppemehkbnbjlaaS4
import Derived.Test.YtppemehkbnbjlaaV3
set_option linter.unusedVariables false
set_option linter.unusedSimpArgs false
namespace Go.Spec
open Go Go.Lift Go.Proofs
attribute [local irreducible] Go.Lift.awp
/-! ### law_deed -/
noncomputable def E_law_deed : Env := { P := Try.prog, sum := sumsOf [(61, S_core_Core_Join), (98, S_R_Core_Join), (62, S_core_Core_Attach), (99, S_R_Core_Attach), (65, S_core_Core_Leave), (100, S_R_Core_Leave), (101, S_core_Core_Sleep), (102, S_R_Core_Sleep), (103, S_core_Core_Wake), (104, S_R_Core_Wake), (105, S_core_Core_Hand), (106, S_R_Core_Hand), (63, S_core_Core_Lend), (107, S_R_Core_Lend), (64, S_core_Core_Report), (108, S_R_Core_Report)], nio := 2, head := fun b => ([], []), after := fun _ => none, leave := fun b => [], loops := fun b => none }
def W_law_deed (a0 : (Int × ((Option (List (Int × (Option (Int × (Int × ((Int × (Int × (Int × Unit))) × Unit))))))) × ((List (Option (Int × (Int × (Int × (Bool × Unit)))))) × Unit)))) (a1 : (Int × ((List (Bool × (Bool × (Bool × (Int × (Int × Unit)))))) × ((List (Int × (Int × (Int × (Int × (Bool × Unit)))))) × Unit)))) (a2 : (Int × (Int × (Int × (Int × ((Int × (Int × (Int × (Bool × Unit)))) × Unit)))))) : Prop := (
  condP (Prod.fst a2 == (0 : Int))
    ((Option.isSome (Prod.fst (Prod.snd a0)) = true) ∧
    (List.length (Prod.fst (Prod.snd a1)) = (17 : Nat)) ∧
    ((Prod.fst (joinC a0 (Prod.fst (Prod.snd a2)) (Prod.fst (Prod.snd (Prod.snd a2)))) == Prod.fst (joinR a1 (Prod.fst (Prod.snd a2)) (Prod.fst (Prod.snd (Prod.snd a2))))) = decide (Prod.fst (dC a0 a2) = Prod.fst (dR a1 a2))) ∧
    (Prod.snd (joinC a0 (Prod.fst (Prod.snd a2)) (Prod.fst (Prod.snd (Prod.snd a2)))) = Prod.snd (dC a0 a2)) ∧
    (Prod.snd (joinR a1 (Prod.fst (Prod.snd a2)) (Prod.fst (Prod.snd (Prod.snd a2)))) = Prod.snd (dR a1 a2)) ∧
    True)
    (condP (Prod.fst a2 == (1 : Int))
      ((Option.isSome (Prod.fst (Prod.snd a0)) = true) ∧
      (List.length (Prod.fst (Prod.snd a1)) = (17 : Nat)) ∧
      ((Prod.fst (attC a0 (Prod.fst (Prod.snd a2)) (Prod.fst (Prod.snd (Prod.snd a2)))) == Prod.fst (attR a1 (Prod.fst (Prod.snd a2)) (Prod.fst (Prod.snd (Prod.snd a2))))) = decide (Prod.fst (dC a0 a2) = Prod.fst (dR a1 a2))) ∧
      (Prod.snd (attC a0 (Prod.fst (Prod.snd a2)) (Prod.fst (Prod.snd (Prod.snd a2)))) = Prod.snd (dC a0 a2)) ∧
      (Prod.snd (attR a1 (Prod.fst (Prod.snd a2)) (Prod.fst (Prod.snd (Prod.snd a2)))) = Prod.snd (dR a1 a2)) ∧
      True)
      (condP (Prod.fst a2 == (2 : Int))
        ((Option.isSome (Prod.fst (Prod.snd a0)) = true ∧ grantsOK (Prod.fst (Prod.snd a0)) (Prod.fst (Prod.snd (Prod.snd a0))) ∧ (↑(List.length (Prod.fst (Prod.snd (Prod.snd a0)))) : Int) ≤ big) ∧
        (List.length (Prod.fst (Prod.snd a1)) = (17 : Nat) ∧ (↑(List.length (Prod.fst (Prod.snd (Prod.snd a1)))) : Int) ≤ big) ∧
        ((Prod.fst (leaC a0 (Prod.fst (Prod.snd a2))) == Prod.fst (leaR a1 (Prod.fst (Prod.snd a2)))) = decide (Prod.fst (dC a0 a2) = Prod.fst (dR a1 a2))) ∧
        (Prod.snd (leaC a0 (Prod.fst (Prod.snd a2))) = Prod.snd (dC a0 a2)) ∧
        (Prod.snd (leaR a1 (Prod.fst (Prod.snd a2))) = Prod.snd (dR a1 a2)) ∧
        True)
        (condP (Prod.fst a2 == (3 : Int))
          ((True) ∧
          (List.length (Prod.fst (Prod.snd a1)) = (17 : Nat)) ∧
          ((Prod.fst (slpC a0 (Prod.fst (Prod.snd a2))) == Prod.fst (slpR a1 (Prod.fst (Prod.snd a2)))) = decide (Prod.fst (dC a0 a2) = Prod.fst (dR a1 a2))) ∧
          (Prod.snd (slpC a0 (Prod.fst (Prod.snd a2))) = Prod.snd (dC a0 a2)) ∧
          (Prod.snd (slpR a1 (Prod.fst (Prod.snd a2))) = Prod.snd (dR a1 a2)) ∧
          True)
          (condP (Prod.fst a2 == (4 : Int))
            ((Option.isSome (Prod.fst (Prod.snd a0)) = true) ∧
            (List.length (Prod.fst (Prod.snd a1)) = (17 : Nat)) ∧
            ((Prod.fst (wakC a0 (Prod.fst (Prod.snd a2)) (Prod.fst (Prod.snd (Prod.snd a2)))) == Prod.fst (wakR a1 (Prod.fst (Prod.snd a2)) (Prod.fst (Prod.snd (Prod.snd a2))))) = decide (Prod.fst (dC a0 a2) = Prod.fst (dR a1 a2))) ∧
            (Prod.snd (wakC a0 (Prod.fst (Prod.snd a2)) (Prod.fst (Prod.snd (Prod.snd a2)))) = Prod.snd (dC a0 a2)) ∧
            (Prod.snd (wakR a1 (Prod.fst (Prod.snd a2)) (Prod.fst (Prod.snd (Prod.snd a2)))) = Prod.snd (dR a1 a2)) ∧
            True)
            (condP (Prod.fst a2 == (5 : Int))
              ((True) ∧
              (List.length (Prod.fst (Prod.snd a1)) = (17 : Nat)) ∧
              ((Prod.fst (hanC a0 (Prod.fst (Prod.snd a2)) (Prod.fst (Prod.snd (Prod.snd a2))) (Prod.fst (Prod.snd (Prod.snd (Prod.snd a2))))) == Prod.fst (hanR a1 (Prod.fst (Prod.snd a2)) (Prod.fst (Prod.snd (Prod.snd a2))) (Prod.fst (Prod.snd (Prod.snd (Prod.snd a2)))))) = decide (Prod.fst (dC a0 a2) = Prod.fst (dR a1 a2))) ∧
              (Prod.snd (hanC a0 (Prod.fst (Prod.snd a2)) (Prod.fst (Prod.snd (Prod.snd a2))) (Prod.fst (Prod.snd (Prod.snd (Prod.snd a2))))) = Prod.snd (dC a0 a2)) ∧
              (Prod.snd (hanR a1 (Prod.fst (Prod.snd a2)) (Prod.fst (Prod.snd (Prod.snd a2))) (Prod.fst (Prod.snd (Prod.snd (Prod.snd a2))))) = Prod.snd (dR a1 a2)) ∧
              True)
              (condP (Prod.fst a2 == (6 : Int))
                (((List.length (Prod.fst (Prod.snd (Prod.snd a0))) + (1 : Nat)) * (8 : Nat) ≤ (140737488355328 : Nat)) ∧
                ((List.length (Prod.fst (Prod.snd (Prod.snd a1))) + (1 : Nat)) * (40 : Nat) ≤ (140737488355328 : Nat)) ∧
                ((if (if (Prod.fst (Prod.fst (lenC a0 (Prod.fst (Prod.snd a2)))) == Prod.fst (Prod.fst (lenR a1 (Prod.fst (Prod.snd a2))))) = true then Prod.fst (Prod.snd (Prod.fst (lenC a0 (Prod.fst (Prod.snd a2))))) == Prod.fst (Prod.snd (Prod.fst (lenR a1 (Prod.fst (Prod.snd a2))))) else false) = true then Prod.snd (Prod.snd (Prod.fst (lenC a0 (Prod.fst (Prod.snd a2))))) == Prod.snd (Prod.snd (Prod.fst (lenR a1 (Prod.fst (Prod.snd a2))))) else false) = decide (Prod.fst (dC a0 a2) = Prod.fst (dR a1 a2))) ∧
                (Prod.snd (lenC a0 (Prod.fst (Prod.snd a2))) = Prod.snd (dC a0 a2)) ∧
                (Prod.snd (lenR a1 (Prod.fst (Prod.snd a2))) = Prod.snd (dR a1 a2)) ∧
                True)
                ((grantsOK (Prod.fst (Prod.snd a0)) (Prod.fst (Prod.snd (Prod.snd a0))) ∧ (↑(List.length (Prod.fst (Prod.snd (Prod.snd a0)))) : Int) ≤ big) ∧
                ((↑(List.length (Prod.fst (Prod.snd (Prod.snd a1)))) : Int) ≤ big) ∧
                ((Prod.fst (repC a0 (Prod.fst (Prod.snd (Prod.snd (Prod.snd (Prod.snd a2)))))) == Prod.fst (repR a1 (Prod.fst (Prod.snd (Prod.snd (Prod.snd (Prod.snd a2))))))) = decide (Prod.fst (dC a0 a2) = Prod.fst (dR a1 a2))) ∧
                (Prod.snd (repC a0 (Prod.fst (Prod.snd (Prod.snd (Prod.snd (Prod.snd a2)))))) = Prod.snd (dC a0 a2)) ∧
                (Prod.snd (repR a1 (Prod.fst (Prod.snd (Prod.snd (Prod.snd (Prod.snd a2)))))) = Prod.snd (dR a1 a2)) ∧
                True))))))))
theorem V_law_deed (a0 : (Int × ((Option (List (Int × (Option (Int × (Int × ((Int × (Int × (Int × Unit))) × Unit))))))) × ((List (Option (Int × (Int × (Int × (Bool × Unit)))))) × Unit)))) (a1 : (Int × ((List (Bool × (Bool × (Bool × (Int × (Int × Unit)))))) × ((List (Int × (Int × (Int × (Int × (Bool × Unit)))))) × Unit)))) (a2 : (Int × (Int × (Int × (Int × ((Int × (Int × (Int × (Bool × Unit)))) × Unit)))))) : awp E_law_deed (bodyOf Try.f56) 0 (fin Try.prog S_law_deed (a0, a1, a2, ()) [(6, none)] 2) (initSt S_law_deed.par (a0, a1, a2, ()) 141) = W_law_deed a0 a1 a2 := by kernel_rfl
theorem G_law_deed : loopsAll E_law_deed (loopList (bodyOf Try.f56) 0) = (True) := by kernel_rfl
theorem envok_law_deed (h_core_Core_Join : SumOK Try.prog 61 S_core_Core_Join) (h_R_Core_Join : SumOK Try.prog 98 S_R_Core_Join) (h_core_Core_Attach : SumOK Try.prog 62 S_core_Core_Attach) (h_R_Core_Attach : SumOK Try.prog 99 S_R_Core_Attach) (h_core_Core_Leave : SumOK Try.prog 65 S_core_Core_Leave) (h_R_Core_Leave : SumOK Try.prog 100 S_R_Core_Leave) (h_core_Core_Sleep : SumOK Try.prog 101 S_core_Core_Sleep) (h_R_Core_Sleep : SumOK Try.prog 102 S_R_Core_Sleep) (h_core_Core_Wake : SumOK Try.prog 103 S_core_Core_Wake) (h_R_Core_Wake : SumOK Try.prog 104 S_R_Core_Wake) (h_core_Core_Hand : SumOK Try.prog 105 S_core_Core_Hand) (h_R_Core_Hand : SumOK Try.prog 106 S_R_Core_Hand) (h_core_Core_Lend : SumOK Try.prog 63 S_core_Core_Lend) (h_R_Core_Lend : SumOK Try.prog 107 S_R_Core_Lend) (h_core_Core_Report : SumOK Try.prog 64 S_core_Core_Report) (h_R_Core_Report : SumOK Try.prog 108 S_R_Core_Report) : EnvOK E_law_deed := ⟨sumsOf_ok (List.forall_mem_cons.2 ⟨h_core_Core_Join, (List.forall_mem_cons.2 ⟨h_R_Core_Join, (List.forall_mem_cons.2 ⟨h_core_Core_Attach, (List.forall_mem_cons.2 ⟨h_R_Core_Attach, (List.forall_mem_cons.2 ⟨h_core_Core_Leave, (List.forall_mem_cons.2 ⟨h_R_Core_Leave, (List.forall_mem_cons.2 ⟨h_core_Core_Sleep, (List.forall_mem_cons.2 ⟨h_R_Core_Sleep, (List.forall_mem_cons.2 ⟨h_core_Core_Wake, (List.forall_mem_cons.2 ⟨h_R_Core_Wake, (List.forall_mem_cons.2 ⟨h_core_Core_Hand, (List.forall_mem_cons.2 ⟨h_R_Core_Hand, (List.forall_mem_cons.2 ⟨h_core_Core_Lend, (List.forall_mem_cons.2 ⟨h_R_Core_Lend, (List.forall_mem_cons.2 ⟨h_core_Core_Report, (List.forall_mem_cons.2 ⟨h_R_Core_Report, (fun _ h => nomatch h)⟩)⟩)⟩)⟩)⟩)⟩)⟩)⟩)⟩)⟩)⟩)⟩)⟩)⟩)⟩)⟩), follows⟩
theorem whole_law_deed (h_core_Core_Join : SumOK Try.prog 61 S_core_Core_Join) (h_R_Core_Join : SumOK Try.prog 98 S_R_Core_Join) (h_core_Core_Attach : SumOK Try.prog 62 S_core_Core_Attach) (h_R_Core_Attach : SumOK Try.prog 99 S_R_Core_Attach) (h_core_Core_Leave : SumOK Try.prog 65 S_core_Core_Leave) (h_R_Core_Leave : SumOK Try.prog 100 S_R_Core_Leave) (h_core_Core_Sleep : SumOK Try.prog 101 S_core_Core_Sleep) (h_R_Core_Sleep : SumOK Try.prog 102 S_R_Core_Sleep) (h_core_Core_Wake : SumOK Try.prog 103 S_core_Core_Wake) (h_R_Core_Wake : SumOK Try.prog 104 S_R_Core_Wake) (h_core_Core_Hand : SumOK Try.prog 105 S_core_Core_Hand) (h_R_Core_Hand : SumOK Try.prog 106 S_R_Core_Hand) (h_core_Core_Lend : SumOK Try.prog 63 S_core_Core_Lend) (h_R_Core_Lend : SumOK Try.prog 107 S_R_Core_Lend) (h_core_Core_Report : SumOK Try.prog 64 S_core_Core_Report) (h_R_Core_Report : SumOK Try.prog 108 S_R_Core_Report)  (main : ∀ (a0 : (Int × ((Option (List (Int × (Option (Int × (Int × ((Int × (Int × (Int × Unit))) × Unit))))))) × ((List (Option (Int × (Int × (Int × (Bool × Unit)))))) × Unit)))) (a1 : (Int × ((List (Bool × (Bool × (Bool × (Int × (Int × Unit)))))) × ((List (Int × (Int × (Int × (Int × (Bool × Unit)))))) × Unit)))) (a2 : (Int × (Int × (Int × (Int × ((Int × (Int × (Int × (Bool × Unit)))) × Unit)))))), (dPre a0 a1) → W_law_deed a0 a1 a2) : SumOK Try.prog 56 S_law_deed :=
  fun_sound (E := E_law_deed) (envok_law_deed h_core_Core_Join h_R_Core_Join h_core_Core_Attach h_R_Core_Attach h_core_Core_Leave h_R_Core_Leave h_core_Core_Sleep h_R_Core_Sleep h_core_Core_Wake h_R_Core_Wake h_core_Core_Hand h_R_Core_Hand h_core_Core_Lend h_R_Core_Lend h_core_Core_Report h_R_Core_Report) (fn := Try.f56) (c := bodyOf Try.f56) (ts := [(6, none)]) S_law_deed Try.func56 (body_some (by kernel_rfl)) (by kernel_rfl) (Nat.le_of_ble_eq_true (by kernel_rfl)) (by kernel_rfl) (by kernel_rfl) (G_law_deed.mpr trivial) (fun x hp => match x, hp with | (a0, a1, a2, ()), hp => (V_law_deed a0 a1 a2).mpr (main a0 a1 a2 hp))
end Go.Spec
