/- A deed at both cores, run through. -/
import Derived.Test.YtppemehkbnbjlaaV4
import Derived.Test.YtppemehkbnbjlaaP5
set_option linter.unusedVariables false
set_option linter.unusedSimpArgs false
namespace Go.Spec
open Go Go.Lift Go.Proofs
attribute [local irreducible] Go.Lift.awp Go.Lift.LoopOK Go.Lift.SumOK
theorem ieq (a b : Int) : (a == b) = decide (a = b) := by
  by_cases h : a = b <;> simp [h]
theorem ok_law_deed : SumOK Try.prog 56 S_law_deed := by
  refine whole_law_deed ok_core_Core_Join ok_R_Core_Join ok_core_Core_Attach ok_R_Core_Attach ok_core_Core_Leave ok_R_Core_Leave ok_core_Core_Sleep ok_R_Core_Sleep ok_core_Core_Wake ok_R_Core_Wake ok_core_Core_Hand ok_R_Core_Hand ok_core_Core_Lend ok_R_Core_Lend ok_core_Core_Report ok_R_Core_Report ?_
  intro a0 a1 a2 hp
  obtain ⟨h1, h2, h3, h4, h5⟩ := hp
  have b1 : ((Prod.fst (Prod.snd (Prod.snd a0))).length : Int) ≤ big := by unfold big; omega
  have b2 : ((Prod.fst (Prod.snd (Prod.snd a1))).length : Int) ≤ big := by unfold big; omega
  obtain ⟨k, w, a, b, u, ⟨⟩⟩ := a2
  unfold W_law_deed dC dR
  simp only [condP_iff]
  by_cases k0 : k = 0
  · subst k0; simp [ieq, h1, h4, ieq]
  by_cases k1 : k = 1
  · subst k1; simp [ieq, h1, h4]
  by_cases k2 : k = 2
  · subst k2; simp [ieq, h1, h2, h4, b1, b2]
  by_cases k3 : k = 3
  · subst k3; simp [ieq, h4]
  by_cases k4 : k = 4
  · subst k4; simp [ieq, h1, h4]
  by_cases k5 : k = 5
  · subst k5; simp [ieq, h4]
  by_cases k6 : k = 6
  · subst k6; simp [ieq, h3, h5]
    generalize (lenC a0 w).1 = x
    generalize (lenR a1 w).1 = y
    obtain ⟨x1, x2, x3⟩ := x
    obtain ⟨y1, y2, y3⟩ := y
    by_cases g1 : x1 = y1 <;> by_cases g2 : x2 = y2 <;> simp [g1, g2]
  · simp [ieq, k0, k1, k2, k3, k4, k5, k6, h2, b1, b2]
end Go.Spec
