/- The law of a core: both say the same. -/
import Derived.Test.YtppemehkbnbjlaaV5
import Derived.Test.YtppemehkbnbjlaaP6
import Derived.Test.YtppemehkbnbjlaaM10
import Derived.Test.YtppemehkbnbjlaaLF
set_option linter.unusedVariables false
set_option linter.unusedSimpArgs false
namespace Go.Spec
open Go Go.Lift Go.Proofs
attribute [local irreducible] Go.Lift.awp Go.Lift.LoopOK Go.Lift.SumOK
theorem l_law_CorePlays_0 : LoopOK E_law_CorePlays 0 (loopAt (bodyOf Try.f11) 0) L_law_CorePlays_0 := I_law_CorePlays_0 <| by
  intro t1 t8 r0 r1 K hp ho
  obtain ⟨hb, i1, i2, c, rfl, h, hl⟩ := hp
  unfold B_law_CorePlays_0
  unfold o_law_CorePlays_0 at ho ⊢
  simp only [Option.getD_some]
  generalize t1.getD t8.toNat ((0 : Int), (0 : Int), (0 : Int), (0 : Int), ((0 : Int), (0 : Int), (0 : Int), false, ()), ()) = d
  rw [condP_iff]
  refine ⟨fun hlt => ?_, fun _ => ho⟩
  have hlt := of_decide_eq_true hlt
  have hlen := Two.length h.2.2.2.2.2.1
  obtain ⟨q1, q2⟩ := dd_eq h (by rw [hlen]; unfold big; omega) d
  have hl2 := dR_len r1 d
  have hnx : p_law_CorePlays_0 t1 (t8 + 1) (some (dC c d).2) (dR r1 d).2 ∧ m_law_CorePlays_0 t1 (t8 + 1) (some (dC c d).2) (dR r1 d).2 < m_law_CorePlays_0 t1 t8 (some c) r1 ∧ X_law_CorePlays_0_1 K :=
    ⟨⟨hb, by omega, by omega, _, rfl, q2, by omega⟩, by unfold m_law_CorePlays_0; omega, ho⟩
  have hw : IntKind.wrap .i64 (t8 + 1) = t8 + 1 := i64w (by omega)
  have hpre := CR_pre h (by omega)
  have hbig : ((dR r1 d).2.2.2.1.length : Int) ≤ big := by unfold big; omega
  have hpg : ((pagC (dC c d).2 d.2.1).1.length : Int) ≤ big := by
    have := pg_len (dC c d).2 d.2.1
    unfold big; omega
  have e1 := rec_eq q2 d.2.1
  have e2 := page_eq q2 d.2.1
  rw [e2] at hpg
  simp only [q1, e1, e2, hw, condP_iff]
  simp [i1, hlt, hpre, hbig, hpg, hnx]
theorem ok_law_CorePlays : SumOK Try.prog 11 S_law_CorePlays := by
  refine whole_law_CorePlays ok_core_New ok_law_deed ok_core_Core_Record ok_R_Core_Record ok_core_Core_Page ok_R_Core_Page ok_R_SameInts l_law_CorePlays_0 ?_
  intro a0 a1 hp
  unfold W_law_CorePlays newC
  simp only [condP_iff]
  by_cases h : 1 ≤ a0 ∧ a0 ≤ 1000000
  · have h1 : (if decide (a0 < 1) = true then true else decide (a0 > 1000000)) = false := by simp; omega
    rw [h1, if_pos h]
    exact ⟨trivial, fun h => (by cases h), fun _ => ⟨fun h => (by simp at h), fun _ => ⟨⟨hp, Int.le_refl _, by omega, _, rfl, new_CR h, Int.le_refl _⟩, trivial, trivial⟩⟩⟩
  · have h1 : (if decide (a0 < 1) = true then true else decide (a0 > 1000000)) = true := by simp; omega
    rw [h1, if_neg h]
    exact ⟨trivial, fun _ => ⟨rfl, trivial⟩, fun h => (by cases h)⟩
theorem pre_law_CorePlays (x : dens S_law_CorePlays.par) (h : wfs S_law_CorePlays.par x) : S_law_CorePlays.pre x := by
  obtain ⟨a0, a1, ⟨⟩⟩ := x
  obtain ⟨_, ⟨h1, h2, h3⟩, _⟩ := h
  exact h3
end Go.Spec
