/- Bits as points: the walks, third part. -/
import Derived.Test.YtfjoackkcflbkaaP13
set_option linter.unusedVariables false
set_option linter.unusedSimpArgs false
namespace Go.Spec
open Go Go.Lift Go.Proofs
attribute [local irreducible] Go.Lift.awp Go.Lift.LoopOK Go.Lift.SumOK
theorem pt1 (x y : Int) : (if (if (if decide (x < (-1000 : Int)) = true then true else decide (x > (1000 : Int))) = true then true else decide (y < (-1000 : Int))) = true then true else decide (y > (1000 : Int))) = !okPt (x, y, ()) := by
  unfold okPt
  by_cases h1 : x < -1000 <;> by_cases h2 : x > 1000 <;> by_cases h3 : y < -1000 <;> by_cases h4 : y > 1000 <;> simp [h1, h2, h3, h4] <;> omega
theorem l_wave_check_0 : LoopOK E_wave_check 0 (loopAt (bodyOf Try.f77) 0) L_wave_check_0 := I_wave_check_0 <| by
  intro t17 t18 t19 K hp ho
  obtain ⟨rfl, h2, h3, h4⟩ := hp
  have h4' := h4
  rw [big_val] at h4'
  obtain ⟨n, rfl⟩ := Int.eq_ofNat_of_zero_le h2
  have e : ((n : Int) + 1).toNat = n + 1 := by omega
  unfold B_wave_check_0
  unfold o_wave_check_0 at ho ⊢
  rw [pt1]
  simp only [i64w (n := (n : Int) + 1) (by omega), e, Int.toNat_natCast] at ho ⊢
  rw [condP_iff]
  simp only [decide_eq_true_eq, decide_eq_false_iff_not]
  refine ⟨fun hlt => ⟨h2, hlt, ?_⟩, fun hge => ?_⟩
  · rw [drop_cons t17 n (0, 0, ()) (by omega), List.all_cons] at ho
    change condP (!okPt (t17.getD n (0, 0, ()))) _ _
    generalize okPt (t17.getD n (0, 0, ())) = b at *
    cases b
    · simpa [condP_iff] using ho
    · simp only [Bool.not_true, condP_f]
      exact ⟨⟨rfl, by omega, by omega, h4⟩, by unfold m_wave_check_0; omega, by simpa using ho⟩
  · rw [List.drop_eq_nil_of_le (by omega)] at ho
    simpa [condP_iff] using ho
theorem orderB_spec {o : Int} : orderB o = true ↔ o = 2 ∨ o = 4 ∨ o = 6 := by
  simp [orderB, or_assoc]
theorem ok_wave_check : SumOK Try.prog 77 S_wave_check := by
  refine whole_wave_check ok_wave_good l_wave_check_0 ?_
  intro a0 a1 h
  have h' := h
  rw [big_val] at h'
  unfold W_wave_check
  refine ⟨trivial, ?_⟩
  rw [List.drop_zero]
  cases ho : orderB a1
  · refine (condP_t rfl).2 ⟨?_, trivial⟩
    unfold hearB; rw [ho]; rfl
  · have hor := orderB_spec.1 ho
    have hb : -9223372036854775808 ≤ (a0.length : Int) * a1 ∧ (a0.length : Int) * a1 ≤ 9223372036854775807 := by
      rcases hor with rfl | rfl | rfl <;> omega
    rw [i64w hb]
    by_cases hc : (a0.length : Int) * a1 > 4096
    · refine (condP_t (by simp [hc])).2 ⟨?_, trivial⟩
      unfold hearB; rw [ho, decide_eq_false (by omega)]; rfl
    · refine (condP_f (by simp [hc])).2 ⟨⟨rfl, by decide, by omega, h⟩, ?_⟩
      have he : hearB a0 a1 = a0.all okPt := by unfold hearB; rw [ho, decide_eq_true (by omega)]; rfl
      rw [he, condP_iff]
      exact ⟨fun h => ⟨h.symm, trivial⟩, fun h => ⟨h.symm, trivial⟩⟩
end Go.Spec
