/- The law of sums. -/
import Derived.Test.YtfkedbncidahjaaP8
set_option linter.unusedVariables false
set_option linter.unusedSimpArgs false
namespace Go.Spec
open Go Go.Lift Go.Proofs
attribute [local irreducible] Go.Lift.awp Go.Lift.LoopOK Go.Lift.SumOK
theorem openOk_len {b : List Int} {k : Int} (h : openOk b k = true) : sW k ≤ b.length := (of_decide_eq_true h).2.1
theorem ok_law_BitsSums : SumOK Try.prog 8 S_law_BitsSums := by
  refine whole_law_BitsSums ok_bits_Sum ok_bits_Seal ok_bits_Open ok_R_Bits ok_R_Divisor ok_R_Sum ok_R_SameBits ?_
  intro a0 a1 h
  unfold W_law_BitsSums
  have hbad : ∀ e, sumErr a0 a1 = e → e ≠ 0 → sealErr a0 a1 = e ∧ sumOf a0 a1 = [] ∧ sealOf a0 a1 = [] ∧ openOk a0 a1 = false ∧ openOf a0 a1 = [] := by
    rintro e he h0
    have h1 : sealErr a0 a1 = e := by unfold sealErr; rw [if_pos (by rw [he]; exact h0), he]
    have h4 : openOk a0 a1 = false := decide_eq_false fun h => h0 (by rw [← he]; exact h.1)
    exact ⟨h1, by unfold sumOf; rw [if_neg (by rw [he]; exact h0)], by unfold sealOf; rw [if_neg (by rw [h1]; exact h0)], h4, by unfold openOf; rw [h4]; rfl⟩
  refine ⟨h, h, h, h.1, fun _ => trivial, ?_⟩
  by_cases hb : bitsErr a0 = 0
  · by_cases hw : sW a1 = 0
    · have he : sumErr a0 a1 = 1 := by unfold sumErr; rw [if_neg (by simpa using hb), if_pos hw]
      obtain ⟨q1, q2, q3, q4, q5⟩ := hbad 1 he (by decide)
      have hd : divL a1 = [] := divL_nil.2 hw
      refine (condP_t (by rw [hb, hd]; rfl)).2 ?_
      rw [he, q1, q2, q3, q4, q5]
      exact (condP_f rfl).2 ((condP_t rfl).2 ⟨rfl, trivial⟩)
    · have he : sumErr a0 a1 = 0 := by unfold sumErr; rw [if_neg (by simpa using hb), if_neg hw]
      obtain ⟨hbits, hb4⟩ := bitsErr_ok hb
      have hw4 := sW_le a1
      obtain ⟨d1, d2, d3⟩ := divL_ok hw
      have hs : sumOf a0 a1 = sumL a0 a1 := by unfold sumOf; rw [if_pos he]
      have hl := sumL_length a0 a1
      have hd : (divL a1).isEmpty = false := by
        cases hd : divL a1 with
        | nil => rw [hd] at d3; simp at d3
        | cons x xs => rfl
      refine (condP_f (by rw [hb, hd]; rfl)).2 ?_
      refine (condP_f (by rw [he, hb]; rfl)).2 ?_
      refine (condP_f (by rw [hb]; rfl)).2 ?_
      rw [hs]
      have hsl : (sealOf a0 a1).length ≤ 4200 := by
        unfold sealOf; split
        · rw [List.length_append]; omega
        · simp
      refine ⟨trivial, by decide, by omega, ⟨hbits, by omega, hw⟩, by omega, by omega, by rw [hl, big_val]; omega, fun _ => by rw [big_val]; omega, ?_⟩
      have hc1 : (sealErr a0 a1 == 0) = decide ((List.length (List.append a0 (sumL a0 a1)) : Int) ≤ 4096) := by
        rw [List.append_eq, List.length_append, hl]
        unfold sealErr
        rw [if_neg (by simpa using he)]
        by_cases hc : 4096 < a0.length + sW a1
        · rw [if_pos hc, decide_eq_false (by omega)]; rfl
        · rw [if_neg hc, decide_eq_true (by omega)]; rfl
      have hc2 : (sealErr a0 a1 == 0) = true → sealOf a0 a1 = List.append a0 (sumL a0 a1) := fun h => by
        unfold sealOf; rw [if_pos (by simpa using h)]; rfl
      have hc3 : (sealErr a0 a1 == 0) = false → sealErr a0 a1 = 2 ∧ sealOf a0 a1 = [] := fun h => by
        have h' : sealErr a0 a1 ≠ 0 := by simpa using h
        refine ⟨?_, by unfold sealOf; rw [if_neg h']⟩
        unfold sealErr at h' ⊢
        rw [if_neg (by simpa using he)] at h' ⊢
        split at h'
        · rename_i hq; rw [if_pos hq]
        · exact (h' rfl).elim
      refine (condP_f ?_).2 ?_
      · rw [← hc1]
        cases hz : (sealErr a0 a1 == 0)
        · obtain ⟨z1, z2⟩ := hc3 hz
          rw [z1, z2]; simp
        · have hz0 : sealErr a0 a1 = 0 := by simpa using hz
          rw [hc2 hz, hz0]; simp
      · rw [d2, i64w (n := (a0.length : Int) - (sW a1 : Int)) (by omega)]
        by_cases hn : sW a1 ≤ a0.length
        · have en : (a0.length : Int) - (sW a1 : Int) = ((a0.length - sW a1 : Nat) : Int) := by omega
          rw [en]
          have hd : decide (((a0.length - sW a1 : Nat) : Int) < 0) = false := decide_eq_false (by omega)
          have htl : (a0.take (a0.length - sW a1)).length = a0.length - sW a1 := by rw [List.length_take]; omega
          simp only [hd, cutL_take, cutL_drop, forall_const, Bool.false_eq_true, if_false, htl]
          refine ⟨by decide, by omega, by omega, by omega, ⟨Bits.take (l := a0) hbits _, by omega, hw⟩, by omega, by omega, by omega, by rw [sumL_length, big_val]; omega, ?_⟩
          rw [condP_iff]
          simp only [Bool.not_eq_true', decide_eq_false_iff_not, Bool.not_eq_false', decide_eq_true_eq]
          refine ⟨fun hne => ?_, fun heq => ?_⟩
          · have ho : openOk a0 a1 = false := decide_eq_false fun h => hne h.2.2
            have hof : openOf a0 a1 = [] := by unfold openOf; rw [ho]; rfl
            rw [ho, hof]; exact ⟨rfl, trivial⟩
          · have ho : openOk a0 a1 = true := decide_eq_true ⟨he, hn, heq⟩
            have hof : openOf a0 a1 = a0.take (a0.length - sW a1) := by unfold openOf; rw [ho]; rfl
            rw [ho, hof]
            exact ⟨fun _ => by decide, fun _ => by omega, fun _ => by omega, fun _ => by rw [htl, big_val]; omega, by simp, trivial⟩
        · have hd : decide ((a0.length : Int) - (sW a1 : Int) < 0) = true := decide_eq_true (by omega)
          have ho : openOk a0 a1 = false := decide_eq_false fun h => hn h.2.1
          have hof : openOf a0 a1 = [] := by unfold openOf; rw [ho]; rfl
          simp only [hd, Bool.true_eq_false, false_implies, if_true, true_and]
          rw [ho, hof]
          exact (condP_t rfl).2 ⟨rfl, trivial⟩
  · have he : sumErr a0 a1 = bitsErr a0 := by unfold sumErr; rw [if_pos hb]
    obtain ⟨q1, q2, q3, q4, q5⟩ := hbad _ he hb
    have hb0 : (bitsErr a0 == 0) = false := by simpa using hb
    refine (condP_f (by rw [hb0]; rfl)).2 ?_
    rw [he, q1, q2, q3, q4, q5]
    refine (condP_f (by simp)).2 ((condP_t (by simpa using hb)).2 ⟨by simp, trivial⟩)
theorem pre_law_BitsSums (x : dens S_law_BitsSums.par) (h : wfs S_law_BitsSums.par x) : S_law_BitsSums.pre x := by
  obtain ⟨a0, a1, ⟨⟩⟩ := x
  obtain ⟨⟨h1, h2⟩, _⟩ := h
  have h1 : (List.length a0 : Int) ≤ 140737488351232 := h1
  refine ⟨?_, fun y hy => (wfd_u8 (h2 y hy)).1⟩
  rw [big_val]; show (List.length a0 : Int) ≤ _; omega
end Go.Spec
