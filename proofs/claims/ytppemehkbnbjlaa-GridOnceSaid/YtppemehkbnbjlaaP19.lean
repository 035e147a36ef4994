/- What is wrong with a grid: the program's answer, the document's. -/
import Derived.Test.YtppemehkbnbjlaaM21
import Derived.Test.YtppemehkbnbjlaaP18
set_option linter.unusedVariables false
set_option linter.unusedSimpArgs false
namespace Go.Spec
open Go Go.Lift Go.Proofs
attribute [local irreducible] Go.Lift.awp Go.Lift.LoopOK Go.Lift.SumOK
theorem fuel {a b : Int} (h : a < b) : (b - a).toNat = (b - (a + 1)).toNat + 1 := by omega
theorem fuel0 {a b : Int} (h : ¬ a < b) : (b - a).toNat = 0 := by omega
theorem l_grid_Check_0 : LoopOK E_grid_Check 0 (loopAt (bodyOf Try.f32) 0) L_grid_Check_0 := I_grid_Check_0 <| by
  intro t27 t28 t29 r0 K hp ho
  obtain ⟨rfl, rfl, h2, h3, hz⟩ := hp
  have hs := sizeB_iff.1 hz
  have e1 : (t29 + 1).toNat = t29.toNat + 1 := by omega
  unfold B_grid_Check_0
  unfold o_grid_Check_0 at ho ⊢
  by_cases hlt : t29 < (r0.2.1.length : Int)
  · rw [condP_t (by simpa using hlt)]
    rw [drop_cons r0.2.1 t29.toNat sh0 (by omega), List.all_cons] at ho
    refine ⟨h2, hlt, ⟨hs.1, hs.2.1⟩, ?_⟩
    rw [condP_iff]
    refine ⟨fun hc => ?_, fun hc => ?_⟩
    · have hc : formedB (r0.2.1.getD t29.toNat sh0) r0.1 = false := by simpa using hc
      rw [hc, Bool.false_and, condP_f rfl] at ho
      exact ho
    · have hc : formedB (r0.2.1.getD t29.toNat sh0) r0.1 = true := by simpa using hc
      rw [hc, Bool.true_and] at ho
      rw [w64 (by omega), e1]
      exact ⟨⟨rfl, rfl, by omega, by omega, hz⟩, by unfold m_grid_Check_0; omega, ho⟩
  · rw [condP_f (by simpa using hlt)]
    rw [List.drop_eq_nil_of_le (by omega), List.all_nil, condP_t rfl] at ho
    exact ho
theorem l_grid_Check_2 : LoopOK E_grid_Check 2 (loopAt (bodyOf Try.f32) 2) L_grid_Check_2 := I_grid_Check_2 <| by
  intro t40 t41 t42 r0 K hp ho
  obtain ⟨h1, rfl, h2, h3, n, hn, hf⟩ := hp
  have e1 : (t42 + 1).toNat = t42.toNat + 1 := by omega
  unfold B_grid_Check_2
  unfold o_grid_Check_2 at ho ⊢
  by_cases hlt : t42 < (t40.length : Int)
  · rw [condP_t (by simpa using hlt)]
    rw [drop_cons t40 t42.toNat sh0 (by omega)] at ho
    have hs := hf _ (mem_getD sh0 (show t42.toNat < t40.length by omega))
    have hs' := formed_iff.1 hs
    refine ⟨h2, hlt, ⟨⟨h1, rfl, h2, hlt, n, hn, hf, hs⟩, rfl, by omega, by show (0 : Int) ≤ (t40.getD t42.toNat sh0).2.2.1; omega⟩, ?_⟩
    rw [w64 (by omega), e1]
    refine ⟨⟨h1, rfl, by omega, by omega, n, hn, hf⟩, by unfold m_grid_Check_2; omega, ?_⟩
    simp only [incAll] at ho
    simpa using ho
  · rw [condP_f (by simpa using hlt)]
    rw [List.drop_eq_nil_of_le (by omega)] at ho
    exact ho
theorem l_grid_Check_4 : LoopOK E_grid_Check 4 (loopAt (bodyOf Try.f32) 4) L_grid_Check_4 := I_grid_Check_4 <| by
  intro t40 t41 t42 t47 t48 r0 r1 K hp ho
  obtain ⟨⟨h1, h2, h3, h4, n, hn, hf, hs⟩, rfl, h5, h6⟩ := hp
  have hs' := formed_iff.1 hs
  unfold B_grid_Check_4
  unfold o_grid_Check_4 at ho ⊢
  by_cases hlt : t48 < r1.2.2.1
  · rw [condP_t (by simpa using hlt)]
    rw [fuel hlt] at ho
    simp only [incCols] at ho
    refine ⟨⟨⟨h1, h2, h3, h4, n, hn, hf, hs⟩, rfl, h5, hlt, rfl, by omega, by omega⟩, ?_⟩
    rw [w64 (by omega)]
    exact ⟨⟨⟨h1, h2, h3, h4, n, hn, hf, hs⟩, rfl, by omega, by omega⟩, by unfold m_grid_Check_4; omega, ho⟩
  · rw [condP_f (by simpa using hlt)]
    rw [fuel0 hlt] at ho
    exact ho
theorem l_grid_Check_6 : LoopOK E_grid_Check 6 (loopAt (bodyOf Try.f32) 6) L_grid_Check_6 := I_grid_Check_6 <| by
  intro t8 t9 t40 t41 t42 t47 t48 r0 r1 K hp ho
  obtain ⟨⟨h1, h2, h3, h4, n, hn, hf, hs⟩, rfl, h5, h6, rfl, h7, h8⟩ := hp
  have hs' := formed_iff.1 hs
  unfold B_grid_Check_6
  unfold o_grid_Check_6 at ho ⊢
  have hw : IntKind.wrap .i64 (r1.2.1 + t8) = r1.2.1 + t8 := w64 (by omega)
  rw [hw]
  by_cases hlt : t9 < r1.2.2.2.2.1
  · rw [condP_t (by simpa using hlt)]
    rw [fuel hlt] at ho
    simp only [incRow] at ho
    have hw2 : IntKind.wrap .i64 (t9 + 1) = t9 + 1 := w64 (by omega)
    rw [hw2]
    refine ⟨by omega, by omega, by omega, by omega, by omega, by omega, by omega, by omega, ?_⟩
    exact ⟨⟨⟨h1, h2, h3, h4, n, hn, hf, hs⟩, rfl, h5, h6, rfl, by omega, by omega⟩, by unfold m_grid_Check_6; omega, ho⟩
  · rw [condP_f (by simpa using hlt)]
    rw [fuel0 hlt] at ho
    exact ho
theorem cutL_all {α : Type} (l : List α) : cutL l none none = l := by unfold cutL; simp
theorem l_grid_Check_8 : LoopOK E_grid_Check 8 (loopAt (bodyOf Try.f32) 8) L_grid_Check_8 := I_grid_Check_8 <| by
  intro t72 t73 K hp ho
  obtain ⟨h1, h2, h3⟩ := hp
  unfold B_grid_Check_8
  unfold o_grid_Check_8 at ho ⊢
  by_cases hlt : t73 < 12
  · rw [condP_t (by simpa using hlt)]
    rw [fuel hlt] at ho
    have hl : (t72.getD t73.toNat (List.replicate 14 0)).length = 14 := by
      rw [List.getD_eq_getElem?_getD]
      cases h : t72[t73.toNat]? with
      | none => rfl
      | some r => exact h3 r (List.mem_of_getElem? h)
    simp only [cutL_all]
    refine ⟨h1, by omega, by omega, by omega, by omega, ⟨by omega, by rw [hl, bigv]; decide⟩, ?_⟩
    simp only [over1] at ho
    rw [condP_iff]
    refine ⟨fun hc => ?_, fun hc => ?_⟩
    · have hc : decide (maxL (t72.getD t73.toNat row14) > 1) = true := hc
      rw [hc, Bool.true_or, condP_t rfl] at ho
      exact ho
    · have hc : decide (maxL (t72.getD t73.toNat row14) > 1) = false := hc
      rw [hc, Bool.false_or] at ho
      rw [w64 (by omega)]
      exact ⟨⟨by omega, by omega, h3⟩, by unfold m_grid_Check_8; omega, ho⟩
  · rw [condP_f (by simpa using hlt)]
    rw [fuel0 hlt] at ho
    rw [show over1 t72 t73 0 = false from rfl, condP_f rfl] at ho
    exact ho
theorem size_cond (g : GR) : (if (if decide (g.1 < (1 : Int)) = true then true else decide (g.1 > (12 : Int))) = true then true else decide ((g.2.1.length : Int) > (100 : Int))) = !sizeB g := by
  simp only [if_or, sizeB]
  rw [Bool.eq_iff_iff]
  simp only [Bool.or_eq_true, decide_eq_true_eq, Bool.not_eq_true', decide_eq_false_iff_not]
  omega
theorem ok_grid_Check : SumOK Try.prog 32 S_grid_Check := by
  refine whole_grid_Check ok_grid_formed ok_slices_Max_int_int l_grid_Check_0 l_grid_Check_2 l_grid_Check_4 l_grid_Check_6 l_grid_Check_8 ?_
  intro a0 _
  unfold W_grid_Check
  rw [size_cond, condP_iff]
  refine ⟨fun hz => ?_, fun hz => ?_⟩
  · have hz : sizeB a0 = false := by simpa using hz
    exact ⟨by unfold gridErr; rw [hz]; rfl, trivial⟩
  · have hz : sizeB a0 = true := by simpa using hz
    have hs := sizeB_iff.1 hz
    refine ⟨⟨rfl, rfl, by omega, by omega, hz⟩, ?_⟩
    rw [List.drop_zero, condP_iff]
    refine ⟨fun hf => ?_, fun hf => ?_⟩
    · have hf : shapedB a0 = true := hf
      have hf' := shaped_iff.1 hf
      refine ⟨⟨by omega, rfl, by omega, by omega, a0.1, hs.2.1, hf'⟩, ⟨by omega, by omega, (table_S hz hf).2⟩, ?_⟩
      have ht : over1 (incAll a0.2.1 (List.replicate 12 (List.replicate 14 0))) 0 (Int.toNat (12 - 0)) = clashB a0 := table_clash hz hf
      rw [ht, condP_iff]
      refine ⟨fun hc => ⟨?_, trivial⟩, fun hc => ⟨?_, trivial⟩⟩
      · unfold gridErr; rw [hz, hf, hc]; rfl
      · unfold gridErr; rw [hz, hf, hc]; rfl
    · have hf : shapedB a0 = false := hf
      refine ⟨?_, trivial⟩
      unfold gridErr; rw [hz, hf]; rfl
theorem l_R_GridError_0 : LoopOK E_R_GridError 0 (loopAt (bodyOf Try.f30) 0) L_R_GridError_0 := I_R_GridError_0 <| by
  intro t3 r0 K hp ho
  obtain ⟨h2, h3, hz⟩ := hp
  have hs := sizeB_iff.1 hz
  have e1 : (t3 + 1).toNat = t3.toNat + 1 := by omega
  unfold B_R_GridError_0
  unfold o_R_GridError_0 at ho ⊢
  simp only [if_or]
  by_cases hlt : t3 < (r0.2.1.length : Int)
  · rw [condP_t (by simpa using hlt)]
    rw [drop_cons r0.2.1 t3.toNat sh0 (by omega), List.all_cons] at ho
    refine ⟨h2, hlt, ?_⟩
    generalize r0.2.1.getD t3.toNat sh0 = s at ho ⊢
    obtain ⟨who, fr, ct, b, e, ⟨⟩⟩ := s
    have hc : (decide (who < 1) || decide (who > 16) || decide (fr < 0) || decide (ct < 1) || decide (fr ≥ r0.1) || decide (ct > IntKind.wrap .i64 (r0.1 - fr)) || decide (b < 0) || decide (e > 14) || decide (b ≥ e)) = !formedB (who, fr, ct, b, e, ()) r0.1 := by
      unfold formedB
      rw [Bool.eq_iff_iff]
      simp only [Bool.or_eq_true, decide_eq_true_eq, Bool.not_eq_true', decide_eq_false_iff_not]
      by_cases hf : 0 ≤ fr ∧ fr < r0.1
      · rw [w64 (n := r0.1 - fr) (by omega)]; omega
      · omega
    simp only at hc ⊢
    rw [hc, condP_iff]
    refine ⟨fun hc => ?_, fun hc => ?_⟩
    · have hc : formedB (who, fr, ct, b, e, ()) r0.1 = false := by simpa using hc
      rw [hc, Bool.false_and, condP_f rfl] at ho
      exact ho
    · have hc : formedB (who, fr, ct, b, e, ()) r0.1 = true := by simpa using hc
      rw [hc, Bool.true_and] at ho
      rw [w64 (by omega), e1]
      exact ⟨⟨by omega, by omega, hz⟩, by unfold m_R_GridError_0; omega, ho⟩
  · rw [condP_f (by simpa using hlt)]
    rw [List.drop_eq_nil_of_le (by omega), List.all_nil, condP_t rfl] at ho
    exact ho
theorem l_R_GridError_2 : LoopOK E_R_GridError 2 (loopAt (bodyOf Try.f30) 2) L_R_GridError_2 := I_R_GridError_2 <| by
  intro t5 r0 K hp ho
  obtain ⟨hg, j, rfl, h1, h2⟩ := hp
  have hs := sizeB_iff.1 hg.1
  unfold B_R_GridError_2
  unfold o_R_GridError_2 at ho ⊢
  have hw : IntKind.wrap .i64 (12 * r0.1) = 12 * r0.1 := w64 (by omega)
  rw [hw]
  by_cases hlt : 12 * j < 12 * r0.1
  · rw [condP_t (by simpa using hlt)]
    have hk : ((12 * r0.1 - 12 * j) / 12).toNat = ((12 * r0.1 - (12 * j + 12)) / 12).toNat + 1 := by omega
    rw [hk] at ho
    simp only [clashF] at ho
    refine ⟨⟨hg, by omega, by omega, j, rfl, h1, by omega⟩, ?_⟩
    rw [show Int.toNat (14 - 0) = 14 from rfl, condP_iff]
    refine ⟨fun hc => ?_, fun hc => ?_⟩
    · rw [hc, Bool.true_or, condP_t rfl] at ho
      exact ho
    · rw [hc, Bool.false_or] at ho
      rw [w64 (by omega)]
      exact ⟨⟨hg, j + 1, by omega, by omega, by omega⟩, by unfold m_R_GridError_2; omega, ho⟩
  · rw [condP_f (by simpa using hlt)]
    rw [show ((12 * r0.1 - 12 * j) / 12).toNat = 0 by omega, show clashF r0 (12 * j) 0 = false from rfl, condP_f rfl] at ho
    exact ho
theorem l_R_GridError_4 : LoopOK E_R_GridError 4 (loopAt (bodyOf Try.f30) 4) L_R_GridError_4 := I_R_GridError_4 <| by
  intro t5 t6 r0 K hp ho
  obtain ⟨hg, h1, h2, hj⟩ := hp
  unfold B_R_GridError_4
  unfold o_R_GridError_4 at ho ⊢
  by_cases hlt : t6 < 14
  · rw [condP_t (by simpa using hlt)]
    rw [fuel hlt] at ho
    simp only [clashT] at ho
    refine ⟨hg, ?_⟩
    rw [condP_iff]
    refine ⟨fun hc => ?_, fun hc => ?_⟩
    · rw [hc, Bool.true_or, condP_t rfl] at ho
      exact ho
    · rw [hc, Bool.false_or] at ho
      rw [w64 (by omega)]
      exact ⟨⟨hg, by omega, by omega, hj⟩, by unfold m_R_GridError_4; omega, ho⟩
  · rw [condP_f (by simpa using hlt)]
    rw [fuel0 hlt, show clashT r0 t5 t6 0 = false from rfl, condP_f rfl] at ho
    exact ho
theorem ok_R_GridError : SumOK Try.prog 30 S_R_GridError := by
  refine whole_R_GridError ok_R_Owner l_R_GridError_0 l_R_GridError_2 l_R_GridError_4 ?_
  intro a0 _
  unfold W_R_GridError
  rw [size_cond, condP_iff]
  refine ⟨fun hz => ?_, fun hz => ?_⟩
  · have hz : sizeB a0 = false := by simpa using hz
    exact ⟨by unfold gridErr; rw [hz]; rfl, trivial⟩
  · have hz : sizeB a0 = true := by simpa using hz
    have hs := sizeB_iff.1 hz
    refine ⟨⟨by omega, by omega, hz⟩, ?_⟩
    rw [List.drop_zero, condP_iff]
    refine ⟨fun hf => ?_, fun hf => ?_⟩
    · have hf : shapedB a0 = true := hf
      refine ⟨⟨⟨hz, hf⟩, 0, by omega, by omega, by omega⟩, ?_⟩
      have ht : clashF a0 0 ((12 * a0.1 - 0) / 12).toNat = clashB a0 := by unfold clashB; rw [show ((12 * a0.1 - 0) / 12).toNat = a0.1.toNat by omega]
      rw [ht, condP_iff]
      refine ⟨fun hc => ⟨?_, trivial⟩, fun hc => ⟨?_, trivial⟩⟩
      · unfold gridErr; rw [hz, hf, hc]; rfl
      · unfold gridErr; rw [hz, hf, hc]; rfl
    · have hf : shapedB a0 = false := hf
      refine ⟨?_, trivial⟩
      unfold gridErr; rw [hz, hf]; rfl
end Go.Spec
