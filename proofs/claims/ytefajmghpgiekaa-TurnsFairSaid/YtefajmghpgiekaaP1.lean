/- The functions answer as told: bits and texts. -/
import Derived.Test.YtefajmghpgiekaaV1
set_option linter.unusedVariables false
set_option linter.unusedSimpArgs false
namespace Go.Spec
open Go Go.Lift Go.Proofs
attribute [local irreducible] Go.Lift.awp Go.Lift.LoopOK Go.Lift.SumOK
theorem i64w {n : Int} (h : -9223372036854775808 ≤ n ∧ n ≤ 9223372036854775807) : IntKind.i64.wrap n = n := IntWalk.i64_in n h
theorem getD_mem {l : List Int} {i : Nat} (h : i < l.length) : l.getD i 0 ∈ l := by
  rw [List.getD_eq_getElem?_getD, List.getElem?_eq_getElem h]; simp
theorem big_val : big = 1125899906842624 := by unfold big; decide
theorem l_R_SameInts_0 : LoopOK E_R_SameInts 0 (loopAt (bodyOf Try.f20) 0) L_R_SameInts_0 := I_R_SameInts_0 <| by
  intro t0 t1 t5 K hp ho
  obtain ⟨h1, h2, h3, h4⟩ := hp
  rw [big_val] at h4
  obtain ⟨n, rfl⟩ := Int.eq_ofNat_of_zero_le h2
  have e : ((n : Int) + 1).toNat = n + 1 := by omega
  unfold B_R_SameInts_0
  unfold o_R_SameInts_0 at ho ⊢
  simp only [condP_iff, decide_eq_true_eq, decide_eq_false_iff_not, Int.toNat_natCast] at ho ⊢
  refine ⟨fun hlt => ⟨h2, hlt, h2, by omega, fun hne => ho.2 ?_, fun heq => ?_⟩, fun hge => ho.1 ?_⟩
  · rw [drop_cons t0 n 0 (by omega), drop_cons t1 n 0 (by omega)]
    intro e
    rw [List.cons.injEq] at e
    rw [e.1] at hne; simp at hne
  · rw [i64w (by omega), e]
    refine ⟨⟨h1, by omega, by omega, by rw [big_val]; omega⟩, by unfold m_R_SameInts_0; omega, ?_⟩
    rw [drop_cons t0 n 0 (by omega), drop_cons t1 n 0 (by omega)] at ho
    have heq' : t0.getD n 0 = t1.getD n 0 := by simpa using heq
    rw [heq'] at ho
    simpa using ho
  · rw [List.drop_eq_nil_of_le (by omega), List.drop_eq_nil_of_le (by omega)]
theorem ok_R_SameInts : SumOK Try.prog 20 S_R_SameInts := by
  refine whole_R_SameInts l_R_SameInts_0 ?_
  intro a0 a1 hpre
  unfold W_R_SameInts p_R_SameInts_0
  simp only [condP_iff]
  by_cases h : a0 = a1
  · subst h; simp; omega
  · simp [h]; omega
theorem l_bits_Check_0 : LoopOK E_bits_Check 0 (loopAt (bodyOf Try.f145) 0) L_bits_Check_0 := I_bits_Check_0 <| by
  intro t0 t5 t6 t7 K hp ho
  obtain ⟨rfl, rfl, h2, h3, h4⟩ := hp
  rw [big_val] at h4
  obtain ⟨n, rfl⟩ := Int.eq_ofNat_of_zero_le h2
  have e : ((n : Int) + 1).toNat = n + 1 := by omega
  unfold B_bits_Check_0
  unfold o_bits_Check_0 at ho ⊢
  simp only [condP_iff, decide_eq_true_eq, decide_eq_false_iff_not, Int.toNat_natCast] at ho ⊢
  refine ⟨fun hlt => ⟨h2, hlt, fun hc => ho.1 ?_, fun hc => ?_⟩, fun hge => ho.2 ?_⟩
  · rw [drop_cons t0 n 0 (by omega), List.any_cons, Bool.or_eq_true]
    exact .inl (by simpa using hc)
  · rw [i64w (by omega), e]
    rw [drop_cons t0 n 0 (by omega), List.any_cons, show decide (t0.getD n 0 > 1) = false from by simpa using hc, Bool.false_or] at ho
    exact ⟨⟨rfl, rfl, by omega, by omega, by rw [big_val]; omega⟩, by unfold m_bits_Check_0; omega, ho⟩
  · rw [List.drop_eq_nil_of_le (by omega)]; rfl
theorem any_bad {b : List Int} (h : ∀ y ∈ b, 0 ≤ y) : (b.any fun x => decide (x > 1)) = b.any badBit := by
  induction b with
  | nil => rfl
  | cons x b ih =>
    simp only [List.any_cons]
    rw [ih fun y hy => h y (List.mem_cons_of_mem _ hy)]
    congr 1
    have := h x (List.mem_cons_self ..)
    unfold badBit
    by_cases h1 : x > 1
    · have h2 : ¬ x = 0 := by omega
      have h3 : ¬ x = 1 := by omega
      simp [h1, h2, h3]
    · have : x = 0 ∨ x = 1 := by omega
      rcases this with rfl | rfl <;> rfl
theorem ok_bits_Check : SumOK Try.prog 145 S_bits_Check := by
  refine whole_bits_Check l_bits_Check_0 ?_
  intro a0 ⟨h1, h2⟩
  unfold W_bits_Check
  simp only [List.drop_zero, any_bad h2, condP_iff]
  refine ⟨⟨rfl, rfl, by omega, by omega, h1⟩, fun h => ?_, fun h => ⟨fun k => ?_, fun k => ?_⟩⟩
  · simp [bitsErr, h]
  · simp [bitsErr, h] at k ⊢; omega
  · simp [bitsErr, h] at k ⊢; omega
theorem badBit_if (x : Int) : (if (x != 0) = true then x != 1 else false) = badBit x := by
  unfold badBit bne
  cases (x == 0) <;> cases (x == 1) <;> rfl
end Go.Spec
