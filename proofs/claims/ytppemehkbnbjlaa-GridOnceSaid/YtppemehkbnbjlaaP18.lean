/- The grid's functions answer as told: owners, shapes, pilots. -/
import Derived.Test.YtppemehkbnbjlaaV12
set_option linter.unusedVariables false
set_option linter.unusedSimpArgs false
namespace Go.Spec
open Go Go.Lift Go.Proofs
attribute [local irreducible] Go.Lift.awp Go.Lift.LoopOK Go.Lift.SumOK
theorem w64 {n : Int} (h : -9223372036854775808 ≤ n ∧ n ≤ 9223372036854775807) : IntKind.i64.wrap n = n := IntWalk.i64_in n h
theorem bigv : big = 1125899906842624 := by unfold big; decide
theorem mem_getD {α : Type} {l : List α} {i : Nat} (d : α) (h : i < l.length) : l.getD i d ∈ l := by
  rw [List.getD_eq_getElem?_getD, List.getElem?_eq_getElem h]; simp
theorem gok_at {g : GR} (h : gok g) {i : Nat} (hi : i < g.2.1.length) : formedB (g.2.1.getD i sh0) g.1 = true := shaped_iff.1 h.2 _ (mem_getD _ hi)
theorem if_and (a b : Bool) : (if a = true then b else false) = (a && b) := by cases a <;> rfl
theorem if_or (a b : Bool) : (if a = true then true else b) = (a || b) := by cases a <;> rfl
theorem toNat_succ {n : Nat} : ((n : Int) + 1).toNat = n + 1 := by omega
theorem l_R_Owner_0 : LoopOK E_R_Owner 0 (loopAt (bodyOf Try.f89) 0) L_R_Owner_0 := I_R_Owner_0 <| by
  intro t4 t5 t6 r0 r1 K hp ho
  obtain ⟨hg, h1, h2, h3, h4⟩ := hp
  have hs := sizeB_iff.1 hg.1
  have e1 : (t6 + 1).toNat = t6.toNat + 1 := by omega
  unfold B_R_Owner_0
  unfold o_R_Owner_0 at ho ⊢
  simp only [if_and, if_or]
  by_cases hlt : t6 < (r0.2.1.length : Int)
  · rw [condP_t (by simpa using hlt)]
    refine ⟨h1, hlt, ?_⟩
    have hf := formed_iff.1 (gok_at hg (i := t6.toNat) (by omega))
    have hd : r0.2.1.drop t6.toNat = r0.2.1.getD t6.toNat sh0 :: r0.2.1.drop (t6.toNat + 1) := drop_cons _ _ _ (by omega)
    rw [hd] at ho
    generalize r0.2.1.getD t6.toNat sh0 = s at hf ho ⊢
    obtain ⟨who, fr, ct, b, e, ⟨⟩⟩ := s
    simp only at hf
    rw [w64 (n := fr + ct) (by omega), w64 (n := 12 * fr) (by omega), w64 (n := 12 * (fr + ct)) (by omega), w64 (n := t5 + 1) (by omega), w64 (n := t6 + 1) (by omega), e1]
    have hc : (((decide (r1.2.1 ≥ b) && decide (r1.2.1 < e)) && decide (r1.1 ≥ 12 * fr)) && decide (r1.1 < 12 * (fr + ct))) = covers (who, fr, ct, b, e, ()) r1.1 r1.2.1 := by
      unfold covers
      rw [Bool.eq_iff_iff]
      simp [and_assoc]
    rw [hc]
    simp only [ownF] at ho
    rw [condP_iff]
    refine ⟨fun hcv => ?_, fun hcv => ?_⟩
    · rw [hcv] at ho
      exact ⟨⟨hg, by omega, by omega, by omega, by omega⟩, by unfold m_R_Owner_0; omega, by simpa using ho⟩
    · rw [hcv] at ho
      exact ⟨⟨hg, by omega, by omega, by omega, by omega⟩, by unfold m_R_Owner_0; omega, by simpa using ho⟩
  · rw [condP_f (by simpa using hlt)]
    rw [List.drop_eq_nil_of_le (by omega)] at ho
    exact ho
theorem ok_R_Owner : SumOK Try.prog 89 S_R_Owner := by
  refine whole_R_Owner l_R_Owner_0 ?_
  intro a0 a1 hg
  unfold W_R_Owner p_R_Owner_0 owner
  simp only [Int.toNat_zero, List.drop_zero]
  refine ⟨⟨hg, by omega, by omega, by omega, by omega⟩, ?_⟩
  simp
theorem ok_grid_formed : SumOK Try.prog 91 S_grid_formed := by
  refine whole_grid_formed ?_
  rintro ⟨who, fr, ct, b, e, ⟨⟩⟩ a1 ⟨h1, h2⟩
  have h1 : 1 ≤ a1 := h1
  have h2 : a1 ≤ 12 := h2
  unfold W_grid_formed
  simp only [if_and, formedB]
  refine ⟨?_, trivial⟩
  rw [Bool.eq_iff_iff]
  simp only [Bool.and_eq_true, decide_eq_true_eq, ge_iff_le]
  by_cases hf : 0 ≤ fr ∧ fr < a1
  · rw [w64 (n := a1 - fr) (by omega)]; omega
  · omega
theorem ok_grid_pilot : SumOK Try.prog 93 S_grid_pilot := by
  refine whole_grid_pilot ?_
  rintro ⟨tone, t, ⟨⟩⟩ _
  unfold W_grid_pilot
  simp only [if_and, if_or, pilotB]
  refine ⟨fun _ => by decide, ?_, trivial⟩
  rw [Bool.eq_iff_iff]
  simp
theorem ok_R_Pilot : SumOK Try.prog 96 S_R_Pilot := by
  refine whole_R_Pilot ?_
  rintro ⟨tone, t, ⟨⟩⟩ _
  unfold W_R_Pilot
  simp only [if_and, if_or, pilotB]
  refine ⟨by decide, ?_, trivial⟩
  rw [Bool.eq_iff_iff]
  simp [and_comm]
theorem l_slices_Max_int_int_0 : LoopOK E_slices_Max_int_int 0 (loopAt (bodyOf Try.f92) 0) L_slices_Max_int_int_0 := I_slices_Max_int_int_0 <| by
  intro t0 t3 t4 K hp ho
  obtain ⟨h1, h2, h3⟩ := hp
  rw [bigv] at h3
  obtain ⟨n, rfl⟩ := Int.eq_ofNat_of_zero_le (show 0 ≤ t4 by omega)
  unfold B_slices_Max_int_int_0
  unfold o_slices_Max_int_int_0 at ho ⊢
  simp only [condP_iff, decide_eq_true_eq, decide_eq_false_iff_not, Int.toNat_natCast] at ho ⊢
  refine ⟨fun hlt => ⟨by omega, hlt, ?_⟩, fun hge => ?_⟩
  · rw [drop_cons t0 n 0 (by omega)] at ho
    rw [w64 (by omega), toNat_succ]
    exact ⟨⟨by omega, by omega, by rw [bigv]; omega⟩, by unfold m_slices_Max_int_int_0; omega, ho⟩
  · rw [List.drop_eq_nil_of_le (by omega)] at ho
    exact ho
theorem ok_slices_Max_int_int : SumOK Try.prog 92 S_slices_Max_int_int := by
  refine whole_slices_Max_int_int l_slices_Max_int_int_0 ?_
  intro a0 hp
  obtain ⟨h1, h2⟩ := hp
  have h1 : 1 ≤ a0.length := h1
  unfold W_slices_Max_int_int p_slices_Max_int_int_0 maxL
  simp only [condP_iff, decide_eq_true_eq, decide_eq_false_iff_not]
  refine ⟨fun h => by omega, fun _ => ?_⟩
  refine ⟨by omega, by omega, ⟨by omega, by omega, h2⟩, ?_, trivial⟩
  simp
theorem l_R_SamePoints_0 : LoopOK E_R_SamePoints 0 (loopAt (bodyOf Try.f38) 0) L_R_SamePoints_0 := I_R_SamePoints_0 <| by
  intro t0 t1 t5 K hp ho
  obtain ⟨h1, h2, h3, h4⟩ := hp
  rw [bigv] at h4
  obtain ⟨n, rfl⟩ := Int.eq_ofNat_of_zero_le h2
  unfold B_R_SamePoints_0
  unfold o_R_SamePoints_0 at ho ⊢
  simp only [condP_iff, decide_eq_true_eq, decide_eq_false_iff_not, Int.toNat_natCast] at ho ⊢
  refine ⟨fun hlt => ⟨h2, hlt, h2, by omega, ?_⟩, fun hge => ho.1 ?_⟩
  · rw [drop_cons t0 n pt0 (by omega), drop_cons t1 n pt0 (by omega)] at ho
    have e0 : ∀ l : List PT, l.getD n ((0 : Int), (0 : Int), ()) = l.getD n pt0 := fun _ => rfl
    simp only [e0]
    generalize t0.getD n pt0 = a at ho ⊢
    generalize t1.getD n pt0 = b at ho ⊢
    obtain ⟨a1, a2, ⟨⟩⟩ := a
    obtain ⟨b1, b2, ⟨⟩⟩ := b
    refine ⟨fun hne => ho.2 ?_, fun heq => ?_⟩
    · intro e
      rw [List.cons.injEq] at e
      obtain ⟨e1, _⟩ := e
      simp only [Prod.mk.injEq] at e1
      simp [e1.1, e1.2.1] at hne
    · rw [w64 (by omega), toNat_succ]
      have e1 : a1 = b1 ∧ a2 = b2 := by simpa using heq
      refine ⟨⟨h1, by omega, by omega, by rw [bigv]; omega⟩, by unfold m_R_SamePoints_0; omega, ?_⟩
      rw [e1.1, e1.2] at ho
      simpa using ho
  · rw [List.drop_eq_nil_of_le (by omega), List.drop_eq_nil_of_le (by omega)]
theorem ok_R_SamePoints : SumOK Try.prog 38 S_R_SamePoints := by
  refine whole_R_SamePoints l_R_SamePoints_0 ?_
  intro a0 a1 hpre
  have hpre : (a0.length : Int) ≤ big := hpre
  unfold W_R_SamePoints p_R_SamePoints_0
  simp only [condP_iff]
  by_cases h : a0 = a1
  · subst h; simp; omega
  · simp [h]; omega
theorem ok_grid_Take_1 : SumOK Try.prog 95 S_grid_Take_1 := by
  refine whole_grid_Take_1 ?_
  intro a0 a1 hp
  obtain ⟨h1, h2⟩ := hp
  have h1 : 1 ≤ a1.1 := h1
  have h2 : a1.1 ≤ 12 := h2
  unfold W_grid_Take_1
  rw [w64 (n := 12 * a1.1) (by omega)]
  refine ⟨?_, trivial⟩
  rw [Bool.eq_iff_iff]; simp
theorem badF_range (n : Int) : ∀ (l : RW) (i : Int), 0 ≤ i → badF n l i = -1 ∨ (i ≤ badF n l i ∧ badF n l i < i + l.length)
  | [], i, _ => .inl rfl
  | r :: l, i, h => by
    unfold badF
    split
    · rcases badF_range n l (i + 1) (by omega) with h1 | h1
      · exact .inl h1
      · right; simp only [List.length_cons]; omega
    · right; simp only [List.length_cons]; omega
theorem l_slices_IndexFunc_api_Point_api_Point_0 : LoopOK E_slices_IndexFunc_api_Point_api_Point 0 (loopAt (bodyOf Try.f126) 0) L_slices_IndexFunc_api_Point_api_Point_0 := I_slices_IndexFunc_api_Point_api_Point_0 <| by
  intro t0 t1 t7 t8 K hp ho
  obtain ⟨rfl, h2, h3, h4, h5, h6⟩ := hp
  rw [bigv] at h4
  obtain ⟨n, rfl⟩ := Int.eq_ofNat_of_zero_le h2
  unfold B_slices_IndexFunc_api_Point_api_Point_0
  unfold o_slices_IndexFunc_api_Point_api_Point_0 at ho ⊢
  simp only [condP_iff, decide_eq_true_eq, decide_eq_false_iff_not, Int.toNat_natCast] at ho ⊢
  refine ⟨fun hlt => ⟨h2, hlt, ⟨h5, h6⟩, fun hne => ?_, fun heq => ?_⟩, fun hge => ho.2 ?_⟩
  · rw [drop_cons t0 n [] (by omega)] at ho
    have e : badF (12 * t1.1) (t0.getD n [] :: t0.drop (n + 1)) n = n := by unfold badF; rw [if_neg hne]
    rw [e] at ho
    exact ho.1 h2
  · have heq : ((t0.getD n []).length : Int) = 12 * t1.1 := by
      have := heq; simp only [ne_eq, Decidable.not_not] at this; exact this
    rw [drop_cons t0 n [] (by omega)] at ho
    have e : badF (12 * t1.1) (t0.getD n [] :: t0.drop (n + 1)) n = badF (12 * t1.1) (t0.drop (n + 1)) (n + 1) := by conv => lhs; unfold badF; rw [if_pos heq]
    rw [e] at ho
    rw [w64 (by omega), toNat_succ]
    exact ⟨⟨rfl, by omega, by omega, by rw [bigv]; omega, h5, h6⟩, by unfold m_slices_IndexFunc_api_Point_api_Point_0; omega, ho⟩
  · rw [List.drop_eq_nil_of_le (by omega)]
    unfold badF; decide
theorem ok_slices_IndexFunc_api_Point_api_Point : SumOK Try.prog 126 S_slices_IndexFunc_api_Point_api_Point := by
  refine whole_slices_IndexFunc_api_Point_api_Point ok_grid_Take_1 l_slices_IndexFunc_api_Point_api_Point_0 ?_
  intro a0 a1 hp
  obtain ⟨h1, h2, h3⟩ := hp
  have h1 : (a0.length : Int) ≤ big := h1
  unfold W_slices_IndexFunc_api_Point_api_Point p_slices_IndexFunc_api_Point_api_Point_0
  simp only [condP_iff, decide_eq_true_eq, decide_eq_false_iff_not, Int.toNat_zero, List.drop_zero]
  refine ⟨⟨trivial, by omega, by omega, h1, h2, h3⟩, fun h => (by simp), fun h => ⟨?_, trivial⟩⟩
  rcases badF_range (12 * a1.1) a0 0 (by omega) with h4 | h4
  · exact h4.symm
  · omega
theorem ok_slices_ContainsFunc_api_Point_api_Point : SumOK Try.prog 94 S_slices_ContainsFunc_api_Point_api_Point := by
  refine whole_slices_ContainsFunc_api_Point_api_Point ok_slices_IndexFunc_api_Point_api_Point ok_grid_Take_1 ?_
  intro a0 a1 hp
  unfold W_slices_ContainsFunc_api_Point_api_Point
  exact ⟨hp, rfl, trivial⟩
end Go.Spec
