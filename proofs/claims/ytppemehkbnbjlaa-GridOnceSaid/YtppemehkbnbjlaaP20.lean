/- Places: the program's, the document's; what is taken. -/
import Derived.Test.YtppemehkbnbjlaaM22
import Derived.Test.YtppemehkbnbjlaaP19
set_option linter.unusedVariables false
set_option linter.unusedSimpArgs false
namespace Go.Spec
open Go Go.Lift Go.Proofs
attribute [local irreducible] Go.Lift.awp Go.Lift.LoopOK Go.Lift.SumOK
theorem l_grid_places_0 : LoopOK E_grid_places 0 (loopAt (bodyOf Try.f90) 0) L_grid_places_0 := I_grid_places_0 <| by
  intro t1 t11 r0 r1 K hp ho
  obtain ⟨hg, h1, h2, h3⟩ := hp
  have hs := sizeB_iff.1 hg.1
  unfold B_grid_places_0
  unfold o_grid_places_0 at ho ⊢
  have hw : IntKind.wrap .i64 (12 * r0.1) = 12 * r0.1 := w64 (by omega)
  simp only [hw]
  by_cases hlt : t11 < 14
  · rw [condP_t (by simpa using hlt)]
    rw [fuel hlt] at ho
    simp only [allG] at ho
    have ht : (12 * r0.1 - 0).toNat = tones r0 := by unfold tones; rw [Int.sub_zero]
    rw [ht, w64 (n := t11 + 1) (by omega)]
    have hl := rowG_len (f := cellP r0 t1) (c := 100) (fun a b => by have := cellP_len r0 t1 a b; omega) t11 (tones r0) 0
    have h144 := (tones_eq hg.1).2
    refine ⟨⟨hg, rfl, h1, hlt, rfl, by omega, by omega, by omega⟩, ⟨hg, by omega, by omega, ?_⟩, by unfold m_grid_places_0; omega, by rw [List.append_assoc]; exact ho⟩
    rw [List.length_append]
    have : 100 * tones r0 ≤ 100 * 144 := by omega
    omega
  · rw [condP_f (by simpa using hlt)]
    rw [fuel0 hlt] at ho
    simpa [allG] using ho
theorem l_grid_places_2 : LoopOK E_grid_places 2 (loopAt (bodyOf Try.f90) 2) L_grid_places_2 := I_grid_places_2 <| by
  intro t1 t6 t11 t16 t17 r0 r1 K hp ho
  obtain ⟨hg, rfl, h1, h2, rfl, h3, h4, h5⟩ := hp
  have hs := sizeB_iff.1 hg.1
  unfold B_grid_places_2
  unfold o_grid_places_2 at ho ⊢
  by_cases hlt : t17 < 12 * r0.1
  · rw [condP_t (by simpa using hlt)]
    rw [fuel hlt] at ho
    simp only [rowG, cellP] at ho
    refine ⟨trivial, ?_⟩
    rw [w64 (n := t17 + 1) (by omega), condP_iff]
    refine ⟨fun hc => ?_, fun hc => ?_⟩
    · rw [if_pos hc, List.nil_append] at ho
      exact ⟨⟨hg, rfl, h1, h2, rfl, by omega, by omega, by omega⟩, by unfold m_grid_places_2; omega, ho⟩
    · rw [if_neg (by simp [hc])] at ho
      have hl := hits_len t1 t17 t6 r0.2.1
      rw [List.drop_zero]
      refine ⟨⟨hg, rfl, h1, h2, rfl, h3, hlt, rfl, rfl, rfl, by omega, by omega, rfl, by omega⟩, ⟨hg, rfl, h1, h2, rfl, by omega, by omega, ?_⟩, by unfold m_grid_places_2; omega, by rw [List.append_assoc]; exact ho⟩
      rw [List.length_append]; omega
  · rw [condP_f (by simpa using hlt)]
    rw [fuel0 hlt] at ho
    simpa [rowG] using ho
theorem l_grid_places_4 : LoopOK E_grid_places 4 (loopAt (bodyOf Try.f90) 4) L_grid_places_4 := I_grid_places_4 <| by
  intro t1 t6 t7 t11 t16 t17 t26 t27 t28 r0 r1 r2 K hp ho
  obtain ⟨hg, rfl, h1, h2, rfl, h3, h4, rfl, rfl, rfl, h5, h6, rfl, h7⟩ := hp
  have hs := sizeB_iff.1 hg.1
  have e1 : (t28 + 1).toNat = t28.toNat + 1 := by omega
  unfold B_grid_places_4
  unfold o_grid_places_4 at ho ⊢
  simp only [if_and]
  by_cases hlt : t28 < (r0.2.1.length : Int)
  · rw [condP_t (by simpa using hlt)]
    have hf := formed_iff.1 (gok_at hg (i := t28.toNat) (by omega))
    rw [drop_cons r0.2.1 t28.toNat sh0 (by omega), hits_cons] at ho
    refine ⟨h5, hlt, fun _ => by decide, fun _ => by decide, ?_⟩
    generalize r0.2.1.getD t28.toNat sh0 = s at hf ho ⊢
    obtain ⟨who, fr, ct, b, e, ⟨⟩⟩ := s
    simp only at hf
    have hd : Int.tdiv t7 12 = t7 / 12 := Int.tdiv_eq_ediv_of_nonneg h3
    have hw : IntKind.wrap .i64 (Int.tdiv t7 12) = t7 / 12 := by rw [hd]; exact w64 (by omega)
    have hc : (((((who == t1) && decide (t7 / 12 ≥ fr)) && decide (t7 / 12 < fr + ct)) && decide (t6 ≥ b)) && decide (t6 < e)) = (decide (who = t1) && covers (who, fr, ct, b, e, ()) t7 t6) := by
      unfold covers
      rw [Bool.eq_iff_iff]
      simp only [Bool.and_eq_true, beq_iff_eq, decide_eq_true_eq, ge_iff_le]
      omega
    simp only [hw, w64 (n := fr + ct) (by omega), hc, w64 (n := t28 + 1) (by omega)]
    rw [condP_iff]
    refine ⟨fun hc => ?_, fun hc => ?_⟩
    · rw [if_pos hc] at ho
      rw [e1]
      refine ⟨by simp only [List.length_cons, List.length_nil]; omega, ⟨hg, rfl, h1, h2, rfl, h3, h4, rfl, rfl, rfl, by omega, by omega, rfl, ?_⟩, by unfold m_grid_places_4; omega, ?_⟩
      · show ((r1 ++ [(t7, t6, ())]).length : Int) ≤ _
        rw [List.length_append]; simp only [List.length_cons, List.length_nil]; omega
      · show X_grid_places_4_0 _ _ _ _ _ _ ((r1 ++ [(t7, t6, ())]) ++ _) K
        rw [List.append_assoc]; exact ho
    · rw [if_neg (by simp [hc]), List.nil_append] at ho
      rw [e1]
      exact ⟨⟨hg, rfl, h1, h2, rfl, h3, h4, rfl, rfl, rfl, by omega, by omega, rfl, by omega⟩, by unfold m_grid_places_4; omega, ho⟩
  · rw [condP_f (by simpa using hlt)]
    rw [List.drop_eq_nil_of_le (by omega)] at ho
    simpa [hits] using ho
theorem ok_grid_places : SumOK Try.prog 90 S_grid_places := by
  refine whole_grid_places ok_grid_pilot l_grid_places_0 l_grid_places_2 l_grid_places_4 ?_
  intro a0 a1 hg
  unfold W_grid_places
  exact ⟨⟨hg, by omega, by omega, by simp⟩, rfl, trivial⟩
theorem l_R_PlacesOf_0 : LoopOK E_R_PlacesOf 0 (loopAt (bodyOf Try.f35) 0) L_R_PlacesOf_0 := I_R_PlacesOf_0 <| by
  intro t1 t6 r0 r1 K hp ho
  obtain ⟨hg, h1, h2, h3⟩ := hp
  have hs := sizeB_iff.1 hg.1
  unfold B_R_PlacesOf_0
  unfold o_R_PlacesOf_0 at ho ⊢
  by_cases hlt : t6 < 14
  · rw [condP_t (by simpa using hlt)]
    rw [fuel hlt] at ho
    simp only [allG] at ho
    have ht : (12 * r0.1 - 0).toNat = tones r0 := by unfold tones; rw [Int.sub_zero]
    rw [ht, w64 (n := t6 + 1) (by omega)]
    have hl := rowG_len (f := cellR r0 t1) (c := 1) (fun a b => cellR_len r0 t1 a b) t6 (tones r0) 0
    have h144 := (tones_eq hg.1).2
    refine ⟨⟨hg, h1, hlt, by omega, by omega, by omega⟩, ⟨hg, by omega, by omega, ?_⟩, by unfold m_R_PlacesOf_0; omega, by rw [List.append_assoc]; exact ho⟩
    rw [List.length_append]; omega
  · rw [condP_f (by simpa using hlt)]
    rw [fuel0 hlt] at ho
    simpa [allG] using ho
theorem l_R_PlacesOf_2 : LoopOK E_R_PlacesOf 2 (loopAt (bodyOf Try.f35) 2) L_R_PlacesOf_2 := I_R_PlacesOf_2 <| by
  intro t1 t6 t7 r0 r1 K hp ho
  obtain ⟨hg, h1, h2, h3, h4, h5⟩ := hp
  have hs := sizeB_iff.1 hg.1
  unfold B_R_PlacesOf_2
  unfold o_R_PlacesOf_2 at ho ⊢
  have hw : IntKind.wrap .i64 (12 * r0.1) = 12 * r0.1 := w64 (by omega)
  simp only [hw, if_and]
  by_cases hlt : t7 < 12 * r0.1
  · rw [condP_t (by simpa using hlt)]
    rw [fuel hlt] at ho
    simp only [rowG, cellR] at ho
    refine ⟨hg, fun _ => trivial, ?_⟩
    rw [w64 (n := t7 + 1) (by omega), condP_iff]
    refine ⟨fun hc => ?_, fun hc => ?_⟩
    · have hc : (owner r0 t7 t6).2 > 0 ∧ (owner r0 t7 t6).1 = t1 ∧ pilotB t7 t6 = false := by simpa [and_assoc] using hc
      rw [if_pos hc] at ho
      refine ⟨by simp only [List.length_cons, List.length_nil]; omega, ⟨hg, h1, h2, by omega, by omega, ?_⟩, by unfold m_R_PlacesOf_2; omega, ?_⟩
      · show ((r1 ++ [(t7, t6, ())]).length : Int) ≤ _
        rw [List.length_append]; simp only [List.length_cons, List.length_nil]; omega
      · show X_R_PlacesOf_2_0 _ _ _ ((r1 ++ [(t7, t6, ())]) ++ _) K
        rw [List.append_assoc]; exact ho
    · have hc : ¬ ((owner r0 t7 t6).2 > 0 ∧ (owner r0 t7 t6).1 = t1 ∧ pilotB t7 t6 = false) := by
        intro h
        simp [h.1, h.2.1, h.2.2] at hc
      rw [if_neg hc, List.nil_append] at ho
      exact ⟨⟨hg, h1, h2, by omega, by omega, by omega⟩, by unfold m_R_PlacesOf_2; omega, ho⟩
  · rw [condP_f (by simpa using hlt)]
    rw [fuel0 hlt] at ho
    simpa [rowG] using ho
theorem ok_R_PlacesOf : SumOK Try.prog 35 S_R_PlacesOf := by
  refine whole_R_PlacesOf ok_R_Owner ok_R_Pilot l_R_PlacesOf_0 l_R_PlacesOf_2 ?_
  intro a0 a1 hg
  unfold W_R_PlacesOf
  exact ⟨⟨hg, by omega, by omega, by simp⟩, rfl, trivial⟩
theorem err_gok {g : GR} (h : gridErr g = 0) : gok g := ⟨(err_ok h).1, (err_ok h).2.1⟩
theorem ok_grid_Places : SumOK Try.prog 31 S_grid_Places := by
  refine whole_grid_Places ok_grid_Check ok_grid_places ?_
  intro a0 a1 _
  unfold W_grid_Places placesF
  refine ⟨trivial, ?_⟩
  by_cases h : gridErr a0 = 0
  · rw [condP_f (by simp [h]), if_pos h]
    exact ⟨err_gok h, rfl, rfl, trivial⟩
  · rw [condP_t (by simp [h]), if_neg h]
    exact ⟨rfl, rfl, trivial⟩
theorem l_grid_Take_0 : LoopOK E_grid_Take 0 (loopAt (bodyOf Try.f34) 0) L_grid_Take_0 := I_grid_Take_0 <| by
  intro t1 t28 t29 r0 r1 K hp ho
  obtain ⟨rfl, h1, h2, h3, h4, n, hr, hpl⟩ := hp
  have e1 : (t29 + 1).toNat = t29.toNat + 1 := by omega
  unfold B_grid_Take_0
  unfold o_grid_Take_0 at ho ⊢
  by_cases hlt : t29 < (r1.length : Int)
  · rw [condP_t (by simpa using hlt)]
    rw [drop_cons r1 t29.toNat pt0 (by omega), List.map_cons] at ho
    obtain ⟨q1, q2, q3, q4⟩ := hpl _ (mem_getD pt0 (show t29.toNat < r1.length by omega))
    have hrow := getD_row hr q1 q2
    rw [w64 (by omega), e1]
    refine ⟨h2, hlt, q1, by rw [hr.1]; exact q2, q3, by rw [hrow]; exact q4, by simp only [List.length_cons, List.length_nil]; omega, ⟨rfl, by omega, by omega, by omega, ?_, n, hr, hpl⟩, by unfold m_grid_Take_0; omega, ?_⟩
    · show ((r0 ++ [_]).length : Int) = _
      rw [List.length_append]; simp only [List.length_cons, List.length_nil]; omega
    · show X_grid_Take_0_0 ((r0 ++ [_]) ++ _) K
      rw [List.append_assoc]; exact ho
  · rw [condP_f (by simpa using hlt)]
    rw [List.drop_eq_nil_of_le (by omega)] at ho
    simpa using ho
theorem badF_ok (n : Int) : ∀ (l : RW) (i : Int), 0 ≤ i → (badF n l i ≥ 0 ↔ ¬ ∀ r ∈ l, (r.length : Int) = n)
  | [], i, _ => by simp [badF]
  | r :: l, i, h => by
    unfold badF
    by_cases e : (r.length : Int) = n
    · rw [if_pos e, badF_ok n l (i + 1) (by omega)]; simp [e]
    · rw [if_neg e]; simp [e, h]
theorem ok_grid_Take : SumOK Try.prog 34 S_grid_Take := by
  refine whole_grid_Take ok_grid_Check ok_grid_Take_1 ok_slices_ContainsFunc_api_Point_api_Point ok_grid_places l_grid_Take_0 ?_
  intro a0 a1 a2 hp
  have hp : (a1.length : Int) ≤ big := hp
  unfold W_grid_Take takeG
  refine ⟨trivial, ?_⟩
  by_cases h : gridErr a0 = 0
  · have hg := err_gok h
    have hs := sizeB_iff.1 hg.1
    rw [condP_f (by simp [h]), if_pos h]
    refine ⟨fun _ => ⟨hp, hs.1, hs.2.1⟩, ?_⟩
    have hc : (if ((a1.length : Int) != (14 : Int)) = true then true else decide (badF (12 * a0.1) a1 0 ≥ 0)) = !formRows a0 a1 := by
      rw [if_or]
      unfold formRows
      rw [Bool.eq_iff_iff]
      simp only [Bool.or_eq_true, bne_iff_ne, ne_eq, decide_eq_true_eq, badF_ok _ _ _ (Int.le_refl 0), Bool.not_eq_true', Bool.and_eq_false_iff, decide_eq_false_iff_not, List.all_eq_false]
      constructor
      · rintro (h | h)
        · exact .inl (by omega)
        · right
          simp only [Classical.not_forall] at h
          obtain ⟨r, hr, h⟩ := h
          exact ⟨r, hr, h⟩
      · rintro (h | ⟨r, hr, h⟩)
        · exact .inl (by omega)
        · exact .inr fun hall => h (hall r hr)
    rw [hc]
    by_cases hf : formRows a0 a1 = true
    · rw [condP_f (by simp [hf]), if_pos hf]
      have hf' : a1.length = 14 ∧ ∀ r ∈ a1, (r.length : Int) = 12 * a0.1 := by simpa [formRows] using hf
      have ht := (tones_eq hg.1).1
      have hl := places_len hg.1 a2
      refine ⟨hg, ⟨rfl, by omega, by omega, by omega, rfl, tones a0, ⟨hf'.1, fun r hr => by have := hf'.2 r hr; omega⟩, places_ok a2⟩, rfl, rfl, trivial⟩
    · rw [condP_t (by simp [hf]), if_neg hf]
      exact ⟨rfl, rfl, trivial⟩
  · rw [condP_t (by simp [h]), if_neg h]
    exact ⟨rfl, rfl, trivial⟩
end Go.Spec
