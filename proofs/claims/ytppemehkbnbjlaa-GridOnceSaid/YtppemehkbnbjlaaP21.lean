/- What is laid. -/
import Derived.Test.YtppemehkbnbjlaaP20
set_option linter.unusedVariables false
set_option linter.unusedSimpArgs false
namespace Go.Spec
open Go Go.Lift Go.Proofs
attribute [local irreducible] Go.Lift.awp Go.Lift.LoopOK Go.Lift.SumOK
abbrev pa0 : PA := (0, [], ())
theorem take_snoc {α : Type} (l : List α) (i : Nat) (d : α) (h : i < l.length) : l.take (i + 1) = l.take i ++ [l.getD i d] := by
  rw [List.take_add_one, List.getElem?_eq_getElem h, List.getD_eq_getElem?_getD, List.getElem?_eq_getElem h]; rfl
theorem l_grid_Lay_0 : LoopOK E_grid_Lay 0 (loopAt (bodyOf Try.f33) 0) L_grid_Lay_0 := I_grid_Lay_0 <| by
  intro t1 t24 t25 t26 r0 r1 K hp ho
  obtain ⟨rfl, rfl, h1, h2, h3, es, rfl, h4, h5⟩ := hp
  rw [bigv] at h3
  have e1 : (t26 + 1).toNat = t26.toNat + 1 := by omega
  unfold B_grid_Lay_0
  unfold o_grid_Lay_0 at ho ⊢
  by_cases hlt : t26 < (t24.length : Int)
  · rw [condP_t (by simpa using hlt)]
    refine ⟨h1, hlt, rfl, ?_⟩
    have hts := take_snoc t24 t26.toNat pa0 (by omega)
    have hsub : (t24.getD t26.toNat pa0).1 ∈ (t24.take t26.toNat).map (·.1) → dupB t24 = true := by
      intro hm
      cases hd : dupB t24 with
      | true => rfl
      | false =>
        exfalso
        have hn := (dup_iff _).1 hd
        have hn2 : ((t24.take (t26.toNat + 1)).map (·.1)).Nodup := List.Nodup.sublist ((List.take_sublist _ _).map _) hn
        rw [hts, List.map_append, List.nodup_append] at hn2
        exact hn2.2.2 _ hm _ (by simp) rfl
    generalize t24.getD t26.toNat pa0 = x at hts hsub ⊢
    obtain ⟨w, pts, ⟨⟩⟩ := x
    have hw := h5 w
    have hget : ∀ v : Int, getO (putO (some es) w v) w = some v := by intro v; show getE (putE es w v) w = _; rw [getE_putE, if_pos rfl]
    simp only [hget, Option.getD_some]
    have hg : (getO (some es) w).getD 0 = (getE es w).getD 0 := rfl
    rw [hg, hw]
    by_cases hm : w ∈ (t24.take t26.toNat).map (·.1)
    · rw [if_pos hm, condP_t (by rw [w64 (by omega)]; decide)]
      rw [condP_t (hsub hm)] at ho
      exact ho
    · rw [if_neg hm, condP_f (by rw [w64 (by omega)]; decide)]
      rw [w64 (n := 0 + 1) (by omega), w64 (n := t26 + 1) (by omega)]
      refine ⟨⟨rfl, rfl, by omega, by omega, by rw [bigv]; omega, putE es w (0 + 1), rfl, ?_, fun w' => ?_⟩, by unfold m_grid_Lay_0; omega, ho⟩
      · rw [e1, hts, List.map_append, List.nodup_append]
        refine ⟨h4, by simp, fun a ha b hb => ?_⟩
        simp only [List.map_cons, List.map_nil, List.mem_singleton] at hb
        rw [hb]; intro e; rw [e] at ha; exact hm ha
      · rw [e1, hts, List.map_append, getE_putE]
        by_cases e : w = w'
        · subst e; simp
        · rw [if_neg e, h5 w']
          by_cases hm' : w' ∈ (t24.take t26.toNat).map (·.1)
          · rw [if_pos hm', if_pos (List.mem_append_left _ hm')]
          · rw [if_neg hm', if_neg (by simp only [List.map_cons, List.map_nil, List.mem_append, List.mem_singleton]; exact fun h => h.elim hm' fun h => e h.symm)]
  · rw [condP_f (by simpa using hlt)]
    have : t24.take t26.toNat = t24 := List.take_of_length_le (by omega)
    rw [this] at h4
    rw [condP_f ((dup_iff _).2 h4)] at ho
    exact ho
theorem l_grid_Lay_2 : LoopOK E_grid_Lay 2 (loopAt (bodyOf Try.f33) 2) L_grid_Lay_2 := I_grid_Lay_2 <| by
  intro t1 t43 t44 r0 r1 K hp ho
  obtain ⟨hz, rfl, h1, h2, h3⟩ := hp
  have hs := sizeB_iff.1 hz
  unfold B_grid_Lay_2
  unfold o_grid_Lay_2 at ho ⊢
  have hw : IntKind.wrap .i64 (12 * r0.1) = 12 * r0.1 := w64 (by omega)
  have ht : (12 * r0.1).toNat = tones r0 := rfl
  by_cases hlt : t44 < 14
  · rw [condP_t (by simpa using hlt)]
    rw [fuel hlt] at ho
    simp only [baseF] at ho
    have hi : t44.toNat < r1.length := by omega
    simp only [hw, ht, List.set_set, List.length_set, gs_eq hi, List.length_replicate]
    have ht2 := (tones_eq hz).1
    have hset : ((r1.set t44.toNat (List.replicate (tones r0) ((0 : Int), (0 : Int), ()))).getD t44.toNat []).length = tones r0 := by rw [gs_eq hi, List.length_replicate]
    rw [w64 (n := t44 + 1) (by omega), show ((tones r0 : Int) - 0).toNat = tones r0 by omega]
    refine ⟨by omega, by omega, by omega, h1, by omega, h1, by omega, h1, by omega, trivial, ⟨hz, rfl, rfl, h1, hlt, by omega, by omega, by omega, by rw [List.length_set]; exact h3, by rw [hset]; exact ht2⟩, ⟨hz, rfl, by omega, by omega, by rw [fillRow_len, List.length_set]; exact h3⟩, by unfold m_grid_Lay_2; omega, ho⟩
  · rw [condP_f (by simpa using hlt)]
    rw [fuel0 hlt] at ho
    exact ho
theorem l_grid_Lay_4 : LoopOK E_grid_Lay 4 (loopAt (bodyOf Try.f33) 4) L_grid_Lay_4 := I_grid_Lay_4 <| by
  intro t1 t11 t43 t44 t58 t59 r0 r1 K hp ho
  obtain ⟨hz, rfl, rfl, h1, h2, rfl, h3, h4, h5, h6⟩ := hp
  have hs := sizeB_iff.1 hz
  unfold B_grid_Lay_4
  unfold o_grid_Lay_4 at ho ⊢
  by_cases hlt : t59 < 12 * r0.1
  · rw [condP_t (by simpa using hlt)]
    rw [fuel hlt] at ho
    simp only [fillRow] at ho
    have hi : t11.toNat < r1.length := by omega
    refine ⟨trivial, ?_⟩
    rw [w64 (n := t59 + 1) (by omega), condP_iff]
    refine ⟨fun hc => ?_, fun hc => ?_⟩
    · rw [if_pos hc] at ho
      refine ⟨h1, by omega, h1, by omega, rfl, h3, by omega, ⟨hz, rfl, rfl, h1, h2, rfl, by omega, by omega, by rw [List.length_set]; exact h5, ?_⟩, by unfold m_grid_Lay_4; omega, ho⟩
      rw [gs_eq hi, List.length_set]; exact h6
    · rw [if_neg (by simp [hc])] at ho
      exact ⟨⟨hz, rfl, rfl, h1, h2, rfl, by omega, by omega, h5, h6⟩, by unfold m_grid_Lay_4; omega, ho⟩
  · rw [condP_f (by simpa using hlt)]
    rw [fuel0 hlt] at ho
    exact ho
theorem l_grid_Lay_6 : LoopOK E_grid_Lay 6 (loopAt (bodyOf Try.f33) 6) L_grid_Lay_6 := I_grid_Lay_6 <| by
  intro t79 t80 t81 r0 r1 K hp ho
  obtain ⟨hg, rfl, h1, h2, h3, hr⟩ := hp
  have h1' := h1
  rw [bigv] at h1'
  have e1 : (t81 + 1).toNat = t81.toNat + 1 := by omega
  unfold B_grid_Lay_6
  unfold o_grid_Lay_6 at ho ⊢
  by_cases hlt : t81 < (t79.length : Int)
  · rw [condP_t (by simpa using hlt)]
    rw [drop_cons t79 t81.toNat pa0 (by omega)] at ho
    generalize t79.getD t81.toNat pa0 = x at ho ⊢
    simp only [layF] at ho
    refine ⟨h2, hlt, hg, ?_⟩
    by_cases hl : (placesI r0 x.1).length = x.2.1.length
    · rw [condP_f (by simp [hl])]
      rw [if_pos hl] at ho
      have hpl := places_len hg.1 x.1
      rw [w64 (n := t81 + 1) (by omega), e1, List.drop_zero]
      exact ⟨⟨hg, rfl, h1, h2, hlt, hr, rfl, hl, places_ok x.1, by rw [bigv]; omega, by omega, by omega⟩, ⟨hg, rfl, h1, by omega, by omega, putAll_ok _ _ hr (zip_ok (places_ok x.1) _)⟩, by unfold m_grid_Lay_6; omega, ho⟩
    · rw [condP_t (by simp; omega)]
      rw [if_neg hl, condP_f rfl] at ho
      exact ho
  · rw [condP_f (by simpa using hlt)]
    rw [List.drop_eq_nil_of_le (by omega)] at ho
    simp only [layF] at ho
    rw [condP_t rfl] at ho
    exact ho
theorem zip_drop {α β : Type} (a : List α) (b : List β) (i : Nat) (d : α) (e : β) (h : i < a.length) (h2 : a.length = b.length) : (a.zip b).drop i = (a.getD i d, b.getD i e) :: (a.zip b).drop (i + 1) := by
  have hi : i < (a.zip b).length := by simp; omega
  rw [List.drop_eq_getElem_cons hi, List.getElem_zip, List.getD_eq_getElem?_getD, List.getD_eq_getElem?_getD, List.getElem?_eq_getElem h, List.getElem?_eq_getElem (by omega)]
  rfl
theorem l_grid_Lay_8 : LoopOK E_grid_Lay 8 (loopAt (bodyOf Try.f33) 8) L_grid_Lay_8 := I_grid_Lay_8 <| by
  intro t79 t80 t81 t96 t97 r0 r1 r2 r3 K hp ho
  obtain ⟨hg, h1, h2, h3, h4, hr, rfl, h5, hpl, h6, h7, h8⟩ := hp
  have h6' := h6
  rw [bigv] at h6'
  have e1 : (t97 + 1).toNat = t97.toNat + 1 := by omega
  unfold B_grid_Lay_8
  unfold o_grid_Lay_8 at ho ⊢
  by_cases hlt : t97 < (r3.length : Int)
  · rw [condP_t (by simpa using hlt)]
    rw [zip_drop r3 r2.2.1 t97.toNat pt0 pt0 (by omega) h5] at ho
    obtain ⟨q1, q2, q3, q4⟩ := hpl _ (mem_getD pt0 (show t97.toNat < r3.length by omega))
    have hrow := getD_row hr q1 q2
    simp only [putAll] at ho
    rw [w64 (by omega), e1]
    exact ⟨h7, hlt, q1, by rw [hr.1]; exact q2, q1, by rw [hr.1]; exact q2, rfl, h7, by omega, q3, by rw [hrow]; exact q4, ⟨hg, h1, h2, h3, h4, setC_ok hr q1 q2 _ _, rfl, h5, hpl, h6, by omega, by omega⟩, by unfold m_grid_Lay_8; omega, ho⟩
  · rw [condP_f (by simpa using hlt)]
    rw [List.drop_eq_nil_of_le (by simp; omega)] at ho
    exact ho
theorem ok_grid_Lay : SumOK Try.prog 33 S_grid_Lay := by
  refine whole_grid_Lay ok_grid_Check ok_grid_pilot ok_grid_places l_grid_Lay_0 l_grid_Lay_2 l_grid_Lay_4 l_grid_Lay_6 l_grid_Lay_8 ?_
  intro a0 a1 hp
  have hp : (a1.length : Int) ≤ big := hp
  unfold W_grid_Lay layG
  refine ⟨trivial, ?_⟩
  by_cases h : gridErr a0 = 0
  · have hg := err_gok h
    rw [condP_f (by simp [h]), if_pos h]
    refine ⟨⟨rfl, rfl, by omega, by omega, hp, [], rfl, by simp, fun w => by simp [getE]⟩, ?_⟩
    rw [condP_iff]
    refine ⟨fun hd => ?_, fun hd => ?_⟩
    · rw [if_pos hd]; exact ⟨rfl, rfl, trivial⟩
    · rw [if_neg (by simp [hd])]
      have hb : baseF (tones a0) (List.replicate 14 (@List.nil (Int × Int × Unit))) 0 (Int.toNat (14 - 0)) = baseR a0 := rfl
      rw [hb, List.drop_zero]
      refine ⟨by omega, by omega, by omega, ⟨hg.1, rfl, by omega, by omega, rfl⟩, ⟨hg, rfl, hp, by omega, by omega, baseR_ok a0⟩, ?_⟩
      rw [condP_iff]
      refine ⟨fun hf => ?_, fun hf => ?_⟩
      · rw [if_pos hf]; exact ⟨rfl, rfl, trivial⟩
      · rw [if_neg (by simp [hf])]; exact ⟨rfl, rfl, trivial⟩
  · rw [condP_t (by simp [h]), if_neg h]
    exact ⟨rfl, rfl, trivial⟩
end Go.Spec
