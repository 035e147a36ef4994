/- What is picked, what is added: run through. -/
import Derived.Test.YtppemehkbnbjlaaP9
set_option linter.unusedVariables false
set_option linter.unusedSimpArgs false
namespace Go.Spec
open Go Go.Lift Go.Proofs
attribute [local irreducible] Go.Lift.awp Go.Lift.LoopOK Go.Lift.SumOK
theorem begin_eq {n v : Int} (h : 1 ≤ n ∧ n ≤ 4096 ∧ 0 ≤ v ∧ v ≤ 3) : (beginOf n v).2 = 0 ∧ 0 ≤ (beginOf n v).1 ∧ (beginOf n v).1 < n ∧ IntKind.wrap .i64 (Int.tdiv (IntKind.wrap .i64 (n * v)) 4) = (beginOf n v).1 := by
  unfold beginOf
  rw [if_pos h]
  have hv : v = 0 ∨ v = 1 ∨ v = 2 ∨ v = 3 := by omega
  have e : Int.tdiv (v * n) 4 = v * n / 4 := Int.tdiv_eq_ediv_of_nonneg (Int.mul_nonneg (by omega) (by omega))
  have e2 : n * v = v * n := Int.mul_comm _ _
  refine ⟨rfl, ?_⟩
  show 0 ≤ Int.tdiv (v * n) 4 ∧ Int.tdiv (v * n) 4 < n ∧ IntKind.wrap .i64 (Int.tdiv (IntKind.wrap .i64 (n * v)) 4) = Int.tdiv (v * n) 4
  rw [e2]
  rcases hv with rfl | rfl | rfl | rfl <;> (rw [i64w (n := _ * n) (by omega), e, i64w (by omega)]; omega)
theorem begin_zero {n v : Int} : (beginOf n v).2 = 0 ↔ (1 ≤ n ∧ n ≤ 4096 ∧ 0 ≤ v ∧ v ≤ 3) := by
  unfold beginOf
  split
  · rename_i h; simp [h]
  · rename_i h; simp [h]
theorem place_ok {n : Nat} {a i : Int} (hn : 1 ≤ n) (h0 : 0 ≤ a) (h1 : a ≤ 4096) (h2 : 0 ≤ i) (h3 : i ≤ 4096) :
    Int.tmod (IntKind.wrap .i64 (a + i)) ((turnL (n : Int)).length : Int) = (a + i) % (n : Int) ∧ 0 ≤ (a + i) % (n : Int) ∧ (a + i) % (n : Int) < (turnL (n : Int)).length ∧ ((turnL (n : Int)).length : Int) ≠ 0 ∧
      0 ≤ (turnL (n : Int)).getD ((a + i) % (n : Int)).toNat 0 ∧ (turnL (n : Int)).getD ((a + i) % (n : Int)).toNat 0 < n := by
  have hl : ((turnL (n : Int)).length : Int) = n := by rw [turnL_length (by omega)]; omega
  rw [hl, i64w (by omega), Int.tmod_eq_emod_of_nonneg (by omega)]
  have e1 := Int.emod_nonneg (a + i) (show (n : Int) ≠ 0 by omega)
  have e2 := Int.emod_lt_of_pos (a + i) (show (0 : Int) < n by omega)
  have e3 := turnL_at (n := n) (i := ((a + i) % (n : Int)).toNat) (by omega)
  exact ⟨rfl, e1, e2, by omega, e3⟩
theorem set_step {l l' : List Int} {i : Nat} {y : Int} (h : i < l.length) (h' : i < l'.length) (hy : l'.getD i 0 = y) : (l.set i y).take (i + 1) ++ l'.drop (i + 1) = l.take i ++ l'.drop i := by
  rw [drop_cons l' i 0 h', hy]
  have : (l.set i y).take (i + 1) = l.take i ++ [y] := by
    rw [List.take_add_one, List.getElem?_set_self h, List.take_set_of_le (Nat.le_refl _)]; rfl
  rw [this]; simp
theorem pick_at {c : List Int} {a : Int} {k i : Nat} (h : i < k) : (pickL c a k).getD i 0 = c.getD ((turnL (c.length : Int)).getD ((a + i) % (c.length : Int)).toNat 0).toNat 0 := by
  rw [List.getD_eq_getElem?_getD, List.getElem?_eq_getElem (by simpa [pickL, pickedL] using h)]
  simp [pickL, pickedL]
theorem pick_length (c : List Int) (a : Int) (k : Nat) : (pickL c a k).length = k := by simp [pickL, pickedL]
theorem l_match_Pick_0 : LoopOK E_match_Pick 0 (loopAt (bodyOf Try.f20) 0) L_match_Pick_0 := I_match_Pick_0 <| by
  intro t0 t9 t42 t43 r0 r1 K hp ho
  obtain ⟨rfl, h1, h2, h3, h4, rfl, h6, h7, h8⟩ := hp
  obtain ⟨n, rfl⟩ := Int.eq_ofNat_of_zero_le h6
  unfold B_match_Pick_0
  unfold o_match_Pick_0 at ho ⊢
  refine condP_iff.2 ⟨fun hlt => ?_, fun hge => ?_⟩
  · have hlt : (n : Int) < (r1.length : Int) := of_decide_eq_true hlt
    obtain ⟨e1, e2, e3, e4, e5, e6⟩ := place_ok (a := t9) (i := n) h1 h3 h4 h6 (by omega)
    rw [e1]
    have ew : IntKind.wrap .i64 ((n : Int) + 1) = ((n + 1 : Nat) : Int) := by rw [i64w (by omega)]; omega
    rw [ew]
    refine ⟨e4, e2, e3, e5, e6, h6, hlt, ⟨rfl, h1, h2, h3, h4, by simp, by omega, by omega, h8⟩, by unfold m_match_Pick_0; omega, ?_⟩
    simp only [Int.toNat_natCast] at ho ⊢
    rw [set_step (l := r1) (by omega) (by rw [pick_length]; omega) (pick_at (by omega))]
    exact ho
  · have hge : ¬ (n : Int) < (r1.length : Int) := of_decide_eq_false hge
    simp only [Int.toNat_natCast] at ho
    rw [List.take_of_length_le (by omega), List.drop_eq_nil_of_le (by rw [pick_length]; omega), List.append_nil] at ho
    exact ho
theorem ok_match_Pick : SumOK Try.prog 20 S_match_Pick := by
  refine whole_match_Pick ok_bits_Check ok_match_Begin ok_match_order l_match_Pick_0 ?_
  intro a0 a1 a2 hp
  unfold W_match_Pick
  refine ⟨hp, condP_iff.2 ⟨fun hb => ?_, fun hb => ⟨trivial, condP_iff.2 ⟨fun hc => ?_, fun hc => ?_⟩⟩⟩⟩
  · have hb : bitsErr a0 ≠ 0 := by simpa using hb
    have e : pickErr a0 a1 a2 = bitsErr a0 := by unfold pickErr; rw [if_pos hb]
    exact ⟨by unfold pickOf; rw [e, if_neg hb], e.symm, trivial⟩
  · have hb : bitsErr a0 = 0 := by simpa using hb
    have hc : (beginOf a0.length a1).2 ≠ 0 ∨ a2 < 0 ∨ 4096 < a2 := by
      by_cases h1 : (beginOf a0.length a1).2 = 0
      · rw [h1] at hc
        by_cases h2 : a2 < 0
        · exact .inr (.inl h2)
        · simp [h2] at hc; exact .inr (.inr hc)
      · exact .inl h1
    have e : pickErr a0 a1 a2 = 1 := by unfold pickErr; rw [if_neg (by simpa using hb), if_pos hc]
    exact ⟨by unfold pickOf; rw [e, if_neg (by decide)], e.symm, trivial⟩
  · have hb : bitsErr a0 = 0 := by simpa using hb
    have hc : (beginOf a0.length a1).2 = 0 ∧ 0 ≤ a2 ∧ a2 ≤ 4096 := by
      simp at hc; omega
    obtain ⟨b1, b2, b3, b4⟩ := hc.1 |> begin_zero.1
    obtain ⟨_, g1, g2, _⟩ := begin_eq (n := (a0.length : Int)) (v := a1) ⟨b1, b2, b3, b4⟩
    have e : pickErr a0 a1 a2 = 0 := by unfold pickErr; rw [if_neg (by simpa using hb), if_neg (by omega)]
    refine ⟨by omega, hc.2.1, Int.le_refl _, by omega, ⟨rfl, by omega, by omega, g1, by omega, rfl, Int.le_refl _, Int.natCast_nonneg _, by simp; omega⟩, ?_, e.symm, trivial⟩
    unfold pickOf
    rw [e, if_pos rfl]
    simp [show max a2 0 = a2 by omega]
theorem l_R_Picked_0 : LoopOK E_R_Picked 0 (loopAt (bodyOf Try.f22) 0) L_R_Picked_0 := I_R_Picked_0 <| by
  intro t0 t2 t9 t10 r0 r1 K hp ho
  obtain ⟨rfl, h1, h2, h3, h4, h5, h6, h7, h8⟩ := hp
  unfold B_R_Picked_0
  unfold o_R_Picked_0 at ho ⊢
  refine condP_iff.2 ⟨fun hlt => ?_, fun hge => ?_⟩
  · have hlt : t10 < t2 := of_decide_eq_true hlt
    have hl : ((turnL t0).length : Int) = t0 := by rw [turnL_length (by omega)]; omega
    rw [i64w (n := t9 + 1) (by omega), i64w (n := t10 + 1) (by omega)]
    have e : (t2 - t10).toNat = (t2 - (t10 + 1)).toNat + 1 := by omega
    rw [e, picked_cons ⟨h3, h4⟩] at ho
    unfold nextAt at ho
    refine ⟨h3, by omega, by simp; omega, condP_iff.2 ⟨fun hx => ?_, fun hx => ?_⟩⟩
    · have hx : t9 + 1 = t0 := eq_of_beq hx
      rw [if_pos hx] at ho
      exact ⟨⟨rfl, h1, h2, by omega, by omega, by omega, by omega, h7, by simp; omega⟩, by unfold m_R_Picked_0; omega, by simpa using ho⟩
    · have hx : t9 + 1 ≠ t0 := ne_of_beq_false hx
      rw [if_neg hx] at ho
      exact ⟨⟨rfl, h1, h2, by omega, by omega, by omega, by omega, h7, by simp; omega⟩, by unfold m_R_Picked_0; omega, by simpa using ho⟩
  · have hge : ¬ t10 < t2 := of_decide_eq_false hge
    have e : (t2 - t10).toNat = 0 := by omega
    rw [e] at ho
    simpa [pickedL] using ho
theorem ok_R_Picked : SumOK Try.prog 22 S_R_Picked := by
  refine whole_R_Picked ok_R_Order l_R_Picked_0 ?_
  intro a0 a1 a2 ⟨h1, h2, h3, h4, h5, h6⟩
  unfold W_R_Picked
  obtain ⟨_, g1, g2, g3⟩ := begin_eq (n := a0) (v := a1) ⟨h1, h2, h3, h4⟩
  rw [g3]
  exact ⟨by omega, by decide, ⟨rfl, h1, h2, g1, g2, Int.le_refl _, h5, h6, rfl⟩, by rw [Int.sub_zero]; rfl, trivial⟩
theorem ok_match_New : SumOK Try.prog 23 S_match_New := by
  refine whole_match_New ?_
  intro a0 _
  unfold W_match_New
  simp only [condP_iff]
  by_cases h : 1 ≤ a0 ∧ a0 ≤ 4096
  · have e : (if decide (a0 < 1) = true then true else decide (a0 > 4096)) = false := by simp; omega
    rw [e, if_pos h, if_pos h]
    exact ⟨fun h => (by cases h), fun _ => ⟨by omega, by omega, by omega, rfl, rfl, trivial⟩⟩
  · have e : (if decide (a0 < 1) = true then true else decide (a0 > 4096)) = true := by simp; omega
    rw [e, if_neg h, if_neg h]
    exact ⟨fun _ => ⟨rfl, rfl, trivial⟩, fun h => (by cases h)⟩
theorem ok_slices_Clone_int_int : SumOK Try.prog 88 S_slices_Clone_int_int := by
  refine whole_slices_Clone_int_int ?_
  intro a0 h
  unfold W_slices_Clone_int_int
  have h : a0.length ≤ 1000000000 := h
  exact ⟨fun he => ⟨(List.isEmpty_iff.1 (he rfl)).symm, trivial⟩, fun _ => ⟨by simp; omega, rfl, trivial⟩⟩
theorem ok_match_Buffer_Soft : SumOK Try.prog 26 S_match_Buffer_Soft := by
  refine whole_match_Buffer_Soft ok_slices_Clone_int_int ?_
  intro a0 h
  exact ⟨by omega, rfl, rfl, trivial⟩
theorem addP_length : ∀ (nx ps ss : List Int), (addP nx ps ss).length = nx.length
  | nx, [], _ => by simp [addP]
  | nx, _ :: _, [] => by simp [addP]
  | nx, p :: ps, s :: ss => by simp [addP, addP_length]
theorem l_match_Buffer_Add_0 : LoopOK E_match_Buffer_Add 0 (loopAt (bodyOf Try.f25) 0) L_match_Buffer_Add_0 := I_match_Buffer_Add_0 <| by
  intro t7 t46 t47 t48 r0 r1 r2 K hp ho
  obtain ⟨rfl, h1, h2, h3, h4, rfl, h6, h7, h8, h9⟩ := hp
  obtain ⟨n, rfl⟩ := Int.eq_ofNat_of_zero_le h6
  unfold B_match_Buffer_Add_0
  unfold o_match_Buffer_Add_0 at ho ⊢
  refine condP_iff.2 ⟨fun hlt => ?_, fun hge => ?_⟩
  · have hlt : (n : Int) < (t46.length : Int) := of_decide_eq_true hlt
    obtain ⟨e1, e2, e3, e4, e5, e6⟩ := place_ok (a := t7) (i := n) h1 h3 h4 h6 (by omega)
    rw [e1]
    have ew : IntKind.wrap .i64 ((n : Int) + 1) = ((n + 1 : Nat) : Int) := by rw [i64w (by omega)]; omega
    rw [ew]
    simp only [Int.toNat_natCast] at ho ⊢
    rw [drop_cons (pickedL r2.length t7 t46.length) n 0 (by rw [picked_length]; omega), drop_cons t46 n 0 (by omega)] at ho
    have hpk : (pickedL r2.length t7 t46.length).getD n 0 = (turnL (r2.length : Int)).getD ((t7 + (n : Int)) % (r2.length : Int)).toNat 0 := by
      rw [List.getD_eq_getElem?_getD, List.getElem?_eq_getElem (by rw [picked_length]; omega), Option.getD_some, picked_at (by omega) (by omega)]
    rw [hpk, addP] at ho
    refine ⟨h6, hlt, e4, e2, e3, e5, e6, e5, e6, ⟨by simp, by simpa using h1, by simpa using h2, h3, h4, rfl, by omega, by omega, h8, h9⟩, by unfold m_match_Buffer_Add_0; omega, ?_⟩
    simpa using ho
  · have hge : ¬ (n : Int) < (t46.length : Int) := of_decide_eq_false hge
    rw [Int.toNat_natCast, Int.toNat_natCast, List.drop_eq_nil_of_le (show t46.length ≤ n by omega)] at ho
    rw [List.drop_eq_nil_of_le (by rw [picked_length]; omega)] at ho
    simpa [addP] using ho
theorem ok_match_Buffer_Add : SumOK Try.prog 25 S_match_Buffer_Add := by
  refine whole_match_Buffer_Add ok_match_Begin ok_conv_Soft ok_match_order ok_slices_Clone_int_int l_match_Buffer_Add_0 ?_
  intro a0 a1 a2 ⟨hl, hb⟩
  obtain ⟨b, ⟨⟩⟩ := a0
  have hl : b.length ≤ 4096 := hl
  unfold W_match_Buffer_Add
  refine ⟨trivial, fun _ => hb, condP_iff.2 ⟨fun hc => ?_, fun hc => ?_⟩⟩
  · have hc : (beginOf b.length a2).2 ≠ 0 ∨ softB a1 = false ∨ 4096 < a1.length := by
      by_cases h1 : (beginOf b.length a2).2 = 0
      · simp only [h1] at hc
        cases h2 : softB a1 with
        | false => exact .inr (.inl rfl)
        | true => rw [h2] at hc; simp at hc; exact .inr (.inr (by omega))
      · exact .inl h1
    have e : addErr b a1 a2 = 1 := by unfold addErr; rw [if_pos hc]
    exact ⟨e.symm, by unfold addOf; rw [e, if_neg (by decide)], trivial⟩
  · have hc : (beginOf b.length a2).2 = 0 ∧ softB a1 = true ∧ a1.length ≤ 4096 := by
      by_cases h1 : (beginOf b.length a2).2 = 0
      · simp only [h1] at hc
        cases h2 : softB a1 with
        | false => rw [h2] at hc; simp at hc
        | true => rw [h2] at hc; simp at hc; exact ⟨h1, rfl, by omega⟩
      · simp [h1] at hc
    obtain ⟨c1, c2, c3⟩ := hc
    obtain ⟨b1, b2, b3, b4⟩ := begin_zero.1 c1
    obtain ⟨_, g1, g2, _⟩ := begin_eq (n := (b.length : Int)) (v := a2) ⟨b1, b2, b3, b4⟩
    have hif : ¬ ((beginOf b.length a2).2 ≠ 0 ∨ softB a1 = false ∨ 4096 < a1.length) := by rw [c1, c2]; simp; omega
    have eL : addP b (List.drop 0 (pickedL (b.length : Int) (beginOf b.length a2).1 (Int.toNat (a1.length : Int)))) (List.drop 0 a1) = addL b a1 a2 := by
      unfold addL; simp
    refine ⟨by show (b.length : Int) ≤ 1000000; omega, by show b.length ≤ 1000000000; omega, ⟨rfl, by show 1 ≤ b.length; omega, hl, g1, by show (beginOf b.length a2).1 ≤ 4096; omega, rfl, Int.le_refl _, Int.natCast_nonneg _, by omega, hl⟩, ?_, ?_⟩
    · show ((addP b _ _).length : Int) ≤ big
      rw [addP_length, big_val]; omega
    · show condP (!softB (addP b _ _)) _ _
      rw [eL]
      refine condP_iff.2 ⟨fun hs => ?_, fun hs => ?_⟩
      · have hs : softB (addL b a1 a2) = false := by simpa using hs
        have e : addErr b a1 a2 = 2 := by unfold addErr; rw [if_neg hif, hs]; rfl
        exact ⟨e.symm, by unfold addOf; rw [e, if_neg (by decide)], trivial⟩
      · have hs : softB (addL b a1 a2) = true := by simpa using hs
        have e : addErr b a1 a2 = 0 := by unfold addErr; rw [if_neg hif, if_pos hs]
        exact ⟨e.symm, by unfold addOf; rw [e, if_pos rfl], trivial⟩
end Go.Spec
