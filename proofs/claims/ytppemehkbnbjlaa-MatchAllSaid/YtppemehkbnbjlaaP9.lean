/- The order of places, what is picked: run through. -/
import Derived.Test.YtppemehkbnbjlaaV7
import Derived.Test.YtppemehkbnbjlaaP1
import Derived.Test.YtppemehkbnbjlaaN3
set_option linter.unusedVariables false
set_option linter.unusedSimpArgs false
namespace Go.Spec
open Go Go.Lift Go.Proofs
attribute [local irreducible] Go.Lift.awp Go.Lift.LoopOK Go.Lift.SumOK
theorem condP_f (p q : Prop) : condP false p q = q := by simp [condP_iff]
theorem ok_match_Order : SumOK Try.prog 15 S_match_Order := by
  refine whole_match_Order ok_match_order ?_
  intro a0 _
  unfold W_match_Order orderOf orderErr
  simp only [condP_iff]
  by_cases h : 0 ≤ a0 ∧ a0 ≤ 4096
  · have e : (if decide (a0 < 0) = true then true else decide (a0 > 4096)) = false := by simp; omega
    rw [e, if_pos h]
    exact ⟨fun h => (by cases h), fun _ => ⟨by omega, rfl, by rw [if_pos h], trivial⟩⟩
  · have e : (if decide (a0 < 0) = true then true else decide (a0 > 4096)) = true := by simp; omega
    rw [e, if_neg h]
    exact ⟨fun _ => ⟨rfl, by rw [if_neg h], trivial⟩, fun h => (by cases h)⟩
theorem ok_match_Begin : SumOK Try.prog 18 S_match_Begin := by
  refine whole_match_Begin ?_
  intro a0 a1 _
  unfold W_match_Begin beginOf
  simp only [condP_iff]
  by_cases h : 1 ≤ a0 ∧ a0 ≤ 4096 ∧ 0 ≤ a1 ∧ a1 ≤ 3
  · have e : (if (if (if decide (a0 < 1) = true then true else decide (a0 > 4096)) = true then true else decide (a1 < 0)) = true then true else decide (a1 > 3)) = false := by simp; omega
    rw [e, if_pos h]
    have h1 : 0 ≤ a1 * a0 := Int.mul_nonneg (by omega) (by omega)
    have h2 : a1 * a0 ≤ 3 * 4096 := Int.mul_le_mul (by omega) (by omega) (by omega) (by omega)
    refine ⟨fun h => (by cases h), fun _ => ⟨by decide, ?_, rfl, trivial⟩⟩
    rw [i64w (n := a1 * a0) (by omega), Int.tdiv_eq_ediv_of_nonneg h1, i64w (by omega)]
  · have e : (if (if (if decide (a0 < 1) = true then true else decide (a0 > 4096)) = true then true else decide (a1 < 0)) = true then true else decide (a1 > 3)) = true := by simp; omega
    rw [e, if_neg h]
    exact ⟨fun _ => ⟨rfl, rfl, trivial⟩, fun h => (by cases h)⟩
theorem ok_R_Version : SumOK Try.prog 19 S_R_Version := by
  refine whole_R_Version ?_
  intro a0 _
  unfold W_R_Version versionB
  refine ⟨?_, trivial⟩
  by_cases h : 0 ≤ a0 <;> simp [h]
theorem l_bits_Check_0 : LoopOK E_bits_Check 0 (loopAt (bodyOf Try.f86) 0) L_bits_Check_0 := I_bits_Check_0 <| by
  intro t0 t5 t6 t7 K hp ho
  obtain ⟨rfl, rfl, h2, h3, h4⟩ := hp
  rw [big_val] at h4
  obtain ⟨n, rfl⟩ := Int.eq_ofNat_of_zero_le h2
  have e : ((n : Int) + 1).toNat = n + 1 := by omega
  unfold B_bits_Check_0
  unfold o_bits_Check_0 at ho ⊢
  simp only [condP_iff, decide_eq_true_eq, decide_eq_false_iff_not, Int.toNat_natCast] at ho ⊢
  refine ⟨fun hlt => ⟨h2, hlt, fun hc => ho.1 ?_, fun hc => ?_⟩, fun hge => ho.2 ?_⟩
  · rw [drop_cons t0 n 0 (by omega), List.any_cons, Bool.or_eq_true]
    exact .inl (by simpa using hc)
  · rw [i64w (by omega), e]
    rw [drop_cons t0 n 0 (by omega), List.any_cons, show decide (t0.getD n 0 > 1) = false from by simpa using hc, Bool.false_or] at ho
    exact ⟨⟨rfl, rfl, by omega, by omega, by rw [big_val]; omega⟩, by unfold m_bits_Check_0; omega, ho⟩
  · rw [List.drop_eq_nil_of_le (by omega)]; rfl
theorem any_bad {b : List Int} (h : ∀ y ∈ b, 0 ≤ y) : (b.any fun x => decide (x > 1)) = b.any badBit := by
  induction b with
  | nil => rfl
  | cons x b ih =>
    simp only [List.any_cons]
    rw [ih fun y hy => h y (List.mem_cons_of_mem _ hy)]
    congr 1
    have := h x (List.mem_cons_self ..)
    unfold badBit
    by_cases h1 : x > 1
    · have h2 : ¬ x = 0 := by omega
      have h3 : ¬ x = 1 := by omega
      simp [h1, h2, h3]
    · have : x = 0 ∨ x = 1 := by omega
      rcases this with rfl | rfl <;> rfl
theorem ok_bits_Check : SumOK Try.prog 86 S_bits_Check := by
  refine whole_bits_Check l_bits_Check_0 ?_
  intro a0 ⟨h1, h2⟩
  unfold W_bits_Check
  simp only [List.drop_zero, any_bad h2, condP_iff]
  refine ⟨⟨rfl, rfl, by omega, by omega, h1⟩, fun h => ?_, fun h => ⟨fun k => ?_, fun k => ?_⟩⟩
  · simp [bitsErr, h]
  · simp [bitsErr, h] at k ⊢; omega
  · simp [bitsErr, h] at k ⊢; omega
theorem badBit_if (x : Int) : (if (x != 0) = true then x != 1 else false) = badBit x := by
  unfold badBit bne
  cases (x == 0) <;> cases (x == 1) <;> rfl
theorem l_R_Bits_0 : LoopOK E_R_Bits 0 (loopAt (bodyOf Try.f21) 0) L_R_Bits_0 := I_R_Bits_0 <| by
  intro t0 t3 K hp ho
  obtain ⟨h2, h3, h4⟩ := hp
  rw [big_val] at h4
  obtain ⟨n, rfl⟩ := Int.eq_ofNat_of_zero_le h2
  have e : ((n : Int) + 1).toNat = n + 1 := by omega
  unfold B_R_Bits_0
  unfold o_R_Bits_0 at ho ⊢
  simp only [condP_iff, decide_eq_true_eq, decide_eq_false_iff_not, Int.toNat_natCast, imp_self, true_and, badBit_if] at ho ⊢
  refine ⟨fun hlt => ?_, fun hge => ho.2 ?_⟩
  · rw [drop_cons t0 n 0 (by omega), List.any_cons] at ho
    rw [i64w (by omega), e]
    refine ⟨h2, hlt, fun _ => h2, fun _ => hlt, fun hc => ho.1 (by rw [hc, Bool.true_or]), fun hc => ?_⟩
    rw [hc, Bool.false_or] at ho
    exact ⟨⟨by omega, by omega, by rw [big_val]; omega⟩, by unfold m_R_Bits_0; omega, ho⟩
  · rw [List.drop_eq_nil_of_le (by omega)]; rfl
theorem ok_R_Bits : SumOK Try.prog 21 S_R_Bits := by
  refine whole_R_Bits l_R_Bits_0 ?_
  intro a0 h1
  unfold W_R_Bits
  simp only [List.drop_zero, condP_iff]
  refine ⟨⟨by omega, by omega, h1⟩, fun h => ?_, fun h => ⟨fun k => ?_, fun k => ?_⟩⟩
  · simp [bitsErr, h]
  · simp [bitsErr, h] at k ⊢; omega
  · simp [bitsErr, h] at k ⊢; omega
theorem softB_cons (x : Int) (l : List Int) : softB (x :: l) = ((decide (-100000 ≤ x) && decide (x ≤ 100000)) && softB l) := rfl
theorem soft1 (x : Int) : (if decide (x < (-100000 : Int)) = true then true else decide (x > (100000 : Int))) = !(decide (-100000 ≤ x) && decide (x ≤ 100000)) := by
  by_cases h1 : x < -100000 <;> by_cases h2 : x > 100000 <;> simp [h1, h2] <;> omega
theorem soft2 (x : Int) : (if decide (x > (100000 : Int)) = true then true else decide (x < (-100000 : Int))) = !(decide (-100000 ≤ x) && decide (x ≤ 100000)) := by
  by_cases h1 : x < -100000 <;> by_cases h2 : x > 100000 <;> simp [h1, h2] <;> omega
theorem l_conv_Soft_0 : LoopOK E_conv_Soft 0 (loopAt (bodyOf Try.f87) 0) L_conv_Soft_0 := I_conv_Soft_0 <| by
  intro t5 t6 t7 K hp ho
  obtain ⟨rfl, h2, h3, h4⟩ := hp
  have h4' := h4
  rw [big_val] at h4'
  obtain ⟨n, rfl⟩ := Int.eq_ofNat_of_zero_le h2
  have e : ((n : Int) + 1).toNat = n + 1 := by omega
  unfold B_conv_Soft_0
  unfold o_conv_Soft_0 at ho ⊢
  rw [soft1]
  simp only [i64w (n := (n : Int) + 1) (by omega), e, Int.toNat_natCast] at ho ⊢
  rw [condP_iff]
  simp only [decide_eq_true_eq, decide_eq_false_iff_not]
  refine ⟨fun hlt => ⟨h2, hlt, ?_⟩, fun hge => ?_⟩
  · rw [drop_cons t5 n 0 (by omega), softB_cons] at ho
    generalize (decide (-100000 ≤ t5.getD n 0) && decide (t5.getD n 0 ≤ 100000)) = b at *
    cases b
    · simpa [condP_iff] using ho
    · simp only [Bool.not_true, condP_f]
      exact ⟨⟨rfl, by omega, by omega, h4⟩, by unfold m_conv_Soft_0; omega, by simpa using ho⟩
  · rw [List.drop_eq_nil_of_le (by omega)] at ho
    simpa [softB, condP_iff] using ho
theorem ok_conv_Soft : SumOK Try.prog 87 S_conv_Soft := by
  refine whole_conv_Soft l_conv_Soft_0 ?_
  intro a0 h
  unfold W_conv_Soft
  simp only [condP_iff, List.drop_zero]
  exact ⟨⟨rfl, by omega, by omega, h⟩, fun h => ⟨h.symm, trivial⟩, fun h => ⟨h.symm, trivial⟩⟩
theorem l_R_Soft_0 : LoopOK E_R_Soft 0 (loopAt (bodyOf Try.f24) 0) L_R_Soft_0 := I_R_Soft_0 <| by
  intro t0 t3 K hp ho
  obtain ⟨h2, h3, h4⟩ := hp
  have h4' := h4
  rw [big_val] at h4'
  obtain ⟨n, rfl⟩ := Int.eq_ofNat_of_zero_le h2
  have e : ((n : Int) + 1).toNat = n + 1 := by omega
  unfold B_R_Soft_0
  unfold o_R_Soft_0 at ho ⊢
  rw [soft2]
  simp only [i64w (n := (n : Int) + 1) (by omega), e, Int.toNat_natCast] at ho ⊢
  rw [condP_iff]
  simp only [decide_eq_true_eq, decide_eq_false_iff_not]
  refine ⟨fun hlt => ⟨h2, hlt, fun _ => h2, fun _ => hlt, ?_⟩, fun hge => ?_⟩
  · rw [drop_cons t0 n 0 (by omega), softB_cons] at ho
    generalize (decide (-100000 ≤ t0.getD n 0) && decide (t0.getD n 0 ≤ 100000)) = b at *
    cases b
    · simpa [condP_iff] using ho
    · simp only [Bool.not_true, condP_f]
      exact ⟨⟨by omega, by omega, h4⟩, by unfold m_R_Soft_0; omega, by simpa using ho⟩
  · rw [List.drop_eq_nil_of_le (by omega)] at ho
    simpa [softB, condP_iff] using ho
theorem ok_R_Soft : SumOK Try.prog 24 S_R_Soft := by
  refine whole_R_Soft l_R_Soft_0 ?_
  intro a0 h
  unfold W_R_Soft
  simp only [condP_iff, List.drop_zero]
  exact ⟨⟨by omega, by omega, h⟩, fun h => ⟨h.symm, trivial⟩, fun h => ⟨h.symm, trivial⟩⟩
/-! the document's order -/
theorem l_R_Order_0 : LoopOK E_R_Order 0 (loopAt (bodyOf Try.f17) 0) L_R_Order_0 := I_R_Order_0 <| by
  intro t0 t4 r0 K hp ho
  obtain ⟨h1, h2, h3, rfl⟩ := hp
  obtain ⟨n, rfl⟩ := Int.eq_ofNat_of_zero_le h2
  obtain ⟨c1, c2⟩ := tab_char n
  unfold B_R_Order_0
  unfold o_R_Order_0 at ho ⊢
  refine condP_iff.2 ⟨fun hlt => ?_, fun hge => ?_⟩
  · have hlt : (n : Int) < t0 := of_decide_eq_true hlt
    have ed : Int.tdiv (n : Int) 8 = ((n / 8 : Nat) : Int) := by rw [Int.tdiv_eq_ediv_of_nonneg (by omega)]; omega
    have em : Int.tmod (n : Int) 8 = ((n % 8 : Nat) : Int) := by rw [Int.tmod_eq_emod_of_nonneg (by omega)]; omega
    have ew : IntKind.wrap .i64 ((n : Int) + 1) = ((n + 1 : Nat) : Int) := by rw [i64w (by omega)]; omega
    rw [ed, em, ew, i64w (n := ((n / 8 : Nat) : Int)) (by omega)]
    simp only [Int.toNat_natCast, List.set_set, List.append_eq]
    have hstep : tabL (n + 1) = (if n % 8 = 0 then tabL n ++ [[]] else tabL n).set (n / 8) ((if n % 8 = 0 then tabL n ++ [[]] else tabL n).getD (n / 8) [] ++ [(n : Int)]) := rfl
    have hrow : ∀ r, (rowL n r).length ≤ 8 := fun r => by simp [rowL]; omega
    refine ⟨by decide, condP_iff.2 ⟨fun hz => ?_, fun hz => ?_⟩⟩
    · have hz : n % 8 = 0 := by have := eq_of_beq hz; omega
      simp only [if_pos hz] at hstep
      have hd : (tabL n ++ [[]]).getD (n / 8) ([] : List Int) = [] := by
        rw [List.getD_eq_getElem?_getD, List.getElem?_append_right (by omega)]
        rw [show n / 8 - (tabL n).length = 0 by omega]; rfl
      have hl : ((n / 8 : Nat) : Int) < (((tabL n ++ [[]] : List (List Int)).length : Nat) : Int) := by simp; omega
      have hlen : ((tabL n ++ [[]] : List (List Int)).getD (n / 8) []).length + [(n : Int)].length ≤ 100 := by rw [hd]; simp
      refine ⟨by simp; omega, by decide, by decide, by omega, hl, by omega, hl, by trivial, by omega, by omega, hl, by trivial, ⟨h1, by omega, by omega, ?_⟩, by unfold m_R_Order_0; omega, ho⟩
      rw [Int.toNat_natCast, hstep]
    · have hz : ¬ n % 8 = 0 := by have := ne_of_beq_false hz; omega
      simp only [if_neg hz] at hstep
      have hl : ((n / 8 : Nat) : Int) < ((tabL n).length : Int) := by omega
      have hlen : ((tabL n).getD (n / 8) []).length + [(n : Int)].length ≤ 100 := by rw [c2 _ (by omega)]; have := hrow (n / 8); simp; omega
      refine ⟨by decide, by decide, by omega, hl, by omega, hl, by trivial, by omega, by omega, hl, by trivial, ⟨h1, by omega, by omega, ?_⟩, by unfold m_R_Order_0; omega, ho⟩
      rw [Int.toNat_natCast, hstep]
  · have hge : ¬ (n : Int) < t0 := of_decide_eq_false hge
    have : t0.toNat = n := by omega
    rw [this] at ho
    simpa using ho
theorem set_getD {α : Type} {l : List α} {i : Nat} (h : i < l.length) (d : α) : l.set i (l.getD i d) = l := by
  rw [List.getD_eq_getElem?_getD, List.getElem?_eq_getElem h, Option.getD_some]
  exact List.set_getElem_self h
theorem l_R_Order_4 : LoopOK E_R_Order 4 (loopAt (bodyOf Try.f17) 4) L_R_Order_4 := I_R_Order_4 <| by
  intro t7 t8 r0 r1 r2 K hp ho
  obtain ⟨h1, h2, rfl, h4, h5, h6, h7⟩ := hp
  obtain ⟨n, rfl⟩ := Int.eq_ofNat_of_zero_le h5
  unfold B_R_Order_4
  unfold o_R_Order_4 at ho ⊢
  refine condP_iff.2 ⟨fun hlt => ?_, fun hge => ?_⟩
  · have hlt : (n : Int) < (r0.length : Int) := of_decide_eq_true hlt
    have hc : 0 ≤ cols.getD t7.toNat 0 := by
      have : t7 = 0 ∨ t7 = 1 ∨ t7 = 2 ∨ t7 = 3 ∨ t7 = 4 ∨ t7 = 5 ∨ t7 = 6 ∨ t7 = 7 := by omega
      rcases this with rfl | rfl | rfl | rfl | rfl | rfl | rfl | rfl <;> decide
    have hcl : t7 < (cols.length : Int) := h2
    have ew : IntKind.wrap .i64 ((n : Int) + 1) = ((n + 1 : Nat) : Int) := by rw [i64w (by omega)]; omega
    rw [ew]
    simp only [Int.toNat_natCast, set_getD (show n < r0.length by omega), List.append_eq] at ho ⊢
    rw [drop_cons r0 n [] (by omega)] at ho
    have e : pickCol (r0.getD n [] :: r0.drop (n + 1)) (cols.getD t7.toNat 0) = (if cols.getD t7.toNat 0 < ((r0.getD n []).length : Int) then [(r0.getD n []).getD (cols.getD t7.toNat 0).toNat 0] else []) ++ pickCol (r0.drop (n + 1)) (cols.getD t7.toNat 0) := by
      simp [pickCol]
    rw [e] at ho
    refine ⟨h5, hlt, h1, hcl, h5, hlt, by trivial, condP_iff.2 ⟨fun hx => ?_, fun hx => ?_⟩⟩
    · have hx : cols.getD t7.toNat 0 < ((r0.getD n []).length : Int) := of_decide_eq_true hx
      rw [if_pos hx, ← List.append_assoc] at ho
      refine ⟨h5, hlt, h5, hlt, by trivial, h1, hcl, hc, hx, by simp; omega, ⟨h1, h2, rfl, h4, by omega, by omega, by simp; omega⟩, by unfold m_R_Order_4; omega, ho⟩
    · have hx : ¬ cols.getD t7.toNat 0 < ((r0.getD n []).length : Int) := of_decide_eq_false hx
      rw [if_neg hx, List.nil_append] at ho
      exact ⟨⟨h1, h2, rfl, h4, by omega, by omega, by omega⟩, by unfold m_R_Order_4; omega, ho⟩
  · have hge : ¬ (n : Int) < (r0.length : Int) := of_decide_eq_false hge
    rw [Int.toNat_natCast, List.drop_eq_nil_of_le (by omega)] at ho
    simpa [pickCol] using ho
theorem l_R_Order_2 : LoopOK E_R_Order 2 (loopAt (bodyOf Try.f17) 2) L_R_Order_2 := I_R_Order_2 <| by
  intro t7 r0 r1 r2 K hp ho
  obtain ⟨h1, h2, rfl, h4, h5⟩ := hp
  obtain ⟨n, rfl⟩ := Int.eq_ofNat_of_zero_le h1
  unfold B_R_Order_2
  unfold o_R_Order_2 at ho ⊢
  refine condP_iff.2 ⟨fun hlt => ?_, fun hge => ?_⟩
  · have hlt : (n : Int) < 8 := of_decide_eq_true hlt
    have ew : IntKind.wrap .i64 ((n : Int) + 1) = ((n + 1 : Nat) : Int) := by rw [i64w (by omega)]; omega
    rw [ew]
    simp only [Int.toNat_natCast, List.drop_zero] at ho ⊢
    have hcl : cols.length = 8 := rfl
    rw [drop_cons cols n 0 (by omega), List.flatMap_cons, ← List.append_assoc] at ho
    have hpl : ∀ (l : List (List Int)) (c : Int), (pickCol l c).length ≤ l.length := fun l c => by
      induction l with
      | nil => simp [pickCol]
      | cons x l ih =>
        have : pickCol (x :: l) c = (if c < (x.length : Int) then [x.getD c.toNat 0] else []) ++ pickCol l c := by simp [pickCol]
        rw [this]
        split <;> simp <;> omega
    have := hpl r0 (cols.getD n 0)
    exact ⟨⟨h1, hlt, rfl, h4, by omega, by omega, by omega⟩, ⟨by omega, by omega, rfl, h4, by simp only [List.length_append]; omega⟩, by unfold m_R_Order_2; omega, ho⟩
  · have hge : ¬ (n : Int) < 8 := of_decide_eq_false hge
    have hcl : cols.length = 8 := rfl
    rw [Int.toNat_natCast, List.drop_eq_nil_of_le (by omega)] at ho
    simpa using ho
theorem ok_R_Order : SumOK Try.prog 17 S_R_Order := by
  refine whole_R_Order l_R_Order_0 l_R_Order_2 l_R_Order_4 ?_
  intro a0 h
  unfold W_R_Order
  have hl := (tab_char a0.toNat).1
  refine ⟨⟨h, by omega, by omega, rfl⟩, ⟨by omega, by omega, rfl, by omega, by simp⟩, ?_, trivial⟩
  exact cols_tab a0
end Go.Spec
