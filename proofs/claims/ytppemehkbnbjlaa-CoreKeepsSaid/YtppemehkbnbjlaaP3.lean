/- A core, run through: what it answers. -/
import Derived.Test.YtppemehkbnbjlaaV3
import Derived.Test.YtppemehkbnbjlaaP1
set_option linter.unusedVariables false
set_option linter.unusedSimpArgs false
namespace Go.Spec
open Go Go.Lift Go.Proofs
attribute [local irreducible] Go.Lift.awp Go.Lift.LoopOK Go.Lift.SumOK
theorem setO_getD (m : PMap) (k : Int) : setO m k ((getO m k).getD none) = m := setO_per m k
theorem isC_iff (c : Int) : isC c = true ↔ 1 ≤ c ∧ c ≤ 100 := by simp [isC]
theorem notC (c : Int) : (if decide (c < 1) = true then true else decide (c > 100)) = !isC c := by
  by_cases h : c < 1
  · have : isC c = false := by simp [isC]; omega
    simp [h, this]
  · by_cases h2 : 100 < c
    · have : isC c = false := by simp [isC]; omega
      simp [h, h2, this]
    · have : isC c = true := by simp [isC]; omega
      simp [h, h2, this]
theorem ok_core_isCell_1 : SumOK Try.prog 132 S_core_isCell_1 := by
  refine whole_core_isCell_1 ?_
  intro a0 _
  unfold W_core_isCell_1
  simp only [notC]
  simp
theorem ok_R_Cell : SumOK Try.prog 127 S_R_Cell := by
  refine whole_R_Cell ?_
  intro a0 _
  unfold W_R_Cell isC
  by_cases h : a0 < 1
  · simp
  · simp
theorem firstBad_ge : ∀ (l : List Int) (i : Int), 0 ≤ i → (firstBad l i = -1 ∧ l.all isC = true) ∨ (i ≤ firstBad l i ∧ l.all isC = false)
  | [], _, _ => .inl ⟨rfl, rfl⟩
  | c :: l, i, h => by
    simp only [firstBad]
    cases hc : isC c with
    | true =>
      rcases firstBad_ge l (i + 1) (by omega) with ⟨h1, h2⟩ | ⟨h1, h2⟩
      · left; simp [h1, hc, h2]
      · right; simp [hc, h2]; omega
    | false => right; simp [hc]
theorem l_slices_IndexFunc_int_int_0 : LoopOK E_slices_IndexFunc_int_int 0 (loopAt (bodyOf Try.f135) 0) L_slices_IndexFunc_int_int_0 := I_slices_IndexFunc_int_int_0 <| by
  intro t0 t7 t8 K hp ho
  obtain ⟨rfl, h2, h3, h4⟩ := hp
  rw [show big = 1125899906842624 by unfold big; decide] at h4
  unfold B_slices_IndexFunc_int_int_0
  unfold o_slices_IndexFunc_int_int_0 at ho ⊢
  simp only [condP_iff, decide_eq_true_eq, decide_eq_false_iff_not] at ho ⊢
  obtain ⟨n, rfl⟩ := Int.eq_ofNat_of_zero_le h2
  have e1 : ((n : Int) + 1).toNat = n + 1 := by omega
  refine ⟨fun hlt => ?_, fun hge => ?_⟩
  · have hd : t0.drop ((n : Int)).toNat = t0.getD n 0 :: t0.drop (n + 1) := by
      rw [Int.toNat_natCast, List.drop_eq_getElem_cons (by omega), List.getD_eq_getElem?_getD, List.getElem?_eq_getElem (by omega : n < t0.length)]; rfl
    rw [hd] at ho
    simp only [firstBad] at ho
    rw [i64w (by omega), e1]
    refine ⟨h2, hlt, trivial, fun hb => ?_, fun hb => ?_⟩
    · have hb : isC (t0.getD n 0) = false := by simpa using hb
      rw [hb] at ho
      simp only [Bool.false_eq_true, if_false] at ho
      exact ho.1 h2
    · have hb : isC (t0.getD n 0) = true := by simpa using hb
      rw [hb] at ho
      simp only [if_true] at ho
      exact ⟨⟨rfl, by omega, by omega, by unfold big; omega⟩, by unfold m_slices_IndexFunc_int_int_0; omega, ho⟩
  · have hd : t0.drop ((n : Int)).toNat = [] := List.drop_eq_nil_of_le (by omega)
    rw [hd] at ho
    exact ho.2 (by simp [firstBad])
theorem ok_slices_IndexFunc_int_int : SumOK Try.prog 135 S_slices_IndexFunc_int_int := by
  refine whole_slices_IndexFunc_int_int ok_core_isCell_1 l_slices_IndexFunc_int_int_0 ?_
  intro a0 a1 hp
  unfold W_slices_IndexFunc_int_int p_slices_IndexFunc_int_int_0
  simp only [condP_iff, decide_eq_true_eq, decide_eq_false_iff_not, List.drop_zero, Int.toNat_zero]
  have hp : (a0.length : Int) ≤ big := hp
  refine ⟨⟨trivial, by omega, by omega, hp⟩, fun _ => ⟨trivial, trivial⟩, fun h => ⟨?_, trivial⟩⟩
  rcases firstBad_ge a0 0 (Int.le_refl _) with ⟨h1, _⟩ | ⟨h1, _⟩
  · exact h1.symm
  · exact (h h1).elim
theorem ok_core_isCell : SumOK Try.prog 110 S_core_isCell := by
  refine whole_core_isCell ok_core_isCell_1 ok_slices_IndexFunc_int_int ?_
  intro a0 hp
  unfold W_core_isCell
  have hp : (a0.length : Int) ≤ big := hp
  rcases firstBad_ge a0 0 (Int.le_refl _) with ⟨h1, h2⟩ | ⟨h1, h2⟩
  · simp [h1, h2, hp]
  · simp [h1, h2, hp]
theorem ok_R_Core_Knows : SumOK Try.prog 109 S_R_Core_Knows := by
  refine whole_R_Core_Knows ?_
  intro a0 a1 _
  unfold W_R_Core_Knows knB ps ps0
  by_cases h : 1 ≤ a1
  · by_cases h2 : a1 ≤ 16
    · simp [h, h2]; omega
    · simp [h, h2]
  · simp [h]
theorem ok_core_New : SumOK Try.prog 55 S_core_New := by
  refine whole_core_New ?_
  intro a0 _
  unfold W_core_New newC
  simp only [condP_iff]
  by_cases h : 1 ≤ a0 ∧ a0 ≤ 1000000
  · simp [h]
  · simp [h]
theorem ok_core_Core_Record : SumOK Try.prog 57 S_core_Core_Record := by
  refine whole_core_Core_Record ?_
  intro a0 a1 _
  obtain ⟨u, m, gs, ⟨⟩⟩ := a0
  unfold W_core_Core_Record recC per
  simp only [condP_iff, setO_getD]
  cases hg : (getO m a1).getD none with
  | none => simp
  | some p =>
    have hne : getO m a1 ≠ none := fun e => by rw [e] at hg; cases hg
    have hs : setO m a1 (some p) = m := by rw [← hg]; exact setO_getD m a1
    simp [hne, hs]
theorem ok_core_Core_Join : SumOK Try.prog 61 S_core_Core_Join := by
  refine whole_core_Core_Join ?_
  intro a0 a1 a2 hp
  obtain ⟨u, m, gs, ⟨⟩⟩ := a0
  have hp : m.isSome = true := hp
  have hset : ∀ (a b : Option PR), setO (putO m a1 a) a1 b = putO m a1 b := fun a b => by cases m <;> simp [setO, putO, setE_putE]
  unfold W_core_Core_Join joinC per
  have hr : (if (if (if decide (a1 < 1) = true then true else decide (a1 > 16)) = true then true else decide (a2 < 0)) = true then true else decide (a2 > 1000000000)) = decide (a1 < 1 ∨ 16 < a1 ∨ a2 < 0 ∨ 1000000000 < a2) := by
    by_cases h1 : a1 < 1 <;> by_cases h2 : 16 < a1 <;> by_cases h3 : a2 < 0 <;> simp [h1, h2, h3]
  simp only [condP_iff, setO_getD, hr, hset]
  by_cases h : a1 < 1 ∨ 16 < a1 ∨ a2 < 0 ∨ 1000000000 < a2
  · simp [h]
  · cases hg : (getO m a1).getD none with
    | none => simp [h, hp]
    | some p =>
      have hne : getO m a1 ≠ none := fun e => by rw [e] at hg; cases hg
      simp [h, hne]
theorem big0 : (0 : Int) ≤ big := by unfold big; decide
theorem big2 : (2 : Int) ≤ big := by unfold big; decide
theorem len1 (x : Int) : ((List.length [x] : Nat) : Int) ≤ big := by
  have := big2
  simp only [List.length_cons, List.length_nil]; omega
theorem ok_core_Core_Attach : SumOK Try.prog 62 S_core_Core_Attach := by
  refine whole_core_Core_Attach ok_core_isCell ?_
  intro a0 a1 a2 hp
  obtain ⟨u, m, gs, ⟨⟩⟩ := a0
  unfold W_core_Core_Attach attC moveC per
  simp only [condP_iff, setO_getD, len1]
  cases hg : (getO m a1).getD none with
  | none => simp
  | some p =>
    obtain ⟨st, cl, rc, ⟨⟩⟩ := p
    have hne : getO m a1 ≠ none := fun e => by rw [e] at hg; cases hg
    have hs : setO m a1 (some (st, cl, rc, ())) = m := by rw [← hg]; exact setO_getD m a1
    cases hc : isC a2 with
    | false => simp [hne, hc, hs]
    | true =>
      by_cases h0 : st = 0
      · simp [hne, hc, hs, h0]
      · simp [hne, hc, hs, h0]
theorem ok_core_Core_Wake : SumOK Try.prog 103 S_core_Core_Wake := by
  refine whole_core_Core_Wake ok_core_isCell ?_
  intro a0 a1 a2 hp
  obtain ⟨u, m, gs, ⟨⟩⟩ := a0
  unfold W_core_Core_Wake wakC moveC per
  simp only [condP_iff, setO_getD, len1]
  cases hg : (getO m a1).getD none with
  | none => simp
  | some p =>
    obtain ⟨st, cl, rc, ⟨⟩⟩ := p
    have hne : getO m a1 ≠ none := fun e => by rw [e] at hg; cases hg
    have hs : setO m a1 (some (st, cl, rc, ())) = m := by rw [← hg]; exact setO_getD m a1
    cases hc : isC a2 with
    | false => simp [hne, hc, hs]
    | true =>
      by_cases h0 : st = 2
      · simp [hne, hc, hs, h0]
      · simp [hne, hc, hs, h0]
theorem ok_core_Core_Hand : SumOK Try.prog 105 S_core_Core_Hand := by
  refine whole_core_Core_Hand ok_core_isCell ?_
  intro a0 a1 a2 a3 hp
  obtain ⟨u, m, gs, ⟨⟩⟩ := a0
  have hl : ((List.length [a2, a3] : Nat) : Int) ≤ big := by
    have := big2
    simp only [List.length_cons, List.length_nil]; omega
  unfold W_core_Core_Hand hanC moveC per
  simp only [condP_iff, setO_getD, hl]
  cases hg : (getO m a1).getD none with
  | none => simp
  | some p =>
    obtain ⟨st, cl, rc, ⟨⟩⟩ := p
    have hne : getO m a1 ≠ none := fun e => by rw [e] at hg; cases hg
    have hs : setO m a1 (some (st, cl, rc, ())) = m := by rw [← hg]; exact setO_getD m a1
    cases hc : List.all [a2, a3] isC with
    | false => simp only [List.all_cons, List.all_nil, Bool.and_true] at hc; simp [hne, hc, hs]
    | true =>
      simp only [List.all_cons, List.all_nil, Bool.and_true] at hc
      by_cases h0 : st = 1
      · by_cases h1 : cl = a2
        · simp [hne, hc, hs, h0, h1]
        · simp [hne, hc, hs, h0, h1]
      · simp [hne, hc, hs, h0]
theorem ok_core_Core_Sleep : SumOK Try.prog 101 S_core_Core_Sleep := by
  refine whole_core_Core_Sleep ok_core_isCell ?_
  intro a0 a1 _
  obtain ⟨u, m, gs, ⟨⟩⟩ := a0
  have hl : ((List.length (@List.nil Int) : Nat) : Int) ≤ big := by unfold big; decide
  unfold W_core_Core_Sleep slpC moveC per
  simp only [condP_iff, setO_getD, hl]
  cases hg : (getO m a1).getD none with
  | none => simp
  | some p =>
    obtain ⟨st, cl, rc, ⟨⟩⟩ := p
    have hne : getO m a1 ≠ none := fun e => by rw [e] at hg; cases hg
    have hs : setO m a1 (some (st, cl, rc, ())) = m := by rw [← hg]; exact setO_getD m a1
    have hb := big0
    by_cases h0 : st = 1
    · subst h0; simp [hne, hs, hg, hb]
    · simp [hne, hs, hg, h0, hb]
theorem lesser_min (a b : Int) : lesser false a b = if b < a then b else a := rfl
theorem ok_core_Core_Lend : SumOK Try.prog 63 S_core_Core_Lend := by
  refine whole_core_Core_Lend ?_
  intro a0 a1 hp
  obtain ⟨u, m, gs, ⟨⟩⟩ := a0
  have hp : (gs.length + 1) * 8 ≤ 140737488355328 := hp
  unfold W_core_Core_Lend lenC lendN per
  simp only [condP_iff, setO_getD, lesser_min]
  cases hg : (getO m a1).getD none with
  | none => simp
  | some p =>
    obtain ⟨st, cl, ⟨lf, lt, ch, ⟨⟩⟩, ⟨⟩⟩ := p
    have hne : getO m a1 ≠ none := fun e => by rw [e] at hg; cases hg
    have hs : setO m a1 (some (st, cl, (lf, lt, ch, ()), ())) = m := by rw [← hg]; exact setO_getD m a1
    by_cases h1 : st = 1
    · by_cases h2 : lf = 0
      · subst h1; subst h2; simp [hne, hs]
      · subst h1
        simp [hne, hs, h2, w64]
        omega
    · simp [hne, hs, h1]
theorem l_core_Core_Page_1 : LoopOK E_core_Core_Page 1 (loopAt (bodyOf Try.f59) 1) L_core_Core_Page_1 := I_core_Core_Page_1 <| by
  intro t8 r0 r1 K hp ho
  have hp : r1.length ≤ 8 := hp
  unfold B_core_Core_Page_1
  unfold o_core_Core_Page_1 at ho ⊢
  simp only [condP_iff]
  refine ⟨fun _ => len1 _, fun h => ?_, fun h => ?_⟩
  · by_cases h1 : (r1.length : Int) < 8
    · have hc : isC t8 = true := by simpa [h1] using h
      have e : 8 - r1.length = (8 - (r1 ++ [t8]).length) + 1 := by simp; omega
      rw [e] at ho
      simp only [pgL, hc, if_true] at ho
      refine ⟨by simp; omega, by show (r1 ++ [t8]).length ≤ 8; simp; omega, by unfold m_core_Core_Page_1; simp; omega, ?_⟩
      have : r1 ++ t8 :: pgL (8 - (r1 ++ [t8]).length) (w64 (t8 + 1)) = (r1 ++ [t8]) ++ pgL (8 - (r1 ++ [t8]).length) (w64 (t8 + 1)) := by simp
      rw [this] at ho
      exact ho
    · simp [h1] at h
  · by_cases h1 : (r1.length : Int) < 8
    · have hc : isC t8 = false := by simpa [h1] using h
      have e : 8 - r1.length = (7 - r1.length) + 1 := by omega
      rw [e] at ho
      simpa [pgL, hc] using ho
    · have e : 8 - r1.length = 0 := by omega
      rw [e] at ho
      simpa [pgL] using ho
theorem ok_core_Core_Page : SumOK Try.prog 59 S_core_Core_Page := by
  refine whole_core_Core_Page ok_core_isCell l_core_Core_Page_1 ?_
  intro a0 a1 _
  obtain ⟨u, m, gs, ⟨⟩⟩ := a0
  unfold W_core_Core_Page pagC p_core_Core_Page_1 per
  simp only [condP_iff, setO_getD]
  cases hg : (getO m a1).getD none with
  | none => simp
  | some p =>
    obtain ⟨st, cl, rc, ⟨⟩⟩ := p
    have hne : getO m a1 ≠ none := fun e => by rw [e] at hg; cases hg
    have hs : setO m a1 (some (st, cl, rc, ())) = m := by rw [← hg]; exact setO_getD m a1
    by_cases h0 : st = 0
    · subst h0; simp [hne, hs]
    · by_cases h1 : st = 1
      · subst h1; simp [hne, hs]
      · simp [hne, hs, h0, h1, pgStart, w64]
end Go.Spec
