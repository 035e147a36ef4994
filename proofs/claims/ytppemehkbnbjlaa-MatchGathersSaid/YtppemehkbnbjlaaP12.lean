/- The law of a buffer. -/
import Derived.Test.YtppemehkbnbjlaaP11
set_option linter.unusedVariables false
set_option linter.unusedSimpArgs false
namespace Go.Spec
open Go Go.Lift Go.Proofs
attribute [local irreducible] Go.Lift.awp Go.Lift.LoopOK Go.Lift.SumOK
theorem l_law_MatchGathers_2 : LoopOK E_law_MatchGathers 2 (loopAt (bodyOf Try.f4) 2) L_law_MatchGathers_2 := I_law_MatchGathers_2 <| by
  intro t0 t1 t8 t9 t12 r0 r1 r2 r3 K hp ho
  obtain ⟨h1, h2, h3, h4, h5, h6, h7⟩ := hp
  obtain ⟨n, rfl⟩ := Int.eq_ofNat_of_zero_le h3
  unfold B_law_MatchGathers_2
  unfold o_law_MatchGathers_2 at ho ⊢
  refine condP_iff.2 ⟨fun hlt => ?_, fun hge => ?_⟩
  · have hlt : (n : Int) < (r3.length : Int) := of_decide_eq_true hlt
    have hn : n < r3.length := by omega
    have hr := h7 _ (getD_mem hn)
    have hsa : (t1.getD t8.toNat ([], 0, ())).1 = softAt t1 t8 := rfl
    have ew : IntKind.wrap .i64 ((n : Int) + 1) = ((n + 1 : Nat) : Int) := by rw [i64w (by omega)]; omega
    rw [ew, hsa]
    rw [Int.toNat_natCast, drop_cons r3 n 0 hn, drop_cons (softAt t1 t8) n 0 (by omega), addP] at ho
    simp only [Int.toNat_natCast] at ho ⊢
    have hl : (n : Int) < ((softAt t1 t8).length : Int) := by omega
    refine ⟨h3, hlt, hr.1, hr.2, h1, h2, h3, hl, hr.1, hr.2, ⟨h1, h2, by omega, by omega, h5, h6, ?_⟩, by unfold m_law_MatchGathers_2; omega, ho⟩
    intro x hx
    simpa using h7 x hx
  · have hge : ¬ (n : Int) < (r3.length : Int) := of_decide_eq_false hge
    rw [Int.toNat_natCast, List.drop_eq_nil_of_le (show r3.length ≤ n by omega), List.drop_eq_nil_of_le (show (softAt t1 t8).length ≤ n by omega)] at ho
    simpa [addP] using ho
theorem l_law_MatchGathers_0 : LoopOK E_law_MatchGathers 0 (loopAt (bodyOf Try.f4) 0) L_law_MatchGathers_0 := I_law_MatchGathers_0 <| by
  intro t0 t1 t8 r0 r1 K hp ho
  obtain ⟨h1, h2, hh, h3, h4, rfl, rfl⟩ := hp
  unfold B_law_MatchGathers_0
  unfold o_law_MatchGathers_0 at ho ⊢
  simp only [Option.getD_some]
  refine condP_iff.2 ⟨fun hlt => ?_, fun _ => ho⟩
  have hlt : t8 < (t1.length : Int) := of_decide_eq_true hlt
  have hb := hh.1
  rw [big_val] at hb
  have hs : ((t1.getD t8.toNat ([], 0, ())).1.length : Int) ≤ big := by
    have hi : t8.toNat < t1.length := by omega
    rw [List.getD_eq_getElem?_getD, List.getElem?_eq_getElem hi, Option.getD_some]
    exact hh.2 _ (List.getElem_mem hi)
  have hsa : softAt t1 t8 = (t1.getD t8.toNat ([], 0, ())).1 := rfl
  have hpick : ∀ a : Int, p_law_MatchGathers_2 (r1.length : Int) t1 t8 0 0 (some (r1, ())) r1 r1 (pickedL (r1.length : Int) a (softAt t1 t8).length) ↔ (softAt t1 t8).length ≤ 4096 := fun a => by
    unfold p_law_MatchGathers_2
    rw [picked_length]
    refine ⟨fun h => h.2.2.2.2.1, fun h => ⟨h3, hlt, Int.le_refl _, Int.natCast_nonneg _, h, rfl, fun x hx => ?_⟩⟩
    obtain ⟨i, hi, rfl⟩ := List.getElem_of_mem hx
    rw [picked_length] at hi
    have := picked_range (n := (r1.length : Int)) (a := a) (by omega) hi
    rw [List.getD_eq_getElem?_getD, List.getElem?_eq_getElem (by rw [picked_length]; exact hi), Option.getD_some] at this
    exact this
  rw [hsa] at hpick ⊢
  rw [i64w (n := t8 + 1) (by omega)]
  generalize t1.getD t8.toNat ([], 0, ()) = u at hs hpick ⊢
  obtain ⟨s, v, ⟨⟩⟩ := u
  have hs : (s.length : Int) ≤ big := hs
  have hpick : ∀ a : Int, p_law_MatchGathers_2 (r1.length : Int) t1 t8 0 0 (some (r1, ())) r1 r1 (pickedL (r1.length : Int) a s.length) ↔ s.length ≤ 4096 := hpick
  have hnext : ∀ r : List Int, r.length = r1.length → p_law_MatchGathers_0 (r1.length : Int) t1 (t8 + 1) (some (r, ())) r ∧ m_law_MatchGathers_0 (r1.length : Int) t1 (t8 + 1) (some (r, ())) r < m_law_MatchGathers_0 (r1.length : Int) t1 t8 (some (r1, ())) r1 ∧ X_law_MatchGathers_0_1 K :=
    fun r hr => ⟨⟨h1, h2, hh, by omega, by omega, rfl, by omega⟩, by unfold m_law_MatchGathers_0; omega, ho⟩
  have hff : ∀ w : Int, (w != w) = false := fun w => by simp
  have hr1 : r1.length ≤ 4096 := by omega
  have hrb : (r1.length : Int) ≤ big := by rw [big_val]; omega
  refine ⟨by omega, h3, hlt, hs, fun _ => h3, fun _ => hlt, fun _ => h3, fun _ => hlt, fun _ => trivial, condP_iff.2 ⟨fun hc => ?_, fun hc => ?_⟩⟩
  · have hbad : (beginOf r1.length v).2 ≠ 0 ∨ softB s = false ∨ 4096 < s.length := by
      cases h2 : softB s with
      | false => exact .inr (.inl rfl)
      | true =>
        by_cases h3 : 4096 < s.length
        · exact .inr (.inr h3)
        · left
          intro hz
          obtain ⟨_, _, b3, b4⟩ := begin_zero.1 hz
          have hv : versionB v = true := by unfold versionB; simp; omega
          simp [h2, hv] at hc
          omega
    have e : addErr r1 s v = 1 := by unfold addErr; rw [if_pos hbad]
    have f : addOf r1 s v = r1 := by unfold addOf; rw [e, if_neg (by decide)]
    simp only [e, f]
    exact condP_iff.2 ⟨fun _ => ⟨h3, hlt, h3, hlt, rfl, ⟨hr1, hs⟩, hff 1, hff 1, hr1, hff 1, hff 1, hrb, hff 1, condP_iff.2 ⟨fun hx => absurd hx (by simp), fun _ => hnext r1 rfl⟩⟩, fun hx => absurd hx (by simp)⟩
  · have hgood : softB s = true ∧ s.length ≤ 4096 ∧ 0 ≤ v ∧ v ≤ 3 := by
      cases h2 : softB s with
      | false => simp [h2] at hc
      | true =>
        by_cases h3 : 4096 < s.length
        · simp [h2, h3] at hc; omega
        · cases h4 : versionB v with
          | false => simp [h4] at hc
          | true => have : 0 ≤ v ∧ v ≤ 3 := by simpa [versionB] using h4
                    exact ⟨rfl, by omega, this⟩
    obtain ⟨c1, c2, c3, c4⟩ := hgood
    obtain ⟨g0, g1, g2, _⟩ := begin_eq (n := (r1.length : Int)) (v := v) ⟨by omega, by omega, c3, c4⟩
    have hif : ¬ ((beginOf r1.length v).2 ≠ 0 ∨ softB s = false ∨ 4096 < s.length) := by rw [g0, c1]; simp; omega
    have eL : addP r1 (pickedL (r1.length : Int) (beginOf (r1.length : Int) v).1 s.length) s = addL r1 s v := rfl
    simp only [Int.toNat_natCast, List.drop_zero, eL]
    have hLl : (addL r1 s v).length = r1.length := addP_length _ _ _
    refine ⟨h3, hlt, h3, hlt, ⟨h1, h2, c3, c4, Int.natCast_nonneg _, by omega⟩, (hpick _).2 c2, by rw [hLl]; exact hrb, condP_iff.2 ⟨fun hx => ?_, fun hx => ?_⟩⟩
    · have hx : softB (addL r1 s v) = false := by simpa using hx
      have e : addErr r1 s v = 2 := by unfold addErr; rw [if_neg hif, hx]; rfl
      have f : addOf r1 s v = r1 := by unfold addOf; rw [e, if_neg (by decide)]
      simp only [e, f]
      exact condP_iff.2 ⟨fun _ => ⟨h3, hlt, h3, hlt, rfl, ⟨hr1, hs⟩, hff 2, hff 2, hr1, hff 2, hff 2, hrb, hff 2, condP_iff.2 ⟨fun hx => absurd hx (by simp), fun _ => hnext r1 rfl⟩⟩, fun hx => absurd hx (by simp)⟩
    · have hx : softB (addL r1 s v) = true := by simpa using hx
      have e : addErr r1 s v = 0 := by unfold addErr; rw [if_neg hif, if_pos hx]
      have f : addOf r1 s v = addL r1 s v := by unfold addOf; rw [e, if_pos rfl]
      simp only [e, f]
      exact condP_iff.2 ⟨fun _ => ⟨h3, hlt, h3, hlt, rfl, ⟨hr1, hs⟩, hff 0, hff 0, by rw [hLl]; exact hr1, hff 0, hff 0, by rw [hLl]; exact hrb, hff 0, condP_iff.2 ⟨fun hx => absurd hx (by simp), fun _ => hnext _ hLl⟩⟩, fun hx => absurd hx (by simp)⟩
theorem ok_law_MatchGathers : SumOK Try.prog 4 S_law_MatchGathers := by
  refine whole_law_MatchGathers ok_match_New ok_R_Soft ok_R_Version ok_R_Picked ok_match_Buffer_Add ok_match_Buffer_Soft ok_R_SameInts l_law_MatchGathers_0 l_law_MatchGathers_2 ?_
  intro a0 a1 hp
  unfold W_law_MatchGathers
  by_cases h : 1 ≤ a0 ∧ a0 ≤ 4096
  · have e : (if decide (a0 < 1) = true then true else decide (a0 > 4096)) = false := by simp; omega
    rw [e, if_pos h, if_pos h]
    exact ⟨trivial, condP_iff.2 ⟨fun hx => (by cases hx), fun _ => condP_iff.2 ⟨fun hx => absurd hx (by decide), fun _ => ⟨by omega, Int.le_refl _, by omega, ⟨h.1, h.2, hp, Int.le_refl _, Int.natCast_nonneg _, rfl, by simp; omega⟩, rfl, trivial⟩⟩⟩⟩
  · have e : (if decide (a0 < 1) = true then true else decide (a0 > 4096)) = true := by simp; omega
    rw [e, if_neg h, if_neg h]
    exact ⟨trivial, condP_iff.2 ⟨fun _ => ⟨by simp, trivial⟩, fun hx => (by cases hx)⟩⟩
theorem pre_law_MatchGathers (x : dens S_law_MatchGathers.par) (h : wfs S_law_MatchGathers.par x) : S_law_MatchGathers.pre x := by
  obtain ⟨a0, a1, ⟨⟩⟩ := x
  obtain ⟨_, ⟨h1, h2, _⟩, _⟩ := h
  have h1 : (List.length a1 : Int) ≤ 140737488351232 := h1
  refine ⟨by rw [big_val]; show (List.length a1 : Int) ≤ _; omega, fun y hy => ?_⟩
  have h3 : (List.length y.1 : Int) ≤ 140737488351232 := (h2 y hy).1.1
  rw [big_val]; omega
end Go.Spec
