/- The law says yes: what was taken. -/
import Derived.Test.YtppemehkbnbjlaaV13
import Derived.Test.YtppemehkbnbjlaaM23
import Derived.Test.YtppemehkbnbjlaaP21
set_option linter.unusedVariables false
set_option linter.unusedSimpArgs false
namespace Go.Spec
open Go Go.Lift Go.Proofs
attribute [local irreducible] Go.Lift.awp Go.Lift.LoopOK Go.Lift.SumOK
theorem pt_beq (a b : PT) : (a.1 == b.1 && (a.2.1 == b.2.1 && true)) = decide (a = b) := by
  obtain ⟨a1, a2, ⟨⟩⟩ := a
  obtain ⟨b1, b2, ⟨⟩⟩ := b
  rw [Bool.eq_iff_iff]; simp
theorem l_law_taken_0 : LoopOK E_law_taken 0 (loopAt (bodyOf Try.f37) 0) L_law_taken_0 := I_law_taken_0 <| by
  intro t1 t2 t3 t4 t11 t12 r0 K hp ho
  obtain ⟨hz, h1, h2, h3, rfl⟩ := hp
  have hs := sizeB_iff.1 hz
  rw [bigv] at h1
  have e1 : (t12 + 1).toNat = t12.toNat + 1 := by omega
  unfold B_law_taken_0
  unfold o_law_taken_0 at ho ⊢
  by_cases hlt : t12 < (t1.length : Int)
  · rw [condP_t (by simpa using hlt)]
    rw [w64 (n := 12 * r0.1) (by omega), w64 (n := t12 + 1) (by omega)]
    refine ⟨fun _ => h2, fun _ => hlt, ⟨hz, by rw [bigv]; omega, by omega, by omega, ?_⟩, by unfold m_law_taken_0; omega, ho⟩
    rw [e1, take_snoc t1 t12.toNat [] (by omega), List.all_append, if_and]
    simp only [List.all_cons, List.all_nil, Bool.and_true]
    rw [Bool.and_assoc]
    congr 1
  · rw [condP_f (by simpa using hlt)]
    have : t1.take t12.toNat = t1 := List.take_of_length_le (by omega)
    rw [this]
    exact ho
theorem l_law_taken_2 : LoopOK E_law_taken 2 (loopAt (bodyOf Try.f37) 2) L_law_taken_2 := I_law_taken_2 <| by
  intro t1 t3 t14 r0 K hp ho
  obtain ⟨⟨n, hr, hpl⟩, rfl, h1, h2, h3⟩ := hp
  have h3' := h3
  rw [bigv] at h3'
  unfold B_law_taken_2
  unfold o_law_taken_2 at ho ⊢
  by_cases hlt : t14 < (r0.length : Int)
  · rw [condP_t (by simpa using hlt)]
    obtain ⟨q1, q2, q3, q4⟩ := hpl _ (mem_getD pt0 (show t14.toNat < r0.length by omega))
    have hrow := getD_row hr q1 q2
    have hg : (r0.map fun p => getC t1 p.2.1 p.1).getD t14.toNat pt0 = getC t1 (r0.getD t14.toNat pt0).2.1 (r0.getD t14.toNat pt0).1 := by
      rw [List.getD_eq_getElem?_getD, List.getElem?_map, List.getD_eq_getElem?_getD, List.getElem?_eq_getElem (by omega : t14.toNat < r0.length)]; rfl
    refine ⟨h1, by rw [List.length_map]; exact hlt, h1, hlt, q1, by rw [hr.1]; exact q2, h1, hlt, q3, by rw [hrow]; exact q4, ?_⟩
    rw [condP_f, w64 (by omega)]
    · exact ⟨⟨⟨n, hr, hpl⟩, rfl, by omega, by omega, h3⟩, by unfold m_law_taken_2; omega, ho⟩
    · have := pt_beq ((r0.map fun p => getC t1 p.2.1 p.1).getD t14.toNat pt0) (getC t1 (r0.getD t14.toNat pt0).2.1 (r0.getD t14.toNat pt0).1)
      rw [decide_eq_true hg] at this
      have h9 : ((((r0.map fun p => getC t1 p.2.1 p.1).getD t14.toNat ((0 : Int), (0 : Int), ())).1 == ((t1.getD (r0.getD t14.toNat ((0 : Int), (0 : Int), ())).2.1.toNat []).getD (r0.getD t14.toNat ((0 : Int), (0 : Int), ())).1.toNat ((0 : Int), (0 : Int), ())).1) && ((((r0.map fun p => getC t1 p.2.1 p.1).getD t14.toNat ((0 : Int), (0 : Int), ())).2.1 == ((t1.getD (r0.getD t14.toNat ((0 : Int), (0 : Int), ())).2.1.toNat []).getD (r0.getD t14.toNat ((0 : Int), (0 : Int), ())).1.toNat ((0 : Int), (0 : Int), ())).2.1) && true)) = true := this
      rw [h9]; rfl
  · rw [condP_f (by simpa using hlt)]
    exact ho
theorem ok_law_taken : SumOK Try.prog 37 S_law_taken := by
  refine whole_law_taken ok_R_PlacesOf l_law_taken_0 l_law_taken_2 ?_
  intro a0 a1 a2 a3 a4 hp
  obtain ⟨he, h1, h2, h3⟩ := hp
  have he : gridErr a0 = 0 := he
  have h1 : (a1.length : Int) ≤ big := h1
  have h2 : a3 = (takeG a0 a1 a2).1 := h2
  have h3 : a4 = (takeG a0 a1 a2).2 := h3
  have hg := err_gok he
  unfold W_law_taken
  refine ⟨⟨hg.1, h1, by omega, by omega, ?_⟩, ?_⟩
  · simp only [Int.toNat_zero, List.take_zero, List.all_nil, Bool.and_true]
    rw [Bool.eq_iff_iff]; simp; omega
  · unfold takeG at h2 h3
    rw [if_pos he] at h2 h3
    by_cases hf : formRows a0 a1 = true
    · rw [condP_f (by simp [hf])]
      rw [if_pos hf] at h2 h3
      have hf' : a1.length = 14 ∧ ∀ r ∈ a1, (r.length : Int) = 12 * a0.1 := by simpa [formRows] using hf
      have ht := (tones_eq hg.1).1
      have hl := places_len hg.1 a2
      have hpl := places_ok (g := a0) a2
      rw [places_eq he] at h2 hl hpl
      refine ⟨hg, ?_⟩
      have h2' : a3 = (placesR a0 a2).map fun p => getC a1 p.2.1 p.1 := h2
      have h3' : a4 = 0 := h3
      subst h3'
      rw [condP_f (by rw [h2']; simp)]
      exact ⟨⟨⟨tones a0, ⟨hf'.1, fun r hr => by have := hf'.2 r hr; omega⟩, hpl⟩, h2', by omega, by omega, by rw [bigv]; omega⟩, rfl, trivial⟩
    · rw [condP_t (by simp [hf])]
      rw [if_neg hf] at h2 h3
      have h2' : a3 = [] := h2
      have h3' : a4 = 3 := h3
      subst h2'; subst h3'
      exact ⟨rfl, trivial⟩
end Go.Spec
