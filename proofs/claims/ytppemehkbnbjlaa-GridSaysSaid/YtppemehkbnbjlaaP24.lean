/- GridSays: the program's grid answers as the document says. -/
import Derived.Test.YtppemehkbnbjlaaP23
import Derived.Test.YtppemehkbnbjlaaLF
set_option linter.unusedVariables false
set_option linter.unusedSimpArgs false
namespace Go.Spec
open Go Go.Lift Go.Proofs
attribute [local irreducible] Go.Lift.awp Go.Lift.LoopOK Go.Lift.SumOK
theorem l_law_GridSays_0 : LoopOK E_law_GridSays 0 (loopAt (bodyOf Try.f6) 0) L_law_GridSays_0 := I_law_GridSays_0 <| by
  intro t1 t2 t3 t13 t15 t17 r0 r1 r2 r3 r4 K hp ho
  obtain ⟨rfl, h1, h2, h3⟩ := hp
  have h1' := h1
  rw [bigv] at h1'
  unfold B_law_GridSays_0
  unfold o_law_GridSays_0 at ho ⊢
  by_cases hlt : t17 < (r1.length : Int)
  · rw [condP_t (by simpa using hlt)]
    refine ⟨h2, hlt, h2, hlt, ?_⟩
    rw [condP_f (by simp), w64 (by omega)]
    exact ⟨⟨rfl, h1, by omega, by omega⟩, by unfold m_law_GridSays_0; omega, ho⟩
  · rw [condP_f (by simpa using hlt)]
    exact ho
theorem ok_law_GridSays : SumOK Try.prog 6 S_law_GridSays := by
  refine whole_law_GridSays ok_R_GridError ok_grid_Places ok_grid_Check ok_grid_Lay ok_grid_Take ok_R_PlacesOf ok_law_laid ok_law_taken l_law_GridSays_0 ?_
  intro a0 a1 a2 a3 hp
  obtain ⟨hp1, hp2⟩ := hp
  have hp1 : (a1.length : Int) ≤ big := hp1
  have hp2 : (a2.length : Int) ≤ big := hp2
  unfold W_law_GridSays
  refine ⟨trivial, trivial, trivial, ?_⟩
  have hpe : (placesF a0 a3).2 = gridErr a0 := by unfold placesF; split <;> simp_all
  rw [condP_f (by simp [hpe])]
  refine ⟨hp1, hp2, ?_⟩
  by_cases he : gridErr a0 = 0
  · rw [condP_f (by simp [he])]
    have hpl : (placesF a0 a3).1 = placesR a0 a3 := by unfold placesF; rw [if_pos he]; exact places_eq he a3
    have hlen := places_len (err_gok he).1 a3
    rw [places_eq he] at hlen
    refine ⟨err_gok he, ?_⟩
    rw [hpl, condP_f (by simp)]
    exact ⟨⟨rfl, by rw [bigv]; omega, by omega, by omega⟩, ⟨he, hp1, rfl, rfl⟩, fun _ => ⟨he, hp2, rfl, rfl⟩, rfl, trivial⟩
  · rw [condP_t (by simp [he])]
    have e1 : placesF a0 a3 = ([], gridErr a0) := by unfold placesF; rw [if_neg he]
    have e2 : layG a0 a1 = ([], gridErr a0) := by unfold layG; rw [if_neg he]
    have e3 : takeG a0 a2 a3 = ([], gridErr a0) := by unfold takeG; rw [if_neg he]
    rw [e1, e2, e3]
    exact ⟨by simp, trivial⟩
theorem pre_law_GridSays (x : dens S_law_GridSays.par) (h : wfs S_law_GridSays.par x) : S_law_GridSays.pre x := by
  obtain ⟨a0, a1, a2, a3, ⟨⟩⟩ := x
  obtain ⟨_, ⟨h1, _⟩, ⟨h2, _⟩, _⟩ := h
  have h1 : (List.length a1 : Int) ≤ 140737488351232 := h1
  have h2 : (List.length a2 : Int) ≤ 140737488351232 := h2
  show (List.length a1 : Int) ≤ big ∧ (List.length a2 : Int) ≤ big
  rw [bigv]; omega
end Go.Spec
