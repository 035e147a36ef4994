/- Bits as points: the walks, first part. -/
import Derived.Test.YtfjoackkcflbkaaV8
import Derived.Test.YtfjoackkcflbkaaP8
set_option linter.unusedVariables false
set_option linter.unusedSimpArgs false
namespace Go.Spec
open Go Go.Lift Go.Proofs
attribute [local irreducible] Go.Lift.awp Go.Lift.LoopOK Go.Lift.SumOK
theorem sgn_cases {b : List Int} (h : Bits b) (i : Nat) : sgnB b i = 1 ∨ sgnB b i = -1 := by
  unfold sgnB; rcases h.getD i with h | h <;> rw [h] <;> simp
theorem ok_wave_side_1 : SumOK Try.prog 127 S_wave_side_1 := by
  refine whole_wave_side_1 ?_
  intro a0 a1 a2 ⟨h1, h2, h3, h4, h5, h6⟩
  unfold W_wave_side_1
  have hx := Bits.getD (l := a1) h6 (a2 + 2 * a0).toNat
  rw [i64w (n := 2 * a0) (by omega), i64w (n := a2 + 2 * a0) (by omega)]
  refine ⟨by omega, by omega, ?_, rfl, rfl, trivial⟩
  unfold sgnB
  rcases hx with hx | hx <;> rw [hx] <;> decide
theorem ok_wave_side : SumOK Try.prog 116 S_wave_side := by
  refine whole_wave_side ok_wave_side_1 ?_
  intro a0 a1 ⟨h1, h2, h3, h4⟩
  unfold W_wave_side
  obtain ⟨a, rfl⟩ := Int.eq_ofNat_of_zero_le h3
  have e0 : (((a : Nat) : Int) + 2 * 0).toNat = a := by omega
  have e1 : (((a : Nat) : Int) + 2 * 1).toNat = a + 2 := by omega
  have e2 : (((a : Nat) : Int) + 2 * 2).toNat = a + 4 := by omega
  rw [e0, e1, e2, Int.toNat_natCast]
  have g0 := sgn_cases h1 a
  have g1 := sgn_cases h1 (a + 2)
  have g2 := sgn_cases h1 (a + 4)
  simp only [condP_iff, beq_iff_eq, beq_eq_false_iff_ne, ne_eq]
  unfold sideL
  generalize sgnB a0 a = x at *
  generalize sgnB a0 (a + 2) = y at *
  generalize sgnB a0 (a + 4) = z at *
  refine ⟨fun hl => ⟨⟨by decide, by decide, h3, h4, by omega, h1⟩, by rw [if_pos (by omega)], trivial⟩, fun hl => ⟨fun hl4 => ?_, fun hl4 => ?_⟩⟩
  · refine ⟨⟨by decide, by decide, h3, h4, by omega, h1⟩, ⟨by decide, by decide, h3, h4, by omega, h1⟩, ?_, trivial⟩
    rw [if_neg (by omega), if_pos (by omega)]
    rcases g0 with rfl | rfl <;> rcases g1 with rfl | rfl <;> decide
  · refine ⟨⟨by decide, by decide, h3, h4, by omega, h1⟩, ⟨by decide, by decide, h3, h4, by omega, h1⟩, ⟨by decide, by decide, h3, h4, by omega, h1⟩, ?_, trivial⟩
    rw [if_neg (by omega), if_neg (by omega)]
    rcases g0 with rfl | rfl <;> rcases g1 with rfl | rfl <;> rcases g2 with rfl | rfl <;> decide
theorem ok_wave_good : SumOK Try.prog 75 S_wave_good := by
  refine whole_wave_good ?_
  intro a0 _
  unfold W_wave_good orderB
  refine ⟨?_, trivial⟩
  cases (a0 == 2) <;> cases (a0 == 4) <;> cases (a0 == 6) <;> rfl
theorem ok_wave_point : SumOK Try.prog 76 S_wave_point := by
  refine whole_wave_point ok_wave_side ?_
  intro a0 ⟨h1, h2⟩
  exact ⟨⟨h1, h2, by decide, by decide⟩, ⟨h1, h2, by decide, by decide⟩, rfl, trivial⟩
end Go.Spec
