/- Bits as points: the walks, second part. -/
import Derived.Test.YtfjoackkcflbkaaP12
set_option linter.unusedVariables false
set_option linter.unusedSimpArgs false
namespace Go.Spec
open Go Go.Lift Go.Proofs
attribute [local irreducible] Go.Lift.awp Go.Lift.LoopOK Go.Lift.SumOK
theorem okPt_spec {p : Pt} : okPt p = true ↔ -1000 ≤ p.1 ∧ p.1 ≤ 1000 ∧ -1000 ≤ p.2.1 ∧ p.2.1 ≤ 1000 := by
  simp only [okPt, Bool.and_eq_true, decide_eq_true_eq, and_assoc]
theorem sq_le {x : Int} (h1 : -2000 ≤ x) (h2 : x ≤ 2000) : 0 ≤ x * x ∧ x * x ≤ 4000000 := by
  rcases Int.le_total 0 x with h | h
  · exact ⟨Int.mul_nonneg h h, Int.mul_le_mul h2 h2 h (by decide)⟩
  · have : x * x = (-x) * (-x) := by rw [Int.neg_mul_neg]
    rw [this]
    have h3 : (-x) * (-x) ≤ 2000 * 2000 := Int.mul_le_mul (by omega) (by omega) (by omega) (by decide)
    exact ⟨Int.mul_nonneg (by omega) (by omega), h3⟩
theorem far_bounds {a b : Pt} (ha : okPt a = true) (hb : okPt b = true) : 0 ≤ far a b ∧ far a b ≤ 8000000 := by
  obtain ⟨a1, a2, a3, a4⟩ := okPt_spec.1 ha
  obtain ⟨b1, b2, b3, b4⟩ := okPt_spec.1 hb
  have s1 := sq_le (x := a.1 - b.1) (by omega) (by omega)
  have s2 := sq_le (x := a.2.1 - b.2.1) (by omega) (by omega)
  unfold far
  omega
theorem ok_wave_far : SumOK Try.prog 79 S_wave_far := by
  refine whole_wave_far ?_
  intro a b ⟨ha, hb⟩
  unfold W_wave_far
  obtain ⟨a1, a2, a3, a4⟩ := okPt_spec.1 ha
  obtain ⟨b1, b2, b3, b4⟩ := okPt_spec.1 hb
  have s1 := sq_le (x := a.1 - b.1) (by omega) (by omega)
  have s2 := sq_le (x := a.2.1 - b.2.1) (by omega) (by omega)
  rw [i64w (n := a.1 - b.1) (by omega), i64w (n := a.2.1 - b.2.1) (by omega), i64w (n := (a.1 - b.1) * (a.1 - b.1)) (by omega), i64w (n := (a.2.1 - b.2.1) * (a.2.1 - b.2.1)) (by omega), i64w (by omega)]
  exact ⟨rfl, trivial⟩
theorem l_wave_bitsOf_0 : LoopOK E_wave_bitsOf 0 (loopAt (bodyOf Try.f78) 0) L_wave_bitsOf_0 := I_wave_bitsOf_0 <| by
  intro t0 t1 t10 t11 r0 K hp ho
  obtain ⟨h1, h2, rfl, h3, h4, h5, h6⟩ := hp
  obtain ⟨n, rfl⟩ := Int.eq_ofNat_of_zero_le h3
  obtain ⟨r, rfl⟩ := Int.eq_ofNat_of_zero_le h1
  obtain ⟨w, rfl⟩ := Int.eq_ofNat_of_zero_le (a := t10) (by omega)
  have e : ((n : Int) + 1).toNat = n + 1 := by omega
  unfold B_wave_bitsOf_0
  unfold o_wave_bitsOf_0 at ho ⊢
  simp only [condP_iff, decide_eq_true_eq, decide_eq_false_iff_not]
  refine ⟨fun hlt => ?_, fun hge => ?_⟩
  · have hv : IntKind.wrap IntKind.u8 (bits BinOp.and IntKind.i64 (Int.fdiv (r : Int) ((2 : Int) ^ min (Int.toNat (IntKind.wrap IntKind.i64 (IntKind.wrap IntKind.i64 ((w : Int) - (1 : Int)) - (n : Int)))) (IntKind.bits IntKind.i64))) (1 : Int)) = ((r / 2 ^ (w - 1 - n) % 2 : Nat) : Int) := by
      have hp : (2 : Int) ^ min (w - 1 - n) (IntKind.bits IntKind.i64) = ((2 ^ (w - 1 - n) : Nat) : Int) := by
        rw [show min (w - 1 - n) (IntKind.bits IntKind.i64) = w - 1 - n from Nat.min_eq_left (by show w - 1 - n ≤ 64; omega)]; simp
      rw [i64w (n := (w : Int) - 1) (by omega), i64w (n := (w : Int) - 1 - (n : Int)) (by omega), show Int.toNat ((w : Int) - 1 - (n : Int)) = w - 1 - n by omega, hp, fdiv_nat]
      have hd : r / 2 ^ (w - 1 - n) ≤ 64 := Nat.le_trans (Nat.div_le_self _ _) (by omega)
      have := bits_and_nat .i64 62 (by decide) (fun n h0 h1 => i64w (by omega)) (r / 2 ^ (w - 1 - n)) 1 (by omega) (by decide)
      rw [show ((1 : Nat) : Int) = 1 from rfl] at this
      rw [this, Nat.and_one_is_mod, IntWalk.u8_in _ (by omega)]
    rw [hv]
    simp only [Int.toNat_natCast, i64w (n := (n : Int) + 1) (by omega), i64w (n := (w : Int) - 1) (by omega), i64w (n := (w : Int) - 1 - (n : Int)) (by omega), e] at ho ⊢
    refine ⟨by omega, h3, by omega, ⟨h1, h2, rfl, by omega, by omega, h5, by rw [List.length_set]; exact h6⟩, by unfold m_wave_bitsOf_0; omega, ?_⟩
    rw [fill_step r0 (fun i => ((r / 2 ^ (w - 1 - i) % 2 : Nat) : Int)) (by omega)]; exact ho
  · simp only [Int.toNat_natCast] at ho
    rw [fill_end _ _ (by omega)] at ho; exact ho
theorem ok_wave_bitsOf : SumOK Try.prog 78 S_wave_bitsOf := by
  refine whole_wave_bitsOf l_wave_bitsOf_0 ?_
  intro a0 a1 ⟨h1, h2, h3, h4⟩
  unfold W_wave_bitsOf
  obtain ⟨w, rfl⟩ := Int.eq_ofNat_of_zero_le h3
  simp only [Int.toNat_natCast, List.length_replicate]
  refine ⟨h3, by omega, by omega, ⟨h1, h2, rfl, by decide, by omega, h4, by simp⟩, ?_, trivial⟩
  rw [fill_zero, List.length_replicate]; rfl
end Go.Spec
