/- Bits as points: the walks, sixth part: the nearest, and what the references answer. -/
import Derived.Test.YtfjoackkcflbkaaP16
set_option linter.unusedVariables false
set_option linter.unusedSimpArgs false
namespace Go.Spec
open Go Go.Lift Go.Proofs
attribute [local irreducible] Go.Lift.awp Go.Lift.LoopOK Go.Lift.SumOK
theorem len4096 {n k : Nat} (hk : k = 2 ∨ k = 4 ∨ k = 6) (hl : (n : Int) * (k : Int) ≤ 4096) : (n : Int) ≤ 4096 := by rcases hk with rfl | rfl | rfl <;> omega
theorem l_wave_Near_0 : LoopOK E_wave_Near 0 (loopAt (bodyOf Try.f19) 0) L_wave_Near_0 := I_wave_Near_0 <| by
  intro t1 t17 t18 t19 r0 K hp ho
  obtain ⟨hb, rfl, h1, h2, h3⟩ := hp
  obtain ⟨hg, hl, hall⟩ := hearB_spec.1 hb
  obtain ⟨k, rfl, hk⟩ := goodO_nat hg
  obtain ⟨n, rfl⟩ := Int.eq_ofNat_of_zero_le h1
  have e : ((n : Int) + 1).toNat = n + 1 := by omega
  have hln := len4096 hk hl
  have hp2 := pow_le hk
  unfold B_wave_Near_0
  unfold o_wave_Near_0 at ho ⊢
  rw [pow_wrap hk]
  simp only [Int.toNat_natCast, i64w (n := (n : Int) + 1) (by omega), e, List.append_eq] at ho ⊢
  rw [condP_iff]
  simp only [decide_eq_true_eq, decide_eq_false_iff_not]
  refine ⟨fun hlt => ?_, fun hge => ?_⟩
  · have hin : hearIn t17 k t17.length n r0 (t17.getD n (0, 0, ())) := ⟨⟨hb, rfl, h1, h2, h3⟩, hlt, by rw [Int.toNat_natCast]⟩
    have hbest := bestN_lt (p := t17.getD n (0, 0, ())) k (2 ^ k)
    have hol := outS_length k (bestN (t17.getD n (0, 0, ())) k (2 ^ k)).2
    have hr : (r0.length : Int) ≤ 4096 * 6 := by rcases hk with rfl | rfl | rfl <;> omega
    refine ⟨h1, hlt, by omega, ⟨hin, by rw [Int.toNat_natCast], by decide, by omega, rfl, rfl⟩, ⟨by omega, by omega, by omega, by omega⟩, by omega, ⟨hb, rfl, by omega, by omega, ?_⟩, by unfold m_wave_Near_0; omega, ?_⟩
    · rw [List.length_append, hol]; rcases hk with rfl | rfl | rfl <;> omega
    · rw [nearL_cons (by omega)] at ho
      rw [List.append_assoc]; exact ho
  · rw [nearL_end (by omega), List.append_nil] at ho; exact ho
theorem l_wave_Near_2 : LoopOK E_wave_Near 2 (loopAt (bodyOf Try.f19) 2) L_wave_Near_2 := I_wave_Near_2 <| by
  intro t1 t9 t10 t17 t18 t19 t24 t25 r0 r1 K hp ho
  obtain ⟨hin, rfl, h1, h2, rfl, rfl⟩ := hp
  obtain ⟨hg, hl, hall⟩ := hearB_spec.1 hin.1.1
  obtain ⟨k, rfl, hk⟩ := goodO_nat hg
  obtain ⟨n, rfl⟩ := Int.eq_ofNat_of_zero_le h1
  have e : ((n : Int) + 1).toNat = n + 1 := by omega
  have hp2 := pow_le hk
  have hok := hearIn_ok hin
  rw [Int.toNat_natCast] at h2
  unfold B_wave_Near_2
  unfold o_wave_Near_2 at ho ⊢
  simp only [Int.toNat_natCast, i64w (n := (n : Int) + 1) (by omega), e] at ho ⊢
  rw [condP_iff, condP_iff]
  simp only [decide_eq_true_eq, decide_eq_false_iff_not]
  have hlen := outS_length k n
  have hm : m_wave_Near_2 k (bestN r1 k n).1 (bestN r1 k n).2 t17 t18 t19 ((2 ^ k : Nat) : Int) n r0 r1 = 2 ^ k - n := by unfold m_wave_Near_2; omega
  refine ⟨fun hlt => ⟨⟨by omega, by omega, by omega, by omega⟩, ⟨outS_bits k n, by omega⟩, ⟨hok, okPt_pointL (outS_bits k n)⟩, fun hf => ⟨⟨hin, by rw [Int.toNat_natCast], by omega, by omega, ?_, ?_⟩, by unfold m_wave_Near_2 at *; omega, ho⟩, fun hf => ⟨⟨hin, by rw [Int.toNat_natCast], by omega, by omega, ?_, ?_⟩, by unfold m_wave_Near_2 at *; omega, ho⟩⟩, fun hge => ?_⟩
  · simp only [Int.toNat_natCast, e, bestN]; rw [if_pos hf]
  · simp only [Int.toNat_natCast, e, bestN]; rw [if_pos hf]
  · simp only [Int.toNat_natCast, e, bestN]; rw [if_neg hf]
  · simp only [Int.toNat_natCast, e, bestN]; rw [if_neg hf]
  · have : n = 2 ^ k := by omega
    subst this; exact ho
theorem ok_wave_Near : SumOK Try.prog 19 S_wave_Near := by
  refine whole_wave_Near ok_wave_check ok_wave_bitsOf ok_wave_point ok_wave_far l_wave_Near_0 l_wave_Near_2 ?_
  intro a0 a1 h
  unfold W_wave_Near
  refine ⟨h, ?_⟩
  rw [List.drop_zero]
  unfold heardErr
  cases hc : hearB a0 a1
  · exact (condP_t rfl).2 ⟨rfl, rfl, trivial⟩
  · exact (condP_f rfl).2 ⟨⟨hc, rfl, by decide, by omega, by simp⟩, rfl, rfl, trivial⟩
/-! the references -/
theorem l_R_Sides_0 : LoopOK E_R_Sides 0 (loopAt (bodyOf Try.f80) 0) L_R_Sides_0 := I_R_Sides_0 <| by
  intro t0 t1 t5 t6 K hp ho
  obtain ⟨hb, h1, h2, m, j, hl, hm1, hm3, hj, rfl, rfl⟩ := hp
  obtain ⟨a, rfl⟩ := Int.eq_ofNat_of_zero_le h1
  obtain ⟨i1, i2, i3, i4⟩ := inn_bd hb a m j (by omega)
  unfold B_R_Sides_0
  unfold o_R_Sides_0 at ho ⊢
  simp only [Int.toNat_natCast] at ho i1 i2 i3 i4 ⊢
  have hl' : (t0.length : Int) = 2 * m := by omega
  rw [condP_iff]
  simp only [decide_eq_true_eq, decide_eq_false_iff_not, hl']
  refine ⟨fun hge => ?_, fun hlt => ?_⟩
  · have hjm : j < m := by omega
    have hidx : IntKind.wrap IntKind.i64 (Int.tdiv (IntKind.wrap IntKind.i64 (IntKind.wrap IntKind.i64 (IntKind.wrap IntKind.i64 (2 * (m : Int) - (2 : Int)) - (2 * ((m : Int) - 1 - (j : Int)) + (a : Int))) + (a : Int))) (2 : Int)) = (j : Int) := by
      rw [i64w (n := 2 * (m : Int) - 2) (by omega), i64w (n := 2 * (m : Int) - 2 - _) (by omega), i64w (n := _ + (a : Int)) (by omega)]
      rw [show 2 * (m : Int) - 2 - (2 * ((m : Int) - 1 - (j : Int)) + (a : Int)) + (a : Int) = 2 * (j : Int) by omega, Int.tdiv_eq_ediv_of_nonneg (by omega), i64w (by omega)]
      omega
    rw [hidx]
    have hk : (2 * ((m : Int) - 1 - (j : Int)) + (a : Int)).toNat = 2 * (m - 1 - j) + a := by omega
    have hs : sgnB t0 (2 * (m - 1 - j) + a) = 1 - 2 * t0.getD (2 * (m - 1 - j) + a) 0 := rfl
    have hbit := hb.getD (2 * (m - 1 - j) + a)
    have hnext : ∀ v : Int, v = inn t0 a m (j + 1) → p_R_Sides_0 t0 a v (IntKind.wrap IntKind.i64 (2 * ((m : Int) - 1 - (j : Int)) + (a : Int) - 2)) ∧ m_R_Sides_0 t0 a v (IntKind.wrap IntKind.i64 (2 * ((m : Int) - 1 - (j : Int)) + (a : Int) - 2)) < m_R_Sides_0 t0 a (inn t0 a m j) (2 * ((m : Int) - 1 - (j : Int)) + (a : Int)) ∧ X_R_Sides_0_0 (sideL t0 a) K := by
      intro v hv
      rw [i64w (by omega)]
      refine ⟨⟨hb, h1, h2, m, j + 1, hl, hm1, hm3, by omega, by omega, by rw [Int.toNat_natCast]; exact hv⟩, by unfold m_R_Sides_0; omega, ho⟩
    have hjv : (j = 0 ∧ List.getD [(0 : Int), 2, 4] j 0 = 0) ∨ (j = 1 ∧ List.getD [(0 : Int), 2, 4] j 0 = 2) ∨ (j = 2 ∧ List.getD [(0 : Int), 2, 4] j 0 = 4) := by
      have : j = 0 ∨ j = 1 ∨ j = 2 := by omega
      rcases this with rfl | rfl | rfl <;> simp
    simp only [Int.toNat_natCast, hk]
    rw [inn, hs] at hnext
    rcases hjv with ⟨rfl, hv⟩ | ⟨rfl, hv⟩ | ⟨rfl, hv⟩ <;> rw [hv] <;> rcases hbit with hx | hx <;> rw [hx] at hnext ⊢ <;>
      simp only [condP_iff, beq_iff_eq, beq_eq_false_iff_ne, ne_eq, List.length_cons, List.length_nil] <;>
      simp (config := { decide := true }) only [true_implies, false_implies, and_true, true_and, not_true_eq_false, not_false_eq_true] <;>
      (try rw [i64w (n := (2 : Int) - inn t0 a m 1) (by have := i4 (by omega); omega)]) <;> (try rw [i64w (n := (4 : Int) - inn t0 a m 2) (by have := i3 (by omega); omega)]) <;>
      (try rw [i64w (n := (0 : Int) - ((2 : Int) - inn t0 a m 1)) (by have := i4 (by omega); omega)]) <;> (try rw [i64w (n := (0 : Int) - ((4 : Int) - inn t0 a m 2)) (by have := i3 (by omega); omega)]) <;>
      repeat' (first | (refine hnext _ ?_; first | (rw [show IntKind.wrap IntKind.i64 ((0 : Int) - 1) = -1 by decide +kernel]; simp; done) | decide | (simp; done) | (simp; omega)) | omega | refine And.intro ?_ ?_)
  · have : j = m := by omega
    subst this
    rw [inn_side hl hm1 hm3]; exact ho
theorem ok_R_Sides : SumOK Try.prog 80 S_R_Sides := by
  refine whole_R_Sides l_R_Sides_0 ?_
  intro a0 a1 ⟨h1, h2, h3, h4⟩
  unfold W_R_Sides
  obtain ⟨a, rfl⟩ := Int.eq_ofNat_of_zero_le h3
  rw [i64w (n := (a0.length : Int) - 2) (by omega), i64w (by omega)]
  refine ⟨⟨h1, h3, h4, a0.length / 2, 0, by omega, by omega, by omega, by omega, by omega, rfl⟩, ?_⟩
  exact ⟨rfl, trivial⟩
theorem ok_R_Far : SumOK Try.prog 27 S_R_Far := by
  refine whole_R_Far ?_
  intro a b ⟨ha, hb⟩
  unfold W_R_Far
  obtain ⟨a1, a2, a3, a4⟩ := okPt_spec.1 ha
  obtain ⟨b1, b2, b3, b4⟩ := okPt_spec.1 hb
  have s1 := sq_le (x := a.1 - b.1) (by omega) (by omega)
  have s2 := sq_le (x := a.2.1 - b.2.1) (by omega) (by omega)
  rw [i64w (n := a.1 - b.1) (by omega), i64w (n := a.2.1 - b.2.1) (by omega), i64w (n := (a.1 - b.1) * (a.1 - b.1)) (by omega), i64w (n := (a.2.1 - b.2.1) * (a.2.1 - b.2.1)) (by omega), i64w (by omega)]
  exact ⟨rfl, trivial⟩
end Go.Spec
