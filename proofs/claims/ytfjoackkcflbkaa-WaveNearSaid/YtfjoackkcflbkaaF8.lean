/- Lines for the functions of this seat; merged from texts of their own. -/
import Derived.Test.YtfjoackkcflbkaaV8
import Derived.Test.YtfjoackkcflbkaaP8
import Derived.Test.YtfjoackkcflbkaaP7
set_option linter.unusedVariables false
set_option linter.unusedSimpArgs false
/- Bits as points: the walks, first part. -/
namespace Go.Spec
open Go Go.Lift Go.Proofs
attribute [local irreducible] Go.Lift.awp Go.Lift.LoopOK Go.Lift.SumOK
theorem sgn_cases {b : List Int} (h : Bits b) (i : Nat) : sgnB b i = 1 ∨ sgnB b i = -1 := by
  unfold sgnB; rcases h.getD i with h | h <;> rw [h] <;> simp
theorem ok_wave_side_1 : SumOK Try.prog 127 S_wave_side_1 := by
  refine whole_wave_side_1 ?_
  intro a0 a1 a2 ⟨h1, h2, h3, h4, h5, h6⟩
  unfold W_wave_side_1
  have hx := Bits.getD (l := a1) h6 (a2 + 2 * a0).toNat
  rw [i64w (n := 2 * a0) (by omega), i64w (n := a2 + 2 * a0) (by omega)]
  refine ⟨by omega, by omega, ?_, rfl, rfl, trivial⟩
  unfold sgnB
  rcases hx with hx | hx <;> rw [hx] <;> decide
theorem ok_wave_side : SumOK Try.prog 116 S_wave_side := by
  refine whole_wave_side ok_wave_side_1 ?_
  intro a0 a1 ⟨h1, h2, h3, h4⟩
  unfold W_wave_side
  obtain ⟨a, rfl⟩ := Int.eq_ofNat_of_zero_le h3
  have e0 : (((a : Nat) : Int) + 2 * 0).toNat = a := by omega
  have e1 : (((a : Nat) : Int) + 2 * 1).toNat = a + 2 := by omega
  have e2 : (((a : Nat) : Int) + 2 * 2).toNat = a + 4 := by omega
  rw [e0, e1, e2, Int.toNat_natCast]
  have g0 := sgn_cases h1 a
  have g1 := sgn_cases h1 (a + 2)
  have g2 := sgn_cases h1 (a + 4)
  simp only [condP_iff, beq_iff_eq, beq_eq_false_iff_ne, ne_eq]
  unfold sideL
  generalize sgnB a0 a = x at *
  generalize sgnB a0 (a + 2) = y at *
  generalize sgnB a0 (a + 4) = z at *
  refine ⟨fun hl => ⟨⟨by decide, by decide, h3, h4, by omega, h1⟩, by rw [if_pos (by omega)], trivial⟩, fun hl => ⟨fun hl4 => ?_, fun hl4 => ?_⟩⟩
  · refine ⟨⟨by decide, by decide, h3, h4, by omega, h1⟩, ⟨by decide, by decide, h3, h4, by omega, h1⟩, ?_, trivial⟩
    rw [if_neg (by omega), if_pos (by omega)]
    rcases g0 with rfl | rfl <;> rcases g1 with rfl | rfl <;> decide
  · refine ⟨⟨by decide, by decide, h3, h4, by omega, h1⟩, ⟨by decide, by decide, h3, h4, by omega, h1⟩, ⟨by decide, by decide, h3, h4, by omega, h1⟩, ?_, trivial⟩
    rw [if_neg (by omega), if_neg (by omega)]
    rcases g0 with rfl | rfl <;> rcases g1 with rfl | rfl <;> rcases g2 with rfl | rfl <;> decide
theorem ok_wave_good : SumOK Try.prog 75 S_wave_good := by
  refine whole_wave_good ?_
  intro a0 _
  unfold W_wave_good orderB
  refine ⟨?_, trivial⟩
  cases (a0 == 2) <;> cases (a0 == 4) <;> cases (a0 == 6) <;> rfl
theorem ok_wave_point : SumOK Try.prog 76 S_wave_point := by
  refine whole_wave_point ok_wave_side ?_
  intro a0 ⟨h1, h2⟩
  exact ⟨⟨h1, h2, by decide, by decide⟩, ⟨h1, h2, by decide, by decide⟩, rfl, trivial⟩
end Go.Spec
/- Bits as points: the walks, second part. -/
namespace Go.Spec
open Go Go.Lift Go.Proofs
attribute [local irreducible] Go.Lift.awp Go.Lift.LoopOK Go.Lift.SumOK
theorem okPt_spec {p : Pt} : okPt p = true ↔ -1000 ≤ p.1 ∧ p.1 ≤ 1000 ∧ -1000 ≤ p.2.1 ∧ p.2.1 ≤ 1000 := by
  simp only [okPt, Bool.and_eq_true, decide_eq_true_eq, and_assoc]
theorem sq_le {x : Int} (h1 : -2000 ≤ x) (h2 : x ≤ 2000) : 0 ≤ x * x ∧ x * x ≤ 4000000 := by
  rcases Int.le_total 0 x with h | h
  · exact ⟨Int.mul_nonneg h h, Int.mul_le_mul h2 h2 h (by decide)⟩
  · have : x * x = (-x) * (-x) := by rw [Int.neg_mul_neg]
    rw [this]
    have h3 : (-x) * (-x) ≤ 2000 * 2000 := Int.mul_le_mul (by omega) (by omega) (by omega) (by decide)
    exact ⟨Int.mul_nonneg (by omega) (by omega), h3⟩
theorem far_bounds {a b : Pt} (ha : okPt a = true) (hb : okPt b = true) : 0 ≤ far a b ∧ far a b ≤ 8000000 := by
  obtain ⟨a1, a2, a3, a4⟩ := okPt_spec.1 ha
  obtain ⟨b1, b2, b3, b4⟩ := okPt_spec.1 hb
  have s1 := sq_le (x := a.1 - b.1) (by omega) (by omega)
  have s2 := sq_le (x := a.2.1 - b.2.1) (by omega) (by omega)
  unfold far
  omega
theorem ok_wave_far : SumOK Try.prog 79 S_wave_far := by
  refine whole_wave_far ?_
  intro a b ⟨ha, hb⟩
  unfold W_wave_far
  obtain ⟨a1, a2, a3, a4⟩ := okPt_spec.1 ha
  obtain ⟨b1, b2, b3, b4⟩ := okPt_spec.1 hb
  have s1 := sq_le (x := a.1 - b.1) (by omega) (by omega)
  have s2 := sq_le (x := a.2.1 - b.2.1) (by omega) (by omega)
  rw [i64w (n := a.1 - b.1) (by omega), i64w (n := a.2.1 - b.2.1) (by omega), i64w (n := (a.1 - b.1) * (a.1 - b.1)) (by omega), i64w (n := (a.2.1 - b.2.1) * (a.2.1 - b.2.1)) (by omega), i64w (by omega)]
  exact ⟨rfl, trivial⟩
theorem l_wave_bitsOf_0 : LoopOK E_wave_bitsOf 0 (loopAt (bodyOf Try.f78) 0) L_wave_bitsOf_0 := I_wave_bitsOf_0 <| by
  intro t0 t1 t10 t11 r0 K hp ho
  obtain ⟨h1, h2, rfl, h3, h4, h5, h6⟩ := hp
  obtain ⟨n, rfl⟩ := Int.eq_ofNat_of_zero_le h3
  obtain ⟨r, rfl⟩ := Int.eq_ofNat_of_zero_le h1
  obtain ⟨w, rfl⟩ := Int.eq_ofNat_of_zero_le (a := t10) (by omega)
  have e : ((n : Int) + 1).toNat = n + 1 := by omega
  unfold B_wave_bitsOf_0
  unfold o_wave_bitsOf_0 at ho ⊢
  simp only [condP_iff, decide_eq_true_eq, decide_eq_false_iff_not]
  refine ⟨fun hlt => ?_, fun hge => ?_⟩
  · have hv : IntKind.wrap IntKind.u8 (bits BinOp.and IntKind.i64 (Int.fdiv (r : Int) ((2 : Int) ^ min (Int.toNat (IntKind.wrap IntKind.i64 (IntKind.wrap IntKind.i64 ((w : Int) - (1 : Int)) - (n : Int)))) (IntKind.bits IntKind.i64))) (1 : Int)) = ((r / 2 ^ (w - 1 - n) % 2 : Nat) : Int) := by
      have hp : (2 : Int) ^ min (w - 1 - n) (IntKind.bits IntKind.i64) = ((2 ^ (w - 1 - n) : Nat) : Int) := by
        rw [show min (w - 1 - n) (IntKind.bits IntKind.i64) = w - 1 - n from Nat.min_eq_left (by show w - 1 - n ≤ 64; omega)]; simp
      rw [i64w (n := (w : Int) - 1) (by omega), i64w (n := (w : Int) - 1 - (n : Int)) (by omega), show Int.toNat ((w : Int) - 1 - (n : Int)) = w - 1 - n by omega, hp, fdiv_nat]
      have hd : r / 2 ^ (w - 1 - n) ≤ 64 := Nat.le_trans (Nat.div_le_self _ _) (by omega)
      have := bits_and_nat .i64 62 (by decide) (fun n h0 h1 => i64w (by omega)) (r / 2 ^ (w - 1 - n)) 1 (by omega) (by decide)
      rw [show ((1 : Nat) : Int) = 1 from rfl] at this
      rw [this, Nat.and_one_is_mod, IntWalk.u8_in _ (by omega)]
    rw [hv]
    simp only [Int.toNat_natCast, i64w (n := (n : Int) + 1) (by omega), i64w (n := (w : Int) - 1) (by omega), i64w (n := (w : Int) - 1 - (n : Int)) (by omega), e] at ho ⊢
    refine ⟨by omega, h3, by omega, ⟨h1, h2, rfl, by omega, by omega, h5, by rw [List.length_set]; exact h6⟩, by unfold m_wave_bitsOf_0; omega, ?_⟩
    rw [fill_step r0 (fun i => ((r / 2 ^ (w - 1 - i) % 2 : Nat) : Int)) (by omega)]; exact ho
  · simp only [Int.toNat_natCast] at ho
    rw [fill_end _ _ (by omega)] at ho; exact ho
theorem ok_wave_bitsOf : SumOK Try.prog 78 S_wave_bitsOf := by
  refine whole_wave_bitsOf l_wave_bitsOf_0 ?_
  intro a0 a1 ⟨h1, h2, h3, h4⟩
  unfold W_wave_bitsOf
  obtain ⟨w, rfl⟩ := Int.eq_ofNat_of_zero_le h3
  simp only [Int.toNat_natCast, List.length_replicate]
  refine ⟨h3, by omega, by omega, ⟨h1, h2, rfl, by decide, by omega, h4, by simp⟩, ?_, trivial⟩
  rw [fill_zero, List.length_replicate]; rfl
end Go.Spec
/- Bits as points: the walks, third part. -/
namespace Go.Spec
open Go Go.Lift Go.Proofs
attribute [local irreducible] Go.Lift.awp Go.Lift.LoopOK Go.Lift.SumOK
theorem pt1 (x y : Int) : (if (if (if decide (x < (-1000 : Int)) = true then true else decide (x > (1000 : Int))) = true then true else decide (y < (-1000 : Int))) = true then true else decide (y > (1000 : Int))) = !okPt (x, y, ()) := by
  unfold okPt
  by_cases h1 : x < -1000 <;> by_cases h2 : x > 1000 <;> by_cases h3 : y < -1000 <;> by_cases h4 : y > 1000 <;> simp [h1, h2, h3, h4] <;> omega
theorem l_wave_check_0 : LoopOK E_wave_check 0 (loopAt (bodyOf Try.f77) 0) L_wave_check_0 := I_wave_check_0 <| by
  intro t17 t18 t19 K hp ho
  obtain ⟨rfl, h2, h3, h4⟩ := hp
  have h4' := h4
  rw [big_val] at h4'
  obtain ⟨n, rfl⟩ := Int.eq_ofNat_of_zero_le h2
  have e : ((n : Int) + 1).toNat = n + 1 := by omega
  unfold B_wave_check_0
  unfold o_wave_check_0 at ho ⊢
  rw [pt1]
  simp only [i64w (n := (n : Int) + 1) (by omega), e, Int.toNat_natCast] at ho ⊢
  rw [condP_iff]
  simp only [decide_eq_true_eq, decide_eq_false_iff_not]
  refine ⟨fun hlt => ⟨h2, hlt, ?_⟩, fun hge => ?_⟩
  · rw [drop_cons t17 n (0, 0, ()) (by omega), List.all_cons] at ho
    change condP (!okPt (t17.getD n (0, 0, ()))) _ _
    generalize okPt (t17.getD n (0, 0, ())) = b at *
    cases b
    · simpa [condP_iff] using ho
    · simp only [Bool.not_true, condP_f]
      exact ⟨⟨rfl, by omega, by omega, h4⟩, by unfold m_wave_check_0; omega, by simpa using ho⟩
  · rw [List.drop_eq_nil_of_le (by omega)] at ho
    simpa [condP_iff] using ho
theorem orderB_spec {o : Int} : orderB o = true ↔ o = 2 ∨ o = 4 ∨ o = 6 := by
  simp [orderB, or_assoc]
theorem ok_wave_check : SumOK Try.prog 77 S_wave_check := by
  refine whole_wave_check ok_wave_good l_wave_check_0 ?_
  intro a0 a1 h
  have h' := h
  rw [big_val] at h'
  unfold W_wave_check
  refine ⟨trivial, ?_⟩
  rw [List.drop_zero]
  cases ho : orderB a1
  · refine (condP_t rfl).2 ⟨?_, trivial⟩
    unfold hearB; rw [ho]; rfl
  · have hor := orderB_spec.1 ho
    have hb : -9223372036854775808 ≤ (a0.length : Int) * a1 ∧ (a0.length : Int) * a1 ≤ 9223372036854775807 := by
      rcases hor with rfl | rfl | rfl <;> omega
    rw [i64w hb]
    by_cases hc : (a0.length : Int) * a1 > 4096
    · refine (condP_t (by simp [hc])).2 ⟨?_, trivial⟩
      unfold hearB; rw [ho, decide_eq_false (by omega)]; rfl
    · refine (condP_f (by simp [hc])).2 ⟨⟨rfl, by decide, by omega, h⟩, ?_⟩
      have he : hearB a0 a1 = a0.all okPt := by unfold hearB; rw [ho, decide_eq_true (by omega)]; rfl
      rw [he, condP_iff]
      exact ⟨fun h => ⟨h.symm, trivial⟩, fun h => ⟨h.symm, trivial⟩⟩
end Go.Spec
/- Bits as points: the walks, fourth part. -/
namespace Go.Spec
open Go Go.Lift Go.Proofs
attribute [local irreducible] Go.Lift.awp Go.Lift.LoopOK Go.Lift.SumOK
theorem cutL_mid (a : List Int) (p q : Nat) : cutL a (some (p : Int)) (some ((p + q : Nat) : Int)) = (a.drop p).take q := by
  show (a.take (Int.toNat ((p + q : Nat) : Int))).drop (Int.toNat (p : Int)) = _
  rw [Int.toNat_natCast, Int.toNat_natCast, List.take_drop]
theorem l_wave_Send_0 : LoopOK E_wave_Send 0 (loopAt (bodyOf Try.f14) 0) L_wave_Send_0 := I_wave_Send_0 <| by
  intro t0 t1 t8 r0 K hp ho
  obtain ⟨hb, hk, hl, hm, h1, h2, h3, h4⟩ := hp
  obtain ⟨n, rfl⟩ := Int.eq_ofNat_of_zero_le h1
  obtain ⟨k, rfl⟩ := Int.eq_ofNat_of_zero_le (a := t1) (by omega)
  unfold B_wave_Send_0
  unfold o_wave_Send_0 at ho ⊢
  have ew : IntKind.wrap IntKind.i64 ((n : Int) + (k : Int)) = ((n + k : Nat) : Int) := by rw [i64w (by omega)]; omega
  simp only [ew, cutL_mid, Int.toNat_natCast, List.append_eq] at ho ⊢
  rw [condP_iff]
  simp only [decide_eq_true_eq, decide_eq_false_iff_not]
  have hkk : k = 2 ∨ k = 4 ∨ k = 6 := by omega
  refine ⟨fun hlt => ?_, fun hge => ?_⟩
  · have hle : n + k ≤ t0.length := by rcases hkk with rfl | rfl | rfl <;> omega
    have htl : ((t0.drop n).take k).length = k := by rw [List.length_take, List.length_drop]; omega
    have hf : (t0.length - n) / k = (t0.length - (n + k)) / k + 1 := by
      rw [show t0.length - n = (t0.length - (n + k)) + k by omega, Nat.add_div_right _ (by omega)]
    rw [hf, sendF, List.drop_drop] at ho
    refine ⟨by omega, by omega, by omega, ⟨(hb.drop n).take k, by omega⟩, by simp; omega, ⟨hb, hk, hl, hm, by omega, by omega, ?_, by simp; omega⟩, by unfold m_wave_Send_0; omega, ?_⟩
    · rcases hkk with rfl | rfl | rfl <;> omega
    · rw [List.append_assoc]; exact ho
  · rw [show t0.length - n = 0 by omega, Nat.zero_div, sendF, List.append_nil] at ho
    exact ho
theorem ok_wave_Send : SumOK Try.prog 14 S_wave_Send := by
  refine whole_wave_Send ok_bits_Check ok_wave_good ok_wave_point l_wave_Send_0 ?_
  intro a0 a1 h
  unfold W_wave_Send
  rw [condP_iff, condP_iff]
  simp only [bne_iff_ne, ne_eq, bne_eq_false_iff_eq]
  refine ⟨h, fun hb => ?_, fun hb => ⟨trivial, fun ho => ?_, fun hc => ?_, fun hc => ?_⟩⟩
  · have he : sendErr a0 a1 = bitsErr a0 := by unfold sendErr; rw [if_pos hb]
    exact ⟨by unfold sendL; rw [if_neg (by rw [he]; exact hb)], he.symm, trivial⟩
  · have := orderB_spec.1 (by simpa using ho); omega
  · have he : sendErr a0 a1 = 1 := by
      unfold sendErr; rw [if_neg (by simpa using hb), if_neg]
      rintro ⟨q1, q2⟩
      rw [q1, Int.tmod_eq_emod_of_nonneg (by omega), q2] at hc
      simp at hc
    exact ⟨by unfold sendL; rw [if_neg (by rw [he]; decide)], he.symm, trivial⟩
  · have ho : orderB a1 = true := by
      cases hq : orderB a1
      · rw [hq] at hc; simp at hc
      · rfl
    rw [ho, Int.tmod_eq_emod_of_nonneg (by omega)] at hc
    have hm : (a0.length : Int) % a1 = 0 := by simpa using hc
    have he : sendErr a0 a1 = 0 := by unfold sendErr; rw [if_neg (by simpa using hb), if_pos ⟨ho, hm⟩]
    obtain ⟨b1, b2⟩ := bitsErr_ok hb
    exact ⟨⟨b1, orderB_spec.1 ho, b2, hm, by decide, by omega, by simp, by simp⟩, by unfold sendL; rw [if_pos he]; rfl, he.symm, trivial⟩
end Go.Spec
