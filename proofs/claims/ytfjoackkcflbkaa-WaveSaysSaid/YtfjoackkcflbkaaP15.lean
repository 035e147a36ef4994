/- Bits as points: the walks, fourth part. -/
import Derived.Test.YtfjoackkcflbkaaP14
import Derived.Test.YtfjoackkcflbkaaP7
set_option linter.unusedVariables false
set_option linter.unusedSimpArgs false
namespace Go.Spec
open Go Go.Lift Go.Proofs
attribute [local irreducible] Go.Lift.awp Go.Lift.LoopOK Go.Lift.SumOK
theorem cutL_mid (a : List Int) (p q : Nat) : cutL a (some (p : Int)) (some ((p + q : Nat) : Int)) = (a.drop p).take q := by
  show (a.take (Int.toNat ((p + q : Nat) : Int))).drop (Int.toNat (p : Int)) = _
  rw [Int.toNat_natCast, Int.toNat_natCast, List.take_drop]
theorem l_wave_Send_0 : LoopOK E_wave_Send 0 (loopAt (bodyOf Try.f14) 0) L_wave_Send_0 := I_wave_Send_0 <| by
  intro t0 t1 t8 r0 K hp ho
  obtain ⟨hb, hk, hl, hm, h1, h2, h3, h4⟩ := hp
  obtain ⟨n, rfl⟩ := Int.eq_ofNat_of_zero_le h1
  obtain ⟨k, rfl⟩ := Int.eq_ofNat_of_zero_le (a := t1) (by omega)
  unfold B_wave_Send_0
  unfold o_wave_Send_0 at ho ⊢
  have ew : IntKind.wrap IntKind.i64 ((n : Int) + (k : Int)) = ((n + k : Nat) : Int) := by rw [i64w (by omega)]; omega
  simp only [ew, cutL_mid, Int.toNat_natCast, List.append_eq] at ho ⊢
  rw [condP_iff]
  simp only [decide_eq_true_eq, decide_eq_false_iff_not]
  have hkk : k = 2 ∨ k = 4 ∨ k = 6 := by omega
  refine ⟨fun hlt => ?_, fun hge => ?_⟩
  · have hle : n + k ≤ t0.length := by rcases hkk with rfl | rfl | rfl <;> omega
    have htl : ((t0.drop n).take k).length = k := by rw [List.length_take, List.length_drop]; omega
    have hf : (t0.length - n) / k = (t0.length - (n + k)) / k + 1 := by
      rw [show t0.length - n = (t0.length - (n + k)) + k by omega, Nat.add_div_right _ (by omega)]
    rw [hf, sendF, List.drop_drop] at ho
    refine ⟨by omega, by omega, by omega, ⟨(hb.drop n).take k, by omega⟩, by simp; omega, ⟨hb, hk, hl, hm, by omega, by omega, ?_, by simp; omega⟩, by unfold m_wave_Send_0; omega, ?_⟩
    · rcases hkk with rfl | rfl | rfl <;> omega
    · rw [List.append_assoc]; exact ho
  · rw [show t0.length - n = 0 by omega, Nat.zero_div, sendF, List.append_nil] at ho
    exact ho
theorem ok_wave_Send : SumOK Try.prog 14 S_wave_Send := by
  refine whole_wave_Send ok_bits_Check ok_wave_good ok_wave_point l_wave_Send_0 ?_
  intro a0 a1 h
  unfold W_wave_Send
  rw [condP_iff, condP_iff]
  simp only [bne_iff_ne, ne_eq, bne_eq_false_iff_eq]
  refine ⟨h, fun hb => ?_, fun hb => ⟨trivial, fun ho => ?_, fun hc => ?_, fun hc => ?_⟩⟩
  · have he : sendErr a0 a1 = bitsErr a0 := by unfold sendErr; rw [if_pos hb]
    exact ⟨by unfold sendL; rw [if_neg (by rw [he]; exact hb)], he.symm, trivial⟩
  · have := orderB_spec.1 (by simpa using ho); omega
  · have he : sendErr a0 a1 = 1 := by
      unfold sendErr; rw [if_neg (by simpa using hb), if_neg]
      rintro ⟨q1, q2⟩
      rw [q1, Int.tmod_eq_emod_of_nonneg (by omega), q2] at hc
      simp at hc
    exact ⟨by unfold sendL; rw [if_neg (by rw [he]; decide)], he.symm, trivial⟩
  · have ho : orderB a1 = true := by
      cases hq : orderB a1
      · rw [hq] at hc; simp at hc
      · rfl
    rw [ho, Int.tmod_eq_emod_of_nonneg (by omega)] at hc
    have hm : (a0.length : Int) % a1 = 0 := by simpa using hc
    have he : sendErr a0 a1 = 0 := by unfold sendErr; rw [if_neg (by simpa using hb), if_pos ⟨ho, hm⟩]
    obtain ⟨b1, b2⟩ := bitsErr_ok hb
    exact ⟨⟨b1, orderB_spec.1 ho, b2, hm, by decide, by omega, by simp, by simp⟩, by unfold sendL; rw [if_pos he]; rfl, he.symm, trivial⟩
end Go.Spec
