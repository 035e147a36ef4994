/- Bits as points: the law that no point is nearer. -/
import Derived.Test.YtfjoackkcflbkaaV9
import Derived.Test.YtfjoackkcflbkaaP18
import Derived.Test.YtfjoackkcflbkaaP6
set_option linter.unusedVariables false
set_option linter.unusedSimpArgs false
namespace Go.Spec
open Go Go.Lift Go.Proofs
attribute [local irreducible] Go.Lift.awp Go.Lift.LoopOK Go.Lift.SumOK
theorem sgn_c (x y : Int) (h6 : x ≠ 0) (h7 : x < 0 ↔ y = 1) : (if (x == 0) = true then true else decide (x < 0) != (y == 1)) = false := by
  by_cases hq : x < 0
  · have := h7.1 hq
    simp [h6, hq, this]
  · have : ¬ y = 1 := fun e => hq (h7.2 e)
    simp [h6, hq, this]
theorem sgn_d (x d : Int) (h : (d = 0 ∧ ¬ x < 0) ∨ (d = 1 ∧ ¬ x > 0)) : (if (if x > 0 then d == 1 else false) = true then true else if x < 0 then d == 0 else false) = false := by
  rcases h with ⟨rfl, h⟩ | ⟨rfl, h⟩ <;> simp [h]
theorem l_keep_WaveNear_0 : LoopOK E_keep_WaveNear 0 (loopAt (bodyOf Try.f4) 0) L_keep_WaveNear_0 := I_keep_WaveNear_0 <| by
  intro t1 t2 t9 t16 r0 r1 K hp ho
  obtain ⟨rfl, h1, h2, h3, h4, h5⟩ := hp
  obtain ⟨n, rfl⟩ := Int.eq_ofNat_of_zero_le h3
  unfold B_keep_WaveNear_0
  unfold o_keep_WaveNear_0 at ho ⊢
  simp only [i64w (n := (n : Int) + 1) (by omega), Int.toNat_natCast]
  rw [condP_iff]
  simp only [decide_eq_true_eq, decide_eq_false_iff_not]
  refine ⟨fun hlt => ?_, fun hge => ho⟩
  obtain ⟨h6, h7⟩ := h5 n (by omega)
  refine ⟨h3, hlt, fun _ => h3, fun _ => hlt, fun _ => h3, fun _ => by omega, (condP_f ?_).2 ⟨⟨rfl, h1, h2, by omega, by omega, h5⟩, by unfold m_keep_WaveNear_0; omega, ho⟩⟩
  exact sgn_c _ _ h6 h7
theorem l_keep_WaveNear_2 : LoopOK E_keep_WaveNear 2 (loopAt (bodyOf Try.f4) 2) L_keep_WaveNear_2 := I_keep_WaveNear_2 <| by
  intro t1 t2 t24 r0 r1 r2 r3 K hp ho
  obtain ⟨h1, rfl, rfl, rfl, rfl, h2, h3⟩ := hp
  obtain ⟨hg, hl, _⟩ := hearB_spec.1 h1
  obtain ⟨k, rfl, hk⟩ := goodO_nat hg
  have hln := len4096 hk hl
  unfold B_keep_WaveNear_2
  unfold o_keep_WaveNear_2 at ho ⊢
  rw [i64w (n := t24 + 1) (by omega), condP_iff]
  simp only [decide_eq_true_eq, decide_eq_false_iff_not]
  refine ⟨fun hlt => ⟨⟨⟨h1, rfl, rfl, rfl, rfl, h2, h3⟩, hlt, by decide, by omega⟩, ⟨⟨h1, rfl, rfl, rfl, rfl, h2, h3⟩, hlt, by decide, by omega⟩, ⟨h1, rfl, rfl, rfl, rfl, by omega, by omega⟩, by unfold m_keep_WaveNear_2; omega, ho⟩, fun hge => ho⟩
theorem map_at {l : List Pt} {k i : Nat} (hi : i < l.length) : (l.map fun p => pointL (near1 k p)).getD i (0, 0, ()) = pointL (near1 k (l.getD i (0, 0, ()))) := by
  rw [List.getD_eq_getElem?_getD, List.getElem?_map, List.getD_eq_getElem?_getD, List.getElem?_eq_getElem hi]; rfl
theorem l_keep_WaveNear_4 : LoopOK E_keep_WaveNear 4 (loopAt (bodyOf Try.f4) 4) L_keep_WaveNear_4 := I_keep_WaveNear_4 <| by
  intro t1 t2 t24 t25 r0 r1 r2 r3 K hp ho
  obtain ⟨⟨h1, rfl, rfl, rfl, rfl, h2, h3⟩, h4, h5, h6⟩ := hp
  obtain ⟨hg, hl, _⟩ := hearB_spec.1 h1
  obtain ⟨k, rfl, hk⟩ := goodO_nat hg
  obtain ⟨i, rfl⟩ := Int.eq_ofNat_of_zero_le h2
  obtain ⟨n, rfl⟩ := Int.eq_ofNat_of_zero_le h5
  have hp2 := pow_le hk
  rw [pointsC_length] at h6
  rw [Int.toNat_natCast] at h6
  unfold B_keep_WaveNear_4
  unfold o_keep_WaveNear_4 at ho ⊢
  simp only [i64w (n := (n : Int) + 1) (by omega), Int.toNat_natCast, pointsC_length, List.length_map] at ho ⊢
  rw [condP_iff]
  simp only [decide_eq_true_eq, decide_eq_false_iff_not]
  refine ⟨fun hlt => ?_, fun hge => ho⟩
  have hok := hearB_at h1 (i := i) (by omega)
  have hn : n < 2 ^ k := by omega
  simp only [pointsC_getD hn, map_at (show i < t2.length by omega)]
  obtain ⟨b1, b2⟩ := bestN_far hok k (2 ^ k) (by omega)
  have b3 := b2 n hn
  refine ⟨h2, h4, h5, hlt, ⟨hok, okPt_pointL (outS_bits k n)⟩, h2, h4, h2, h4, ⟨hok, okPt_pointL (outS_bits k _)⟩, (condP_f ?_).2 ⟨⟨⟨h1, by rw [Int.toNat_natCast], by rw [Int.toNat_natCast], by rw [Int.toNat_natCast], by rw [Int.toNat_natCast], h2, h3⟩, h4, by omega, by rw [pointsC_length]; omega⟩, by unfold m_keep_WaveNear_4; rw [pointsC_length]; omega, ho⟩⟩
  simp only [decide_eq_false_iff_not]
  show ¬ _ < far _ (pointL (outS k _))
  omega
theorem l_keep_WaveNear_6 : LoopOK E_keep_WaveNear 6 (loopAt (bodyOf Try.f4) 6) L_keep_WaveNear_6 := I_keep_WaveNear_6 <| by
  intro t1 t2 t24 t26 r0 r1 r2 r3 K hp ho
  obtain ⟨⟨h1, rfl, rfl, rfl, rfl, h2, h3⟩, h4, h5, h6⟩ := hp
  obtain ⟨hg, hl, _⟩ := hearB_spec.1 h1
  obtain ⟨k, rfl, hk⟩ := goodO_nat hg
  obtain ⟨i, rfl⟩ := Int.eq_ofNat_of_zero_le h2
  obtain ⟨j, rfl⟩ := Int.eq_ofNat_of_zero_le h5
  have hln := len4096 hk hl
  have hik : (i : Int) * k = ((i * k : Nat) : Int) := by simp
  have hle : i * k + k ≤ t2.length * k := by
    have := Nat.mul_le_mul_right k (show i + 1 ≤ t2.length by omega)
    rw [Nat.add_mul, Nat.one_mul] at this; exact this
  have hl' : ((t2.length * k : Nat) : Int) ≤ 4096 := by rw [Int.natCast_mul]; exact hl
  have ex : IntKind.wrap IntKind.i64 (IntKind.wrap IntKind.i64 ((i : Int) * (k : Int)) + (j : Int)) = ((i * k + j : Nat) : Int) := by
    rw [hik, i64w (n := ((i * k : Nat) : Int)) (by omega), i64w (by omega)]; omega
  unfold B_keep_WaveNear_6
  unfold o_keep_WaveNear_6 at ho ⊢
  rw [ex]
  simp only [i64w (n := (j : Int) + 1) (by omega), Int.toNat_natCast, heardL_length, nearL_length] at ho ⊢
  rw [condP_iff]
  simp only [decide_eq_true_eq, decide_eq_false_iff_not]
  refine ⟨fun hlt => ?_, fun hge => ho⟩
  have hok := hearB_at h1 (i := i) (by omega)
  have hj : j < k := by omega
  simp only [heardL_at (show i < t2.length by omega) hj, nearL_at (show i < t2.length by omega) hj]
  refine ⟨by omega, by omega, fun _ => by omega, fun _ => by omega, fun _ => by omega, fun _ => by omega, (condP_f ?_).2 ⟨⟨⟨h1, by rw [Int.toNat_natCast], by rw [Int.toNat_natCast], by rw [Int.toNat_natCast], by rw [Int.toNat_natCast], h2, h3⟩, h4, by omega, by omega⟩, by unfold m_keep_WaveNear_6; omega, ho⟩⟩
  have hbit := (outS_bits k (bestN (t2.getD i (0, 0, ())) k (2 ^ k)).2).getD j
  refine sgn_d _ _ ?_
  rcases hbit with hb | hb
  · have := sign_near hok k j (v := 0) (u := 1) hb
    exact .inl ⟨hb, by omega⟩
  · have := sign_near hok k j (v := 1) (u := 0) hb
    exact .inr ⟨hb, by omega⟩
theorem cutL_to (b : List Int) (n : Nat) : cutL b none (some (n : Int)) = b.take n := by
  show (b.take (Int.toNat (n : Int))).drop 0 = _
  rw [Int.toNat_natCast, List.drop_zero]
theorem ok_keep_WaveNear : SumOK Try.prog 4 S_keep_WaveNear := by
  refine whole_keep_WaveNear ok_wave_Send ok_keep_good ok_wave_Hear ok_wave_Near ok_R_SameBits ok_R_Constellation ok_R_Far l_keep_WaveNear_0 l_keep_WaveNear_2 l_keep_WaveNear_4 l_keep_WaveNear_6 ?_
  intro a0 a1 a2 ⟨h1, h2, h3⟩
  unfold W_keep_WaveNear
  have hord : (if (if (a1 != (2 : Int)) = true then a1 != (4 : Int) else false) = true then a1 != (6 : Int) else false) = !orderB a1 := by
    unfold orderB
    by_cases h1 : a1 = 2 <;> by_cases h2 : a1 = 4 <;> by_cases h3 : a1 = 6 <;> simp [h1, h2, h3, bne]
  rw [hord]
  cases ho : orderB a1
  · have he : sendErr [] a1 = 1 := by
      unfold sendErr
      rw [if_neg (by decide), if_neg (by rw [ho]; simp)]
    refine (condP_t rfl).2 ⟨⟨by rw [big_val]; decide, by simp⟩, ?_, trivial⟩
    have hs : sendL [] a1 = [] := by unfold sendL; rw [if_neg (by rw [he]; decide)]
    rw [he, hs]; rfl
  · refine (condP_f rfl).2 ?_
    have hg : goodO a1 := orderB_spec.1 ho
    obtain ⟨k, rfl, hk⟩ := goodO_nat hg
    have hbits : Bits (goodL a0 4096) := goodL_bits
    have hlen : (goodL a0 4096).length ≤ 4096 := goodL_length
    generalize goodL a0 4096 = b at *
    have hk0 : 0 < k := by omega
    have hn : b.length / k * k ≤ b.length := Nat.div_mul_le_self _ _
    have ew : IntKind.wrap IntKind.i64 (IntKind.wrap IntKind.i64 (Int.tdiv (b.length : Int) (k : Int)) * (k : Int)) = ((b.length / k * k : Nat) : Int) := by
      have e1 : Int.tdiv (b.length : Int) (k : Int) = ((b.length / k : Nat) : Int) := by
        rw [Int.tdiv_eq_ediv_of_nonneg (by omega)]; rfl
      have hd : b.length / k ≤ b.length := Nat.div_le_self _ _
      rw [e1]
      generalize b.length / k = d at *
      rw [i64w (n := (d : Int)) (by omega), ← Int.natCast_mul, i64w (by omega)]
    rw [ew, cutL_to]
    generalize hN : b.length / k * k = n at *
    have hcl : (b.take n).length = b.length / k * (k : Int).toNat := by rw [List.length_take, Int.toNat_natCast]; omega
    have hcb : Bits (b.take n) := hbits.take _
    generalize b.take n = c at *
    have hcn : c.length = n := by rw [hcl, Int.toNat_natCast]; exact hN
    have hcd : c.length / k = b.length / k := by rw [hcn, ← hN, Nat.mul_div_cancel _ hk0]
    have hce : bitsErr c = 0 := bitsErr_bits hcb (by omega)
    have hse : sendErr c k = 0 := by
      unfold sendErr
      rw [if_neg (by rw [hce]; simp), if_pos ⟨ho, by rw [hcn, ← hN, Int.natCast_mul, Int.mul_emod_left]⟩]
    have hsl : sendL c k = sendF k (b.length / k) c := by unfold sendL; rw [if_pos hse, Int.toNat_natCast, hcd]
    have hsn : (sendF k (b.length / k) c).length = b.length / k := sendF_length _ _ _
    have hhb : hearB (sendL c k) k = true := by
      rw [hsl]
      refine hearB_spec.2 ⟨hg, ?_, sendF_ok k _ c hcb⟩
      rw [hsn, ← Int.natCast_mul, hN]; omega
    have hhe : heardErr (sendL c k) k = 0 := by unfold heardErr; rw [if_pos hhb]
    have hnl : nearL (sendL c k) k = c := by
      have := near_send hg (b.length / k) c hcb hcl
      rw [Int.toNat_natCast] at this
      rw [hsl]; exact this
    have hhl : (heardL (sendL c k) k).length = n := by rw [heardL_length, hsl, hsn]; exact hN
    have hbd : ((sendL c k).length : Int) ≤ big := by rw [hsl, hsn, big_val]; have := Nat.div_le_self b.length k; omega
    have hhs : ∀ q, q < c.length → (heardL (sendL c k) k).getD q 0 ≠ 0 ∧ ((heardL (sendL c k) k).getD q 0 < 0 ↔ c.getD q 0 = 1) := by
      intro q hq
      have := heard_send hg hcb hcl hq
      rw [Int.toNat_natCast] at this
      rw [hsl]; exact this
    simp only [Int.toNat_natCast, hhb, if_true, hnl, hse, hhe, bne_self_eq_false, Bool.false_eq_true, if_false, hhl, decide_true, Bool.not_true]
    refine ⟨⟨h1, h2, by decide, by decide⟩, by omega, by decide, by omega, Int.le_refl _, by omega, ⟨by rw [big_val]; omega, fun y hy => by rcases hcb y hy with h | h <;> omega⟩, hbd, hbd, fun _ => by rw [big_val]; omega, (condP_f rfl).2 ⟨⟨by rw [hhl], by rw [hhl, hcn], by omega, by decide, by omega, hhs⟩, h3, h3, ?_⟩⟩
    unfold heardErr
    cases hh : hearB a2 k
    · exact (condP_t rfl).2 ⟨rfl, trivial⟩
    · refine (condP_f rfl).2 ?_
      obtain ⟨_, hl, _⟩ := hearB_spec.1 hh
      have hnn : (nearL a2 k).length = a2.length * k := nearL_length _ _
      have hl' : ((a2.length * k : Nat) : Int) ≤ 4096 := by rw [Int.natCast_mul]; exact hl
      have hse2 : sendErr (nearL a2 k) k = 0 := by
        unfold sendErr
        rw [if_neg (by rw [bitsErr_bits (nearL_bits _ _) (by omega)]; simp), if_pos ⟨ho, by rw [hnn, Int.natCast_mul, Int.mul_emod_left]⟩]
      have hs2 : sendL (nearL a2 k) k = a2.map fun p => pointL (near1 k p) := by
        unfold sendL
        rw [if_pos hse2, Int.toNat_natCast, hnn, Nat.mul_div_cancel _ hk0, send_near]
      simp only [if_true]
      refine ⟨⟨by rw [big_val]; omega, fun y hy => by rcases nearL_bits _ _ y hy with h | h <;> omega⟩, hg, ⟨hh, by rw [Int.toNat_natCast], by rw [Int.toNat_natCast], by rw [Int.toNat_natCast]; exact hs2, by rw [Int.toNat_natCast], by decide, by omega⟩, trivial, trivial⟩
theorem pre_keep_WaveNear (x : dens S_keep_WaveNear.par) (h : wfs S_keep_WaveNear.par x) : S_keep_WaveNear.pre x := by
  obtain ⟨a0, a1, a2, ⟨⟩⟩ := x
  obtain ⟨⟨h1, h2⟩, _, ⟨h3, _⟩, _⟩ := h
  have h1 : (List.length a0 : Int) ≤ 140737488351232 := h1
  have h3 : (List.length a2 : Int) ≤ 140737488351232 := h3
  refine ⟨?_, fun y hy => (wfd_u8 (h2 y hy)).1, ?_⟩
  · rw [big_val]; show (List.length a0 : Int) ≤ _; omega
  · rw [big_val]; show (List.length a2 : Int) ≤ _; omega
end Go.Spec
