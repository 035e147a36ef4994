/- The functions answer as told: the transform by halves. -/
import Derived.Test.YtfjoackkcflbkaaV3
set_option linter.unusedVariables false
set_option linter.unusedSimpArgs false
namespace Go.Spec
open Go Go.Lift Go.Proofs
attribute [local irreducible] Go.Lift.awp Go.Lift.LoopOK Go.Lift.SumOK
theorem goodL_cons {b : List Int} {i most : Nat} (h : i < b.length) (hm : i < most) : goodL (b.drop i) (most - i) = b.getD i 0 % 2 :: goodL (b.drop (i + 1)) (most - (i + 1)) := by
  unfold goodL
  rw [drop_cons b i 0 h]
  obtain ⟨d, hd⟩ : ∃ d, most - i = d + 1 := ⟨most - i - 1, by omega⟩
  rw [hd, show most - (i + 1) = d from by omega]
  rfl
theorem l_keep_good_0 : LoopOK E_keep_good 0 (loopAt (bodyOf Try.f25) 0) L_keep_good_0 := I_keep_good_0 <| by
  intro t0 t1 t6 r0 K hp ho
  obtain ⟨h1, h2, h3, h4, h5, h6, h7⟩ := hp
  rw [big_val] at h1
  obtain ⟨n, rfl⟩ := Int.eq_ofNat_of_zero_le h3
  obtain ⟨m, rfl⟩ := Int.eq_ofNat_of_zero_le (Int.le_trans h3 h4)
  have e : ((n : Int) + 1).toNat = n + 1 := by omega
  have e1 : ((m : Int) - (n : Int)).toNat = m - n := by omega
  have e2 : ((m : Int) - ((n : Int) + 1)).toNat = m - (n + 1) := by omega
  unfold B_keep_good_0
  unfold o_keep_good_0 at ho ⊢
  have hc : (if decide ((n : Int) < (t0.length : Int)) = true then decide ((n : Int) < (m : Int)) else false) = decide (n < t0.length ∧ n < m) := by
    by_cases h1 : n < t0.length <;> by_cases h2 : n < m <;> simp [h1, h2]
  rw [hc, i64w (by omega)]
  simp only [condP_iff, decide_eq_true_eq, decide_eq_false_iff_not, Int.toNat_natCast, e, e1, e2] at ho ⊢
  refine ⟨fun hlt => ?_, fun hge => ?_⟩
  · have hx : 0 ≤ t0.getD n 0 := h2 _ (getD_mem hlt.1)
    rw [Int.tmod_eq_emod_of_nonneg hx]
    refine ⟨by omega, by omega, by decide, by simp; omega, ⟨by rw [big_val]; exact h1, h2, by omega, by omega, by omega, h6, by simp; omega⟩, by unfold m_keep_good_0; omega, ?_⟩
    rw [goodL_cons hlt.1 hlt.2] at ho
    simpa using ho
  · have : goodL (t0.drop n) (m - n) = [] := by
      unfold goodL
      by_cases hm : n < m
      · rw [List.drop_eq_nil_of_le (by omega)]; simp
      · rw [show m - n = 0 from by omega]; simp
    rw [this, List.append_nil] at ho
    exact ho
theorem ok_keep_good : SumOK Try.prog 25 S_keep_good := by
  refine whole_keep_good l_keep_good_0 ?_
  intro a0 a1 ⟨h1, h2, h3, h4⟩
  unfold W_keep_good
  exact ⟨⟨h1, h2, by decide, h3, by omega, h4, rfl⟩, by simp, trivial⟩
theorem pow_all : ∀ n : Nat, n < 513 → (if 1 ≤ n then (bits BinOp.and IntKind.i64 (n : Int) (IntKind.wrap IntKind.i64 ((n : Int) - 1)) == 0) else false) = powB n := by decide +kernel
theorem ok_polar_power : SumOK Try.prog 96 S_polar_power := by
  refine whole_polar_power ?_
  intro a0 _
  unfold W_polar_power
  refine ⟨?_, trivial⟩
  by_cases h : 1 ≤ a0 ∧ a0 ≤ 512
  · obtain ⟨n, rfl⟩ := Int.eq_ofNat_of_zero_le (show 0 ≤ a0 by omega)
    have := pow_all n (by omega)
    rw [if_pos (by omega)] at this
    rw [← this]
    have h1 : (n : Int) ≥ 1 := h.1
    have h2 : (n : Int) ≤ 512 := h.2
    simp only [h1, h2, decide_true, if_true]
  · have hp : powB a0 = false := by
      simp only [powB, List.contains_eq_mem, List.mem_cons, List.not_mem_nil, or_false, decide_eq_false_iff_not]
      omega
    rw [hp]
    by_cases h1 : a0 ≥ 1
    · have h2 : ¬ a0 ≤ 512 := by omega
      simp [h2]
    · simp [h1]
theorem ok_slices_Clone_byte_byte : SumOK Try.prog 97 S_slices_Clone_byte_byte := by
  refine whole_slices_Clone_byte_byte ?_
  intro a0 h
  unfold W_slices_Clone_byte_byte
  refine ⟨fun hn => ?_, fun _ => ?_⟩
  · have : a0.isEmpty = true := hn (by decide)
    exact ⟨(List.isEmpty_iff.1 this).symm, trivial⟩
  · exact ⟨by simp; omega, rfl, trivial⟩
theorem l_polar_turn_4 : LoopOK E_polar_turn 4 (loopAt (bodyOf Try.f98) 4) L_polar_turn_4 := I_polar_turn_4 <| by
  intro t2 t3 t4 r0 K hp ho
  obtain ⟨hb, h, i, k, rfl, h1, rfl, rfl, h2, h3, h4, h5⟩ := hp
  have e : ((k : Int) + 1).toNat = k + 1 := by omega
  have eh : ((k : Int) + (h : Int)).toNat = k + h := by omega
  unfold B_polar_turn_4
  unfold o_polar_turn_4 at ho ⊢
  rw [i64w (n := (i : Int) + h) (by omega), i64w (n := (k : Int) + h) (by omega), i64w (n := (k : Int) + 1) (by omega)]
  simp only [condP_iff, decide_eq_true_eq, decide_eq_false_iff_not, Int.toNat_natCast, e, eh, u8_xor (hb.getD k) (hb.getD (k + h))] at ho ⊢
  refine ⟨fun hlt => ?_, fun hge => ?_⟩
  · refine ⟨by omega, by omega, by omega, by omega, by omega, by omega, ⟨hb.set (mod2 _), h, i, k + 1, rfl, h1, rfl, rfl, by omega, by omega, by simpa using h4, by simpa using h5⟩, by unfold m_polar_turn_4; omega, ?_⟩
    rw [st4_step h1 (by omega) (by omega)]
    exact ho
  · rw [st4_end (by omega)] at ho; exact ho
theorem stF_bits {h i : Nat} {r : List Int} (hb : Bits r) : Bits (stF h i r) := Bits.seg fun k => by
  split
  · exact mod2 _
  · exact hb.getD k
theorem st4_bits {h i k : Nat} {r : List Int} (hb : Bits r) : Bits (st4 h i k r) := Bits.seg fun k => by
  split
  · exact mod2 _
  · exact hb.getD k
theorem l_polar_turn_2 : LoopOK E_polar_turn 2 (loopAt (bodyOf Try.f98) 2) L_polar_turn_2 := I_polar_turn_2 <| by
  intro t2 t3 r0 K hp ho
  obtain ⟨hb, h, c, L, rfl, h1, rfl, h2, h3, h4⟩ := hp
  have hcL : 2 * h * c ≤ 2 * h * L := Nat.mul_le_mul_left _ h3
  unfold B_polar_turn_2
  unfold o_polar_turn_2 at ho ⊢
  by_cases hlt : c < L
  · have hc1 : 2 * h * (c + 1) ≤ 2 * h * L := Nat.mul_le_mul_left _ hlt
    rw [Nat.mul_add, Nat.mul_one] at hc1
    have e2 : (((2 * h * c : Nat) : Int) + 2 * (h : Int)) = ((2 * h * c + 2 * h : Nat) : Int) := by omega
    rw [i64w (n := 2 * (h : Int)) (by omega), e2, i64w (by omega)]
    simp only [condP_iff, decide_eq_true_eq, decide_eq_false_iff_not, Int.toNat_natCast] at ho ⊢
    refine ⟨fun _ => ?_, fun hge => by omega⟩
    refine ⟨⟨hb, h, 2 * h * c, 2 * h * c, rfl, h1, rfl, rfl, Nat.le_refl _, by omega, by omega, h4⟩, ⟨st4_bits hb, h, c + 1, L, rfl, h1, by rw [Nat.mul_add, Nat.mul_one], by rw [st4_length]; exact h2, hlt, by rw [st4_length]; exact h4⟩, ?_, ?_⟩
    · unfold m_polar_turn_2
      rw [st4_length]; omega
    · rw [stF_step h1]; exact ho
  · obtain rfl : c = L := by omega
    simp only [condP_iff, decide_eq_true_eq, decide_eq_false_iff_not, Int.toNat_natCast] at ho ⊢
    refine ⟨fun hlt => by omega, fun _ => ?_⟩
    rw [stF_end (by omega)] at ho; exact ho
theorem pow_bound {m : Nat} (h : m ≤ 9) : 2 ^ m ≤ 512 := Nat.pow_le_pow_right (n := 2) (by decide) h
theorem pow_inj {a b : Nat} (h : 2 ^ a = 2 ^ b) : a = b := by
  rcases Nat.lt_trichotomy a b with g | g | g
  · have := Nat.pow_lt_pow_right (a := 2) (by decide) g; omega
  · exact g
  · have := Nat.pow_lt_pow_right (a := 2) (by decide) g; omega
theorem and_le (q x y : Nat) : (if decide (2 * (q : Int) ≤ (x : Int)) = true then decide (2 * (q : Int) ≤ (y : Int)) else false) = decide (2 * q ≤ x ∧ 2 * q ≤ y) := by
  by_cases h1 : 2 * q ≤ x
  · have e1 : decide (2 * (q : Int) ≤ (x : Int)) = true := decide_eq_true (by omega)
    rw [if_pos e1]
    exact decide_eq_decide.2 ⟨fun h => ⟨h1, by omega⟩, fun h => by omega⟩
  · have e1 : ¬ decide (2 * (q : Int) ≤ (x : Int)) = true := fun h => h1 (by have := of_decide_eq_true h; omega)
    rw [if_neg e1]
    exact (decide_eq_false (fun h => h1 h.1)).symm
theorem or_lt (q x y : Nat) : (if decide ((x : Int) < (q : Int)) = true then true else decide ((y : Int) < (q : Int))) = decide (x < q ∨ y < q) := by
  by_cases h1 : x < q
  · have e1 : decide ((x : Int) < (q : Int)) = true := decide_eq_true (by omega)
    rw [if_pos e1]
    exact (decide_eq_true (Or.inl h1)).symm
  · have e1 : ¬ decide ((x : Int) < (q : Int)) = true := fun h => h1 (by have := of_decide_eq_true h; omega)
    rw [if_neg e1]
    exact decide_eq_decide.2 ⟨fun h => Or.inr (by omega), fun h => by omega⟩
theorem cutL_take (a : List Int) (q : Nat) : cutL a none (some (q : Int)) = a.take q := by
  show (a.take (Int.toNat (q : Int))).drop (Int.toNat 0) = _
  rw [Int.toNat_natCast]; rfl
theorem l_polar_turn_0 : LoopOK E_polar_turn 0 (loopAt (bodyOf Try.f98) 0) L_polar_turn_0 := I_polar_turn_0 <| by
  intro t2 r0 K hp ho
  obtain ⟨hb, j, m, h1, h2, rfl, h3⟩ := hp
  have hm := pow_bound h1
  have hj := pow_bound (Nat.le_trans h2 h1)
  have hj1 := Nat.two_pow_pos j
  have ho := ho j m rfl h2 h3
  unfold B_polar_turn_0
  have e2 : ((2 ^ j : Nat) : Int) * 2 = ((2 ^ (j + 1) : Nat) : Int) := by rw [Nat.pow_succ]; omega
  rw [e2, i64w (by rw [← e2]; omega)]
  simp only [condP_iff, decide_eq_true_eq, decide_eq_false_iff_not, Int.toNat_natCast] at ho ⊢
  refine ⟨fun hlt => ?_, fun hge => ?_⟩
  · have hjm : j < m := by
      rcases Nat.lt_or_ge j m with h | h
      · exact h
      · have := Nat.pow_le_pow_right (n := 2) (by decide) h; omega
    obtain ⟨d, hd⟩ : ∃ d, m = j + 1 + d := ⟨m - (j + 1), by omega⟩
    refine ⟨⟨hb, 2 ^ j, 0, 2 ^ d, rfl, hj1, by simp, by rw [h3, hd, Nat.pow_add, Nat.pow_succ, Nat.mul_comm (2 ^ j) 2], Nat.zero_le _, by omega⟩,
      ⟨stF_bits hb, j + 1, m, h1, hjm, rfl, by rw [stF_length]; exact h3⟩, ?_, ?_⟩
    · unfold m_polar_turn_0
      rw [stF_length, Nat.pow_succ]; omega
    · intro j' m' hj' hm' hl'
      have ej : j + 1 = j' := pow_inj (by exact_mod_cast hj')
      subst ej
      rw [stF_length, h3] at hl'
      have em := pow_inj hl'
      subst em
      obtain ⟨d, hd⟩ : ∃ d, m - j = d + 1 := ⟨m - j - 1, by omega⟩
      rw [hd] at ho
      rw [show m - (j + 1) = d from by omega]
      exact ho
  · have hjm : j = m := by
      rcases Nat.lt_or_ge j m with h | h
      · have := Nat.pow_lt_pow_right (a := 2) (by decide) h; omega
      · omega
    subst hjm
    rw [Nat.sub_self] at ho
    exact ho
theorem ok_polar_turn : SumOK Try.prog 98 S_polar_turn := by
  refine whole_polar_turn l_polar_turn_0 l_polar_turn_2 l_polar_turn_4 ?_
  intro a0 ⟨hb, m, h1, h2⟩
  unfold W_polar_turn
  refine ⟨⟨hb, 0, m, h1, Nat.zero_le _, rfl, h2⟩, ?_⟩
  intro j m' hj hjm hl
  obtain rfl : 0 = j := pow_inj (by exact_mod_cast hj)
  rw [h2] at hl
  obtain rfl := pow_inj hl
  rw [Nat.sub_zero, stages_turn m a0 h2, h2, Nat.log2_two_pow]
  exact ⟨rfl, turnL_length m a0 h2, trivial⟩
theorem ok_polar_Turn : SumOK Try.prog 52 S_polar_Turn := by
  refine whole_polar_Turn ok_bits_Check ok_polar_power ok_slices_Clone_byte_byte ok_polar_turn ?_
  intro a0 ⟨h1, h2⟩
  unfold W_polar_Turn
  rw [big_val] at h1
  simp only [condP_iff, bne_iff_ne, ne_eq, bne_eq_false_iff_eq, and_true, Bool.not_eq_true', Bool.not_eq_false']
  refine ⟨⟨by rw [big_val]; exact h1, h2⟩, fun h => ?_, fun h => ⟨trivial, fun hp => ?_, fun hp => ?_⟩⟩
  · have e : turnErr a0 = bitsErr a0 := by unfold turnErr; rw [if_neg h]
    exact ⟨by unfold turnOf; rw [e, if_neg h], e.symm⟩
  · have e : turnErr a0 = 1 := by unfold turnErr; rw [if_pos h, hp]; rfl
    exact ⟨by unfold turnOf; rw [e]; rfl, e.symm⟩
  · have e : turnErr a0 = 0 := by unfold turnErr; rw [if_pos h, hp]; rfl
    obtain ⟨hb, hl⟩ := bitsErr_ok h
    obtain ⟨m, hm, hlm⟩ := powB_spec hp
    exact ⟨by omega, ⟨hb, m, hm, hlm⟩, by unfold turnOf; rw [if_pos e], e.symm⟩
theorem goodL_bits {b : List Int} {n : Nat} : Bits (goodL b n) := by
  intro x hx
  unfold goodL at hx
  obtain ⟨y, _, rfl⟩ := List.mem_map.1 hx
  exact mod2 y
theorem goodL_length {b : List Int} {n : Nat} : (goodL b n).length ≤ n := by unfold goodL; simp; omega
theorem Bits.nonneg {l : List Int} (h : Bits l) : ∀ y ∈ l, 0 ≤ y := fun y hy => by rcases h y hy with h | h <;> omega
theorem turn_ok {m : Nat} {a : List Int} (hm : m ≤ 9) (hb : Bits a) (hl : a.length = 2 ^ m) : turnErr a = 0 ∧ turnOf a = turnL m a := by
  have := pow_bound hm
  have e : turnErr a = 0 := by
    unfold turnErr
    rw [if_pos (bitsErr_bits hb (by omega)), hl, powB_pow hm]; rfl
  exact ⟨e, by unfold turnOf; rw [if_pos e, hl, Nat.log2_two_pow]⟩
end Go.Spec
