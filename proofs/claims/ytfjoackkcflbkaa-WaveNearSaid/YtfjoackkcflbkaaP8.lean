/- Sums: the walks. -/
import Derived.Test.YtfjoackkcflbkaaV5
import Derived.Test.YtfjoackkcflbkaaP7
set_option linter.unusedVariables false
set_option linter.unusedSimpArgs false
namespace Go.Spec
open Go Go.Lift Go.Proofs
attribute [local irreducible] Go.Lift.awp Go.Lift.LoopOK Go.Lift.SumOK
theorem sW_le (k : Int) : sW k ≤ 24 := by
  unfold sW; split <;> (try split) <;> (try split) <;> (try split) <;> omega
theorem ok_bits_divisor : SumOK Try.prog 126 S_bits_divisor := by
  refine whole_bits_divisor ?_
  intro a0 _
  unfold W_bits_divisor
  simp only [condP_iff, beq_iff_eq, beq_eq_false_iff_ne, ne_eq]
  refine ⟨?_, fun h0 => ⟨?_, fun h1 => ⟨?_, fun h2 => ⟨?_, fun h3 => ?_⟩⟩⟩⟩
  · rintro rfl; exact ⟨rfl, rfl, trivial⟩
  · rintro rfl; exact ⟨rfl, rfl, trivial⟩
  · rintro rfl; exact ⟨rfl, rfl, trivial⟩
  · rintro rfl; exact ⟨rfl, rfl, trivial⟩
  · exact ⟨by simp [sW, h0, h1, h2, h3], by simp [sG, h0, h1, h2, h3], trivial⟩
theorem ok_bits_Width : SumOK Try.prog 111 S_bits_Width := by
  refine whole_bits_Width ok_bits_divisor ?_
  intro a0 _
  exact ⟨trivial, rfl, trivial⟩
theorem bits_and_nat (k : IntKind) (j : Nat) (hj : j ≤ k.bits) (hk : ∀ n : Int, 0 ≤ n → n < 2 ^ j → k.wrap n = n) (a b : Nat) (ha : a < 2 ^ j) (hb : b < 2 ^ j) :
    bits .and k a b = ((a &&& b : Nat) : Int) := by
  have hp : 2 ^ j ≤ 2 ^ k.bits := Nat.pow_le_pow_right (by decide) hj
  have ha' : a % 2 ^ k.bits = a := Nat.mod_eq_of_lt (Nat.lt_of_lt_of_le ha hp)
  have hb' : b % 2 ^ k.bits = b := Nat.mod_eq_of_lt (Nat.lt_of_lt_of_le hb hp)
  simp only [bits, BitVec.ofInt_natCast, BitVec.toNat_and, BitVec.toNat_ofNat, ha', hb']
  have := Nat.lt_of_le_of_lt (Nat.and_le_left (n := a) (m := b)) ha
  exact hk _ (Int.natCast_nonneg _) (by exact_mod_cast this)
theorem u32_and {a b : Nat} (ha : a < 2 ^ 32) (hb : b < 2 ^ 32) : bits .and .u32 (a : Int) (b : Int) = ((a &&& b : Nat) : Int) := bits_and_nat .u32 32 (by decide) wraps_u32 a b ha hb
theorem pow_min {w : Nat} (h : w ≤ 32) : (2 : Int) ^ min w (IntKind.bits IntKind.u32) = ((2 ^ w : Nat) : Int) := by
  rw [show min w (IntKind.bits IntKind.u32) = w from Nat.min_eq_left h]; simp
theorem pow24 {w : Nat} (h : w ≤ 24) : 2 ^ w ≤ 16777216 := Nat.le_trans (Nat.pow_le_pow_right (by decide) h) (by decide)
theorem rem_top {w r x : Nat} (h1 : 1 ≤ w) (hw : w ≤ 24) (hr : r < 2 ^ w) (hx : x < 2) :
    bits BinOp.xor IntKind.u32 (bits BinOp.and IntKind.u32 (Int.fdiv (r : Int) ((2 : Int) ^ min (Int.toNat (IntKind.wrap IntKind.i64 ((w : Int) - (1 : Int)))) (IntKind.bits IntKind.u32))) (1 : Int)) (IntKind.wrap IntKind.u32 (x : Int)) = (((r / 2 ^ (w - 1) + x) % 2 : Nat) : Int) := by
  have hp := pow24 hw
  rw [i64w (n := (w : Int) - 1) (by omega), show Int.toNat ((w : Int) - 1) = w - 1 by omega, pow_min (by omega), fdiv_nat, u32_and1 (Nat.lt_of_le_of_lt (Nat.div_le_self _ _) (by omega)), wraps_u32 _ (by omega) (by omega), u32_xor (by omega) (by omega)]
  have h2 := xor_mod2 (r / 2 ^ (w - 1) % 2) x
  have h3 : (r / 2 ^ (w - 1) % 2) ^^^ x < 2 ^ 1 := Nat.xor_lt_two_pow (by omega) (by omega)
  omega
theorem rem_shl {w r : Nat} (h1 : 1 ≤ w) (hw : w ≤ 24) (hr : r < 2 ^ w) :
    bits BinOp.and IntKind.u32 (IntKind.wrap IntKind.u32 ((r : Int) * (2 : Int) ^ min (1 : Nat) (IntKind.bits IntKind.u32))) (IntKind.wrap IntKind.u32 (IntKind.wrap IntKind.u32 ((1 : Int) * (2 : Int) ^ min (Int.toNat (w : Int)) (IntKind.bits IntKind.u32)) - (1 : Int))) = ((2 * r % 2 ^ w : Nat) : Int) := by
  have hp := pow24 hw
  have hpos := Nat.two_pow_pos w
  rw [Int.toNat_natCast, pow_min (w := 1) (by omega), pow_min (w := w) (by omega), Int.one_mul, wraps_u32 ((2 ^ w : Nat) : Int) (by omega) (by omega), wraps_u32 _ (by omega) (by omega),
    show (r : Int) * ((2 ^ 1 : Nat) : Int) = ((2 * r : Nat) : Int) by omega, wraps_u32 _ (by omega) (by omega), show ((2 ^ w : Nat) : Int) - 1 = ((2 ^ w - 1 : Nat) : Int) by omega, u32_and (by omega) (by omega), Nat.and_two_pow_sub_one_eq_mod]
theorem l_bits_remainder_0 : LoopOK E_bits_remainder 0 (loopAt (bodyOf Try.f113) 0) L_bits_remainder_0 := I_bits_remainder_0 <| by
  intro t5 t6 t7 t18 t19 t20 K hp ho
  obtain ⟨hb, hl, rfl, h2, h3, w, g, r, rfl, rfl, rfl, w1, w2, hg, hr⟩ := hp
  have hl' := hl
  rw [big_val] at hl'
  obtain ⟨n, rfl⟩ := Int.eq_ofNat_of_zero_le h2
  have e : ((n : Int) + 1).toNat = n + 1 := by omega
  have hp := pow24 w2
  unfold B_bits_remainder_0
  unfold o_bits_remainder_0 at ho ⊢
  have hx : ∃ x : Nat, t18.getD n 0 = x ∧ x < 2 := ⟨(t18.getD n 0).toNat, by rcases hb.getD n with h | h <;> rw [h] <;> rfl, by rcases hb.getD n with h | h <;> rw [h] <;> decide⟩
  obtain ⟨x, hx, hx2⟩ := hx
  simp only [Int.toNat_natCast (n := n), hx]
  rw [rem_top w1 w2 hr hx2]
  simp only [rem_shl w1 w2 hr]
  have hs := Nat.mod_lt (2 * r) (Nat.two_pow_pos w)
  rw [u32_xor (by omega) (by omega)]
  simp only [Int.toNat_natCast, i64w (n := (n : Int) + 1) (by omega), i64w (n := (w : Int) - 1) (by omega), e] at ho ⊢
  simp only [condP_iff, decide_eq_true_eq, decide_eq_false_iff_not, beq_iff_eq, beq_eq_false_iff_ne]
  refine ⟨fun hlt => ⟨h2, hlt, by omega, by decide, by omega, fun ht => ?_, fun ht => ?_⟩, fun hge => ?_⟩
  · have hst : stepS w g r x = 2 * r % 2 ^ w ^^^ g := by unfold stepS; rw [if_pos (by omega)]
    refine ⟨⟨hb, hl, rfl, by omega, by omega, w, g, _, rfl, rfl, rfl, w1, w2, hg, Nat.xor_lt_two_pow hs hg⟩, by unfold m_bits_remainder_0; omega, ?_⟩
    rw [drop_cons t18 n 0 (by omega), hx, runS, Int.toNat_natCast, hst] at ho
    exact ho
  · have hst : stepS w g r x = 2 * r % 2 ^ w := by unfold stepS; rw [if_neg (by omega)]
    refine ⟨⟨hb, hl, rfl, by omega, by omega, w, g, _, rfl, rfl, rfl, w1, w2, hg, hs⟩, by unfold m_bits_remainder_0; omega, ?_⟩
    rw [drop_cons t18 n 0 (by omega), hx, runS, Int.toNat_natCast, hst] at ho
    exact ho
  · rw [List.drop_eq_nil_of_le (by omega), runS] at ho
    exact ho
theorem l_bits_remainder_2 : LoopOK E_bits_remainder 2 (loopAt (bodyOf Try.f113) 2) L_bits_remainder_2 := I_bits_remainder_2 <| by
  intro t5 t7 t47 t48 r0 K hp ho
  obtain ⟨rfl, h2, h3, h4, h5, h6, h7⟩ := hp
  obtain ⟨n, rfl⟩ := Int.eq_ofNat_of_zero_le h2
  obtain ⟨r, rfl⟩ := Int.eq_ofNat_of_zero_le h6
  obtain ⟨w, rfl⟩ := Int.eq_ofNat_of_zero_le (a := t47) (by omega)
  have e : ((n : Int) + 1).toNat = n + 1 := by omega
  unfold B_bits_remainder_2
  unfold o_bits_remainder_2 at ho ⊢
  simp only [condP_iff, decide_eq_true_eq, decide_eq_false_iff_not]
  refine ⟨fun hlt => ?_, fun hge => ?_⟩
  · have hv : IntKind.wrap IntKind.u8 (bits BinOp.and IntKind.u32 (Int.fdiv (r : Int) ((2 : Int) ^ min (Int.toNat (IntKind.wrap IntKind.i64 (IntKind.wrap IntKind.i64 ((w : Int) - (1 : Int)) - (n : Int)))) (IntKind.bits IntKind.u32))) (1 : Int)) = ((r / 2 ^ (w - 1 - n) % 2 : Nat) : Int) := by
      rw [i64w (n := (w : Int) - 1) (by omega), i64w (n := (w : Int) - 1 - (n : Int)) (by omega), show Int.toNat ((w : Int) - 1 - (n : Int)) = w - 1 - n by omega, pow_min (by omega), fdiv_nat, u32_and1 (Nat.lt_of_le_of_lt (Nat.div_le_self _ _) (by omega)), IntWalk.u8_in _ (by omega)]
    rw [hv]
    simp only [Int.toNat_natCast, i64w (n := (n : Int) + 1) (by omega), i64w (n := (w : Int) - 1) (by omega), i64w (n := (w : Int) - 1 - (n : Int)) (by omega), e] at ho ⊢
    refine ⟨by omega, h2, by omega, ⟨rfl, by omega, by omega, h4, by rw [List.length_set]; exact h5, h6, h7⟩, by unfold m_bits_remainder_2; omega, ?_⟩
    rw [fill_step r0 (fun i => ((r / 2 ^ (w - 1 - i) % 2 : Nat) : Int)) (by omega)]; exact ho
  · simp only [Int.toNat_natCast] at ho
    rw [fill_end _ _ (by omega)] at ho; exact ho
theorem sG_lt {k : Int} (h : sW k ≠ 0) : sG k < 2 ^ sW k ∧ 1 ≤ sW k := by
  rcases sW_ok h with rfl | rfl | rfl | rfl <;> decide
theorem runS_lt {w g : Nat} (hg : g < 2 ^ w) : ∀ (b : List Int) (r : Nat), r < 2 ^ w → runS w g r b < 2 ^ w
  | [], _, h => h
  | _ :: b, _, _ => runS_lt hg b _ (stepS_lt hg)
theorem ok_bits_remainder : SumOK Try.prog 113 S_bits_remainder := by
  refine whole_bits_remainder ok_bits_divisor l_bits_remainder_0 l_bits_remainder_2 ?_
  intro a0 a1 ⟨h1, h2, h3⟩
  unfold W_bits_remainder
  obtain ⟨g1, g2⟩ := sG_lt h3
  have g3 := sW_le a1
  have hp := pow24 g3
  have hlt := runS_lt g1 a0 0 (by omega)
  simp only [Int.toNat_natCast, List.drop_zero, List.length_replicate]
  refine ⟨trivial, ⟨h1, h2, rfl, by omega, by omega, _, _, 0, rfl, rfl, rfl, g2, g3, g1, by omega⟩, by omega, by omega, by omega, ⟨rfl, by omega, by omega, by omega, by simp, by omega, by omega⟩, ?_, trivial⟩
  rw [fill_zero, List.length_replicate]; rfl
theorem ok_slices_Grow_byte_byte : SumOK Try.prog 125 S_slices_Grow_byte_byte := by
  refine whole_slices_Grow_byte_byte ?_
  intro a0 a1 ⟨h1, h2⟩
  unfold W_slices_Grow_byte_byte
  have e : IntKind.wrap IntKind.i64 (a1 - IntKind.wrap IntKind.i64 ((0 : Int) - (0 : Int))) = a1 := by
    rw [show IntKind.wrap IntKind.i64 ((0 : Int) - (0 : Int)) = 0 from by decide, Int.sub_zero, i64w (by omega)]
  simp only [e, condP_iff, decide_eq_true_eq, decide_eq_false_iff_not, List.length_replicate]
  refine ⟨fun h => by omega, fun _ => ⟨fun _ => ⟨by decide, by decide, by decide, by omega, by omega, by omega, by decide, by decide, by omega, ?_, trivial⟩, fun _ => ⟨rfl, trivial⟩⟩⟩
  exact List.drop_nil
theorem flatten_take_succ {l : List (List Int)} {n : Nat} (h : n < l.length) : (l.take (n + 1)).flatten = (l.take n).flatten ++ l.getD n [] := by
  rw [List.take_succ_eq_append_getElem h, List.flatten_append, List.getD_eq_getElem?_getD, List.getElem?_eq_getElem h]; simp
theorem flatten_take_le (l : List (List Int)) (n : Nat) : (l.take n).flatten.length ≤ l.flatten.length := by
  have : l.flatten = (l.take n).flatten ++ (l.drop n).flatten := by rw [← List.flatten_append, List.take_append_drop]
  rw [this, List.length_append]; omega
theorem l_slices_Concat_byte_byte_0 : LoopOK E_slices_Concat_byte_byte 0 (loopAt (bodyOf Try.f110) 0) L_slices_Concat_byte_byte_0 := I_slices_Concat_byte_byte_0 <| by
  intro t0 t3 t9 t10 t11 K hp ho
  obtain ⟨rfl, rfl, h2, h3, h4, h5, rfl⟩ := hp
  obtain ⟨n, rfl⟩ := Int.eq_ofNat_of_zero_le h2
  have e : ((n : Int) + 1).toNat = n + 1 := by omega
  unfold B_slices_Concat_byte_byte_0
  unfold o_slices_Concat_byte_byte_0 at ho ⊢
  simp only [Int.toNat_natCast]
  have hle := flatten_take_le t9 (n + 1)
  by_cases hlt : n < t9.length
  · have hf := flatten_take_succ hlt
    have hfl : (t9.take (n + 1)).flatten.length = (t9.take n).flatten.length + (t9.getD n []).length := by rw [hf, List.length_append]
    have e1 : IntKind.wrap IntKind.i64 (((t9.take n).flatten.length : Int) + ((t9.getD n []).length : Int)) = ((t9.take (n + 1)).flatten.length : Int) := by rw [i64w (by omega)]; omega
    simp only [e1, i64w (n := (n : Int) + 1) (by omega)]
    simp only [condP_iff, decide_eq_true_eq, decide_eq_false_iff_not]
    refine ⟨fun _ => ⟨h2, by omega, fun h => by omega, fun _ => ⟨⟨rfl, rfl, by omega, by omega, h4, h5, by rw [e]⟩, by unfold m_slices_Concat_byte_byte_0; omega, ho⟩⟩, fun h => by omega⟩
  · rw [condP_iff]
    simp only [decide_eq_true_eq, decide_eq_false_iff_not]
    refine ⟨fun h => by omega, fun _ => ?_⟩
    rw [List.take_of_length_le (by omega)]
    exact ho
theorem l_slices_Concat_byte_byte_2 : LoopOK E_slices_Concat_byte_byte 2 (loopAt (bodyOf Try.f110) 2) L_slices_Concat_byte_byte_2 := I_slices_Concat_byte_byte_2 <| by
  intro t25 t26 t27 r0 K hp ho
  obtain ⟨rfl, h2, h3, h4, h5, rfl⟩ := hp
  obtain ⟨n, rfl⟩ := Int.eq_ofNat_of_zero_le h2
  have e : ((n : Int) + 1).toNat = n + 1 := by omega
  unfold B_slices_Concat_byte_byte_2
  unfold o_slices_Concat_byte_byte_2 at ho ⊢
  simp only [Int.toNat_natCast, List.append_eq]
  have hle := flatten_take_le t25 (n + 1)
  by_cases hlt : n < t25.length
  · have hf := flatten_take_succ hlt
    have hfl : (t25.take (n + 1)).flatten.length = (t25.take n).flatten.length + (t25.getD n []).length := by rw [hf, List.length_append]
    rw [← hf, i64w (n := (n : Int) + 1) (by omega)]
    simp only [condP_iff, decide_eq_true_eq, decide_eq_false_iff_not]
    refine ⟨fun _ => ⟨h2, by omega, by omega, ⟨rfl, by omega, by omega, h4, h5, by rw [e]⟩, by unfold m_slices_Concat_byte_byte_2; omega, ho⟩, fun h => by omega⟩
  · rw [condP_iff]
    simp only [decide_eq_true_eq, decide_eq_false_iff_not]
    refine ⟨fun h => by omega, fun _ => ?_⟩
    rw [List.take_of_length_le (by omega)]
    exact ho
theorem ok_slices_Concat_byte_byte : SumOK Try.prog 110 S_slices_Concat_byte_byte := by
  refine whole_slices_Concat_byte_byte ok_slices_Grow_byte_byte l_slices_Concat_byte_byte_0 l_slices_Concat_byte_byte_2 ?_
  intro a0 ⟨h1, h2⟩
  unfold W_slices_Concat_byte_byte
  exact ⟨⟨rfl, rfl, by omega, by omega, h1, h2, rfl⟩, ⟨by omega, by omega⟩, ⟨rfl, by omega, by omega, h1, h2, rfl⟩, rfl, trivial⟩
theorem l_slices_Equal_byte_byte_0 : LoopOK E_slices_Equal_byte_byte 0 (loopAt (bodyOf Try.f112) 0) L_slices_Equal_byte_byte_0 := I_slices_Equal_byte_byte_0 <| by
  intro t0 t1 t12 t13 K hp ho
  obtain ⟨rfl, h2, h3, h4, h5⟩ := hp
  have h4' := h4
  rw [big_val] at h4'
  obtain ⟨n, rfl⟩ := Int.eq_ofNat_of_zero_le h2
  have e : ((n : Int) + 1).toNat = n + 1 := by omega
  unfold B_slices_Equal_byte_byte_0
  unfold o_slices_Equal_byte_byte_0 at ho ⊢
  simp only [Int.toNat_natCast, i64w (n := (n : Int) + 1) (by omega), e] at ho ⊢
  simp only [condP_iff, decide_eq_true_eq, decide_eq_false_iff_not, bne_iff_ne, ne_eq, bne_eq_false_iff_eq] at ho ⊢
  refine ⟨fun hlt => ⟨h2, hlt, h2, by omega, fun hne => ho.2 fun h => ?_, fun he => ⟨⟨rfl, by omega, by omega, h4, h5⟩, by unfold m_slices_Equal_byte_byte_0; omega, ?_⟩⟩, fun hge => ho.1 ?_⟩
  · rw [drop_cons t0 n 0 (by omega), drop_cons t1 n 0 (by omega)] at h
    exact hne (List.cons.inj h).1
  · rw [drop_cons t0 n 0 (by omega), drop_cons t1 n 0 (by omega), he] at ho
    simpa using ho
  · rw [List.drop_eq_nil_of_le (by omega), List.drop_eq_nil_of_le (by omega)]
theorem ok_slices_Equal_byte_byte : SumOK Try.prog 112 S_slices_Equal_byte_byte := by
  refine whole_slices_Equal_byte_byte l_slices_Equal_byte_byte_0 ?_
  intro a0 a1 h
  unfold W_slices_Equal_byte_byte
  simp only [condP_iff, List.drop_zero, bne_iff_ne, ne_eq, bne_eq_false_iff_eq]
  refine ⟨fun hl => ⟨(decide_eq_false (fun e => hl (by rw [e]))).symm, trivial⟩, fun hl => ⟨⟨rfl, by omega, by omega, h, by omega⟩, fun h => ⟨h.symm, trivial⟩, fun h => ⟨h.symm, trivial⟩⟩⟩
theorem ok_bits_Sum : SumOK Try.prog 109 S_bits_Sum := by
  refine whole_bits_Sum ok_bits_Check ok_bits_Width ok_bits_remainder ?_
  intro a0 a1 h
  unfold W_bits_Sum
  simp only [condP_iff, bne_iff_ne, ne_eq, bne_eq_false_iff_eq, beq_iff_eq, beq_eq_false_iff_ne]
  refine ⟨h, fun hb => ?_, fun hb => ⟨trivial, fun hw => ?_, fun hw => ?_⟩⟩
  · have he : sumErr a0 a1 = bitsErr a0 := by unfold sumErr; rw [if_pos hb]
    exact ⟨by unfold sumOf; rw [if_neg (by rw [he]; exact hb)], he.symm, trivial⟩
  · have he : sumErr a0 a1 = 1 := by unfold sumErr; rw [if_neg (by simpa using hb), if_pos (by omega)]
    exact ⟨by unfold sumOf; rw [if_neg (by rw [he]; decide)], he.symm, trivial⟩
  · have he : sumErr a0 a1 = 0 := by unfold sumErr; rw [if_neg (by simpa using hb), if_neg (by omega)]
    exact ⟨⟨(bitsErr_ok hb).1, h.1, by omega⟩, by unfold sumOf; rw [if_pos he], he.symm, trivial⟩
theorem sumErr_ok {b : List Int} {k : Int} (h : sumErr b k = 0) : bitsErr b = 0 ∧ sW k ≠ 0 := by
  unfold sumErr at h
  split at h
  · contradiction
  · rename_i h1
    split at h
    · omega
    · rename_i h2; exact ⟨by simpa using h1, h2⟩
theorem sumL_length (b : List Int) (k : Int) : (sumL b k).length = sW k := outS_length _ _
theorem ok_bits_Seal : SumOK Try.prog 65 S_bits_Seal := by
  refine whole_bits_Seal ok_bits_Sum ok_slices_Concat_byte_byte ?_
  intro a0 a1 h
  unfold W_bits_Seal
  simp only [condP_iff, bne_iff_ne, ne_eq, bne_eq_false_iff_eq, decide_eq_true_eq, decide_eq_false_iff_not]
  refine ⟨h, fun hb => ?_, fun hb => ?_⟩
  · have he : sealErr a0 a1 = sumErr a0 a1 := by unfold sealErr; rw [if_pos hb]
    exact ⟨by unfold sealOf; rw [if_neg (by rw [he]; exact hb)], he.symm, trivial⟩
  · have hs : sumOf a0 a1 = sumL a0 a1 := by unfold sumOf; rw [if_pos hb]
    have hl := sumL_length a0 a1
    have hw := sW_le a1
    have hb4 := (bitsErr_ok (sumErr_ok hb).1).2
    rw [hs, i64w (by omega)]
    refine ⟨fun hc => ?_, fun hc => ?_⟩
    · have he : sealErr a0 a1 = 2 := by unfold sealErr; rw [if_neg (by simpa using hb), if_pos (by omega)]
      exact ⟨by unfold sealOf; rw [if_neg (by rw [he]; decide)], he.symm, trivial⟩
    · have he : sealErr a0 a1 = 0 := by unfold sealErr; rw [if_neg (by simpa using hb), if_neg (by omega)]
      have hf : [a0, sumL a0 a1].flatten = a0 ++ sumL a0 a1 := by simp
      exact ⟨⟨by simp, by rw [hf, List.length_append]; omega⟩, by rw [hf]; unfold sealOf; rw [if_pos he], he.symm, trivial⟩
theorem cutL_drop (a : List Int) (q : Nat) : cutL a (some (q : Int)) none = a.drop q := by
  show (a.take (Int.toNat (a.length : Int))).drop (Int.toNat (q : Int)) = _
  rw [Int.toNat_natCast, Int.toNat_natCast, List.take_length]
theorem ok_bits_Open : SumOK Try.prog 67 S_bits_Open := by
  refine whole_bits_Open ok_bits_Check ok_bits_Width ok_bits_remainder ok_slices_Equal_byte_byte ok_slices_Clone_byte_byte ?_
  intro a0 a1 h
  unfold W_bits_Open
  rw [condP_iff, condP_iff]
  simp only [bne_iff_ne, ne_eq, bne_eq_false_iff_eq, beq_iff_eq, beq_eq_false_iff_ne]
  refine ⟨h, fun hb => ?_, fun hb => ⟨trivial, fun hw => ?_, fun hw => ?_⟩⟩
  · have he : sumErr a0 a1 = bitsErr a0 := by unfold sumErr; rw [if_pos hb]
    have ho : openOk a0 a1 = false := decide_eq_false fun h => hb (by rw [← he]; exact h.1)
    exact ⟨by unfold openOf; rw [ho]; rfl, ho.symm, he.symm, trivial⟩
  · have he : sumErr a0 a1 = 1 := by unfold sumErr; rw [if_neg (by simpa using hb), if_pos (by omega)]
    have ho : openOk a0 a1 = false := decide_eq_false fun h => by have := h.1; rw [he] at this; cases this
    exact ⟨by unfold openOf; rw [ho]; rfl, ho.symm, he.symm, trivial⟩
  · have he : sumErr a0 a1 = 0 := by unfold sumErr; rw [if_neg (by simpa using hb), if_neg (by omega)]
    obtain ⟨hbits, hb4⟩ := bitsErr_ok hb
    have hw4 := sW_le a1
    rw [i64w (n := (a0.length : Int) - (sW a1 : Int)) (by omega)]
    by_cases hn : sW a1 ≤ a0.length
    · have en : (a0.length : Int) - (sW a1 : Int) = ((a0.length - sW a1 : Nat) : Int) := by omega
      rw [en]
      have hd : decide (((a0.length - sW a1 : Nat) : Int) < 0) = false := decide_eq_false (by omega)
      simp only [hd, cutL_take, cutL_drop, forall_const, Bool.false_eq_true, if_false]
      have htl : (a0.take (a0.length - sW a1)).length = a0.length - sW a1 := by rw [List.length_take]; omega
      refine ⟨by decide, by omega, by omega, ⟨Bits.take (l := a0) hbits _, by rw [htl, big_val]; omega, by omega⟩, by omega, by omega, by omega, by rw [sumL_length, big_val]; omega, ?_⟩
      rw [condP_iff]
      simp only [Bool.not_eq_true', decide_eq_false_iff_not, Bool.not_eq_false', decide_eq_true_eq]
      refine ⟨fun hne => ?_, fun heq => ?_⟩
      · have ho : openOk a0 a1 = false := decide_eq_false fun h => hne h.2.2
        exact ⟨by unfold openOf; rw [ho]; rfl, ho.symm, he.symm, trivial⟩
      · have ho : openOk a0 a1 = true := decide_eq_true ⟨he, hn, heq⟩
        exact ⟨by decide, by omega, by omega, by rw [htl]; omega, by unfold openOf; rw [ho]; rfl, ho.symm, he.symm, trivial⟩
    · have hd : decide ((a0.length : Int) - (sW a1 : Int) < 0) = true := decide_eq_true (by omega)
      have ho : openOk a0 a1 = false := decide_eq_false fun h => hn h.2.1
      simp only [hd, Bool.true_eq_false, false_implies, if_true, true_and]
      exact (condP_t rfl).2 ⟨by unfold openOf; rw [ho]; rfl, ho.symm, he.symm, trivial⟩
theorem u8_flip {x : Int} (h : x = 0 ∨ x = 1) : bits BinOp.xor IntKind.u8 x 1 = (x + 1) % 2 := by
  rcases h with rfl | rfl <;> decide
theorem divL_ok {k : Int} (h : sW k ≠ 0) : okD (divL k) (sW k) ∧ (divL k).getD 0 0 = sW k ∧ 1 ≤ (divL k).length := by
  rcases sW_ok h with rfl | rfl | rfl | rfl
  · exact ⟨⟨by decide, by decide, by decide⟩, rfl, by decide⟩
  · exact ⟨⟨by decide, by decide, by decide⟩, rfl, by decide⟩
  · exact ⟨⟨by decide, by decide, by decide⟩, rfl, by decide⟩
  · exact ⟨⟨by decide, by decide, by decide⟩, rfl, by decide⟩
end Go.Spec
