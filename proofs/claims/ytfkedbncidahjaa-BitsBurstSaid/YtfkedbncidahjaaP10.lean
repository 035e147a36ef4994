/- Sums are linear. -/
import Derived.Test.YtfkedbncidahjaaV6
import Derived.Test.YtfkedbncidahjaaP9
import Derived.Test.YtfkedbncidahjaaP5
set_option linter.unusedVariables false
set_option linter.unusedSimpArgs false
namespace Go.Spec
open Go Go.Lift Go.Proofs
attribute [local irreducible] Go.Lift.awp Go.Lift.LoopOK Go.Lift.SumOK
theorem two_xor (a b : Nat) : 2 * (a ^^^ b) = 2 * a ^^^ 2 * b := by
  apply Nat.eq_of_testBit_eq
  intro i
  rw [Nat.testBit_xor]
  cases i with
  | zero => simp [Nat.testBit_zero]
  | succ i => rw [Nat.testBit_succ, Nat.testBit_succ, Nat.testBit_succ, Nat.mul_div_cancel_left _ (by omega), Nat.mul_div_cancel_left _ (by omega), Nat.mul_div_cancel_left _ (by omega), Nat.testBit_xor]
theorem stepS_xor {w g r s x y : Nat} (hx : x < 2) (hy : y < 2) : stepS w g (r ^^^ s) ((x + y) % 2) = stepS w g r x ^^^ stepS w g s y := by
  have hb := bit_xor r s (w - 1)
  have hm : 2 * (r ^^^ s) % 2 ^ w = 2 * r % 2 ^ w ^^^ 2 * s % 2 ^ w := by rw [two_xor, Nat.xor_mod_two_pow]
  unfold stepS
  rw [hm]
  generalize 2 * r % 2 ^ w = A
  generalize 2 * s % 2 ^ w = B
  by_cases h1 : (r / 2 ^ (w - 1) + x) % 2 = 1 <;> by_cases h2 : (s / 2 ^ (w - 1) + y) % 2 = 1
  · rw [if_neg (by omega), if_pos h1, if_pos h2]
    apply Nat.eq_of_testBit_eq; intro i
    simp only [Nat.testBit_xor]
    cases A.testBit i <;> cases B.testBit i <;> cases g.testBit i <;> rfl
  · rw [if_pos (by omega), if_pos h1, if_neg h2]
    apply Nat.eq_of_testBit_eq; intro i
    simp only [Nat.testBit_xor]
    cases A.testBit i <;> cases B.testBit i <;> cases g.testBit i <;> rfl
  · rw [if_pos (by omega), if_neg h1, if_pos h2]
    apply Nat.eq_of_testBit_eq; intro i
    simp only [Nat.testBit_xor]
    cases A.testBit i <;> cases B.testBit i <;> cases g.testBit i <;> rfl
  · rw [if_neg (by omega), if_neg h1, if_neg h2]
theorem addL_cons (x y : Int) (a b : List Int) : addL (x :: a) (y :: b) = (x + y) % 2 :: addL a b := by
  unfold addL
  rw [List.length_cons, seg_cons _ (by omega), List.getD_cons_zero, List.getD_cons_zero]
  congr 1
  refine list_ext (by rw [seg_length, seg_length]; omega) fun k hk => ?_
  rw [seg_length] at hk
  rw [seg_getD _ (by omega)]
  unfold seg
  rw [List.getD_eq_getElem?_getD, List.getElem?_map, List.getElem?_range (by omega)]
  simp only [Option.map_some, Option.getD_some, Nat.add_comm 1 k, List.getD_cons_succ]
theorem runS_xor {w g : Nat} : ∀ (a b : List Int) (r s : Nat), Bits a → Bits b → a.length = b.length → runS w g (r ^^^ s) (addL a b) = runS w g r a ^^^ runS w g s b
  | [], [], _, _, _, _, _ => rfl
  | x :: a, y :: b, r, s, ha, hb, hl => by
    have h1 := ha x (List.mem_cons_self ..)
    have h2 := hb y (List.mem_cons_self ..)
    rw [addL_cons, runS, runS, runS, show ((x + y) % 2).toNat = (x.toNat + y.toNat) % 2 by omega, stepS_xor (by omega) (by omega)]
    exact runS_xor a b _ _ (fun z hz => ha z (List.mem_cons_of_mem _ hz)) (fun z hz => hb z (List.mem_cons_of_mem _ hz)) (by simpa using hl)
theorem outS_xor (w r s : Nat) : outS w (r ^^^ s) = addL (outS w r) (outS w s) := by
  refine list_ext (by rw [addL_length, outS_length, outS_length]) fun k hk => ?_
  rw [outS_length] at hk
  rw [addL_getD (by rw [outS_length]; exact hk)]
  unfold outS
  rw [seg_getD _ hk, seg_getD _ hk, seg_getD _ hk, bit_xor]
  omega
theorem sumL_add {a b : List Int} {k : Int} (ha : Bits a) (hb : Bits b) (hl : a.length = b.length) : sumL (addL a b) k = addL (sumL a k) (sumL b k) := by
  unfold sumL
  rw [← outS_xor, ← runS_xor a b 0 0 ha hb hl]; rfl
theorem pk_bit {b : List Int} (hb : Bits b) (q : Nat) : ∀ k r, r < k → pk b q k / 2 ^ (k - 1 - r) % 2 = b.getD (8 * q + r) 0
  | k + 1, r, hr => by
    have hx := hb.getD (8 * q + k)
    have hp := (pk_bounds hb q k).1
    simp only [pk]
    by_cases h : r = k
    · subst h
      rw [show r + 1 - 1 - r = 0 by omega, Int.pow_zero, Int.ediv_one]
      omega
    · have ih := pk_bit hb q k r (by omega)
      rw [show k + 1 - 1 - r = (k - 1 - r) + 1 by omega, Int.pow_succ, Int.mul_comm (2 ^ (k - 1 - r)) 2, ← Int.ediv_ediv_of_nonneg (by omega), show (pk b q k * 2 + b.getD (8 * q + k) 0) / 2 = pk b q k by omega]
      exact ih
theorem strBytes_nums {l : List Int} (h : ∀ x ∈ l, 0 ≤ x ∧ x < 256) : strBytes (strOfNums l) = l := by
  unfold strBytes strOfNums
  simp only [List.map_map]
  conv => rhs; rw [← List.map_id l]
  refine List.map_congr_left fun x hx => ?_
  have := h x hx
  simp only [Function.comp, id]
  rw [UInt8.toNat_ofNat']
  omega
theorem packL_range {b : List Int} (hb : Bits b) : ∀ x ∈ packL b, 0 ≤ x ∧ x < 256 := by
  intro x hx
  unfold packL seg at hx
  simp only [List.mem_map] at hx
  obtain ⟨j, _, rfl⟩ := hx
  exact pk_bounds hb _ 8
theorem unpack_pack {b : List Int} (hb : Bits b) (hl : b.length ≤ 4096) : unpackErr (packS b) b.length = 0 ∧ unpackL (packS b) b.length = b := by
  have hs := strBytes_nums (packL_range hb)
  have hsz : (packS b).size = (b.length + 7) / 8 := by
    rw [← strBytes_length]; unfold packS; rw [hs]; unfold packL; rw [seg_length]; omega
  have he : unpackErr (packS b) b.length = 0 := by
    unfold unpackErr
    rw [hsz, if_neg (by omega), if_neg (by omega)]
  refine ⟨he, ?_⟩
  unfold unpackL
  rw [if_pos he]
  refine list_ext (by rw [seg_length]; omega) fun k hk => ?_
  rw [seg_length] at hk
  rw [seg_getD _ (by omega)]
  unfold bitAt packS
  rw [hs]
  unfold packL
  rw [seg_getD _ (by omega)]
  have := pk_bit hb (k / 8) 8 (k % 8) (by omega)
  rw [show 8 * (k / 8) + k % 8 = k by omega] at this
  exact this
theorem cov_eq {a : List Int} {s : Int} (h : coverErr a s = 0) : coverL a s = addL (noiseL s a.length) a := by unfold coverL; rw [if_pos h]
theorem cover_twice {a : List Int} {s : Int} (h : coverErr a s = 0) : coverErr (coverL a s) s = 0 ∧ coverL (coverL a s) s = a := by
  have h0 := h
  unfold coverErr at h0
  split at h0
  · rename_i hb
    obtain ⟨hbits, hl⟩ := bitsErr_ok hb
    have hbs : badSeed s a.length = false := by
      cases hq : badSeed s a.length with
      | false => rfl
      | true => rw [hq] at h0; simp at h0
    have hsd := badSeed_ok hbs
    have hnl : (noiseL s a.length).length = a.length := by rw [noise_length]; omega
    have hc : coverL a s = addL a (noiseL s a.length) := by unfold coverL; rw [if_pos h]; exact addL_comm hnl
    have hcl : (coverL a s).length = a.length := by rw [hc, addL_length]
    have hcb : Bits (coverL a s) := by rw [hc]; exact addL_bits _ _
    have he : coverErr (coverL a s) s = 0 := by
      unfold coverErr
      rw [if_pos (bitsErr_bits hcb (by omega)), hcl, hbs]; rfl
    refine ⟨he, ?_⟩
    rw [cov_eq he, hcl, addL_comm (by rw [hcl]; exact hnl), hc, addL_self hbits hnl.symm]
  · contradiction
theorem ok_keep_BitsLinear : SumOK Try.prog 9 S_keep_BitsLinear := by
  refine whole_keep_BitsLinear ok_keep_good ok_bits_Sum ok_R_Added ok_R_SameBits ok_bits_Cover ok_bits_Pack ok_bits_Unpack ok_R_Divisor ?_
  intro a0 a1 a2 a3 ⟨⟨h1, h2⟩, h3, h4⟩
  unfold W_keep_BitsLinear
  have ga := goodL_bits (b := a0) (n := 4096)
  have gb := goodL_bits (b := a1) (n := 4096)
  have la := goodL_length (b := a0) (n := 4096)
  have lb := goodL_length (b := a1) (n := 4096)
  refine ⟨⟨h1, h2, by decide, by decide⟩, ⟨h3, h4, by decide, by decide⟩, ?_⟩
  generalize goodL a0 4096 = a at *
  generalize goodL a1 4096 = b at *
  have hn : lesser false (a.length : Int) (b.length : Int) = ((min a.length b.length : Nat) : Int) := by
    unfold lesser; simp only [Bool.false_eq_true, if_false]; split <;> omega
  rw [hn, cutL_take, cutL_take]
  have hla : (a.take (min a.length b.length)).length = min a.length b.length := by rw [List.length_take]; omega
  have hlb : (b.take (min a.length b.length)).length = min a.length b.length := by rw [List.length_take]; omega
  have hnl : min a.length b.length ≤ 4096 := by omega
  have ga' := ga.take (min a.length b.length)
  have gb' := gb.take (min a.length b.length)
  refine ⟨by decide, by omega, by omega, by omega, by decide, by omega, by omega, by omega, ?_⟩
  generalize min a.length b.length = n at *
  generalize a.take n = A at *
  generalize b.take n = B at *
  subst hla
  have hbA := bitsErr_bits ga' (by omega)
  have hbB := bitsErr_bits gb' (by omega)
  have hbAB := bitsErr_bits (addL_bits A B) (by rw [addL_length]; omega)
  have lAB := addL_length A B
  have hAbig : (A.length : Int) ≤ big := by rw [big_val]; omega
  have hw4 := sW_le a2
  refine ⟨⟨hAbig, ga'.nonneg⟩, ⟨by rw [hlb]; exact hAbig, gb'.nonneg⟩, ⟨ga', gb', by omega, by omega⟩, ⟨by rw [lAB]; exact hAbig, (addL_bits _ _).nonneg⟩, ?_⟩
  have hsum : sumErr A a2 = 0 → sumOf A a2 = sumL A a2 ∧ sumOf B a2 = sumL B a2 ∧ sumOf (addL A B) a2 = addL (sumL A a2) (sumL B a2) := fun h => by
    have hw := (sumErr_ok h).2
    have hB : sumErr B a2 = 0 := by unfold sumErr; rw [if_neg (by simpa using hbB), if_neg hw]
    have hAB : sumErr (addL A B) a2 = 0 := by unfold sumErr; rw [if_neg (by simpa using hbAB), if_neg hw]
    exact ⟨by unfold sumOf; rw [if_pos h], by unfold sumOf; rw [if_pos hB], by unfold sumOf; rw [if_pos hAB, sumL_add ga' gb' hlb.symm]⟩
  refine ⟨fun h => ?_, fun h => ?_, (condP_f ?_).2 ?_⟩
  · obtain ⟨q1, q2, q3⟩ := hsum (by simpa using h)
    rw [q1, q2]
    exact ⟨outS_bits _ _, outS_bits _ _, by rw [sumL_length, sumL_length]; omega, by rw [sumL_length]; omega⟩
  · obtain ⟨q1, q2, q3⟩ := hsum (by simpa using h)
    rw [q3, addL_length, sumL_length, big_val]; omega
  · by_cases h : sumErr A a2 = 0
    · obtain ⟨q1, q2, q3⟩ := hsum h
      rw [q1, q2, q3]; simp
    · have : (sumErr A a2 == 0) = false := by simpa using h
      rw [this]; rfl
  obtain ⟨u1, u2⟩ := unpack_pack ga' hnl
  rw [if_pos hbA, u1, u2]
  have hcl : ((coverL A a3).length : Int) ≤ big ∧ ∀ y ∈ coverL A a3, 0 ≤ y := by
    by_cases hc : coverErr A a3 = 0
    · refine ⟨by rw [coverL_length _ _ hc]; exact hAbig, ?_⟩
      have : Bits (coverL A a3) := by unfold coverL; rw [if_pos hc]; exact addL_bits _ _
      exact this.nonneg
    · rw [coverL_bad hc]; exact ⟨by rw [big_val]; decide, fun y hy => by simp at hy⟩
  have hsz : ((packS A).size : Int) ≤ big := by
    rw [← strBytes_length]; unfold packS; rw [strBytes_nums (packL_range ga')]; unfold packL; rw [seg_length, big_val]; omega
  have hcov : (if (coverErr A a3 != (0 : Int)) = true then true else if (coverErr (coverL A a3) a3 == (0 : Int)) = true then decide (coverL (coverL A a3) a3 = A) else false) = true := by
    by_cases hc : coverErr A a3 = 0
    · obtain ⟨c1, c2⟩ := cover_twice hc
      rw [c1, c2]; simp
    · rw [if_pos (by simpa using hc)]
  refine ⟨⟨hAbig, ga'.nonneg⟩, hcl, ⟨hAbig, ga'.nonneg⟩, hsz, fun h => ?_, fun _ => hAbig, fun _ => trivial, ?_, trivial⟩
  · have hc : coverErr A a3 = 0 := by
      simp only [Bool.and_eq_true, beq_iff_eq, bne_eq_false_iff_eq] at h
      exact h.1
    rw [(cover_twice hc).2]; exact hAbig
  · rw [hcov]
    simp only [beq_self_eq_true, if_true, decide_true]
    by_cases h : sumErr A a2 = 0
    · rw [h]; rfl
    · have hw : sW a2 = 0 := by
        rcases Nat.eq_zero_or_pos (sW a2) with hw | hw
        · exact hw
        · exact (h (by unfold sumErr; rw [if_neg (by simpa using hbA), if_neg (by omega)])).elim
      rw [divL_nil.2 hw]; simp
theorem pre_keep_BitsLinear (x : dens S_keep_BitsLinear.par) (h : wfs S_keep_BitsLinear.par x) : S_keep_BitsLinear.pre x := by
  obtain ⟨a0, a1, a2, a3, ⟨⟩⟩ := x
  obtain ⟨⟨h1, h2⟩, ⟨h3, h4⟩, _⟩ := h
  have h1 : (List.length a0 : Int) ≤ 140737488351232 := h1
  have h3 : (List.length a1 : Int) ≤ 140737488351232 := h3
  refine ⟨⟨?_, fun y hy => (wfd_u8 (h2 y hy)).1⟩, ?_, fun y hy => (wfd_u8 (h4 y hy)).1⟩
  · rw [big_val]; show (List.length a0 : Int) ≤ _; omega
  · rw [big_val]; show (List.length a1 : Int) ≤ _; omega
end Go.Spec
