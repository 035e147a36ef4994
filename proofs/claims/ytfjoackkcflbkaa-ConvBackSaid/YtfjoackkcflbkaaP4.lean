/- The functions answer as told: the noise. -/
import Derived.Test.YtfjoackkcflbkaaV2
set_option linter.unusedVariables false
set_option linter.unusedSimpArgs false
namespace Go.Spec
open Go Go.Lift Go.Proofs
attribute [local irreducible] Go.Lift.awp Go.Lift.LoopOK Go.Lift.SumOK
theorem xor_mod2 (a b : Nat) : (a ^^^ b) % 2 = (a + b) % 2 := by
  have h := Nat.testBit_xor a b 0
  simp only [Nat.testBit_zero] at h
  have key : (a ^^^ b) % 2 = (a % 2 + b % 2) % 2 := by
    rcases Nat.mod_two_eq_zero_or_one a with h1 | h1 <;> rcases Nat.mod_two_eq_zero_or_one b with h2 | h2 <;> rw [h1, h2] at h ⊢ <;> rcases Nat.mod_two_eq_zero_or_one (a ^^^ b) with h3 | h3 <;> rw [h3] at h ⊢ <;> simp at h
  rw [key, ← Nat.add_mod]
theorem wraps_u32 (n : Int) (h₀ : 0 ≤ n) (h₁ : n < 2 ^ 32) : IntKind.u32.wrap n = n := by rw [IntKind.wrap_u32]; omega
theorem bits_xor_nat (k : IntKind) (j : Nat) (hj : j ≤ k.bits) (hk : ∀ n : Int, 0 ≤ n → n < 2 ^ j → k.wrap n = n) (a b : Nat) (ha : a < 2 ^ j) (hb : b < 2 ^ j) :
    bits .xor k a b = ((a ^^^ b : Nat) : Int) := by
  have hp : 2 ^ j ≤ 2 ^ k.bits := Nat.pow_le_pow_right (by decide) hj
  have ha' : a % 2 ^ k.bits = a := Nat.mod_eq_of_lt (Nat.lt_of_lt_of_le ha hp)
  have hb' : b % 2 ^ k.bits = b := Nat.mod_eq_of_lt (Nat.lt_of_lt_of_le hb hp)
  simp only [bits, BitVec.ofInt_natCast, BitVec.toNat_xor, BitVec.toNat_ofNat, ha', hb']
  have := Nat.xor_lt_two_pow ha hb
  exact hk _ (Int.natCast_nonneg _) (by exact_mod_cast this)
theorem u32_xor {a b : Nat} (ha : a < 2 ^ 32) (hb : b < 2 ^ 32) : bits .xor .u32 (a : Int) (b : Int) = ((a ^^^ b : Nat) : Int) := bits_xor_nat .u32 32 (by decide) wraps_u32 a b ha hb
theorem u32_and1 {a : Nat} (ha : a < 2 ^ 32) : bits .and .u32 (a : Int) 1 = ((a % 2 : Nat) : Int) := by
  have := bits_mask .u32 32 (by decide) wraps_u32 1 (by decide) (a : Int) (by omega) (by omega)
  simpa using this
theorem u32_or {a b : Nat} (ha : a < 2 ^ 30) (hb : b < 2) : bits .or .u32 (a : Int) (((b * 2 ^ 30 : Nat) : Nat) : Int) = ((a + b * 2 ^ 30 : Nat) : Int) := by
  have hn := (bits_nat .u32 32 (by decide) wraps_u32 a (b * 2 ^ 30) (by omega) (by omega)).2
  rw [hn, Nat.or_comm, Nat.mul_comm b, ← Nat.two_pow_add_eq_or_of_lt ha b, Nat.add_comm]
theorem fdiv_nat (a k : Nat) : Int.fdiv (a : Int) (k : Int) = ((a / k : Nat) : Int) := by
  rw [Int.fdiv_eq_ediv_of_nonneg _ (by omega)]; rfl
theorem regX {x : Nat} (h : x < 2 ^ 31) : bits BinOp.or IntKind.u32 (Int.fdiv (x : Int) ((2 : Int) ^ min (1 : Nat) (IntKind.bits IntKind.u32))) (IntKind.wrap IntKind.u32 (bits BinOp.and IntKind.u32 (bits BinOp.xor IntKind.u32 (Int.fdiv (x : Int) ((2 : Int) ^ min (3 : Nat) (IntKind.bits IntKind.u32))) (x : Int)) (1 : Int) * (2 : Int) ^ min (30 : Nat) (IntKind.bits IntKind.u32))) = (stepX x : Int) := by
  have e1 : (2 : Int) ^ min (1 : Nat) (IntKind.bits IntKind.u32) = ((2 : Nat) : Int) := by decide
  have e3 : (2 : Int) ^ min (3 : Nat) (IntKind.bits IntKind.u32) = ((8 : Nat) : Int) := by decide
  have e30 : (2 : Int) ^ min (30 : Nat) (IntKind.bits IntKind.u32) = ((2 ^ 30 : Nat) : Int) := by decide
  rw [e1, e3, e30, fdiv_nat, fdiv_nat, u32_xor (by omega) (by omega), u32_and1 (Nat.xor_lt_two_pow (by omega) (by omega)), xor_mod2]
  rw [← Int.natCast_mul, wraps_u32 _ (by omega) (by omega), u32_or (by omega) (by omega)]
  rfl
theorem regY {x : Nat} (h : x < 2 ^ 31) : bits BinOp.or IntKind.u32 (Int.fdiv (x : Int) ((2 : Int) ^ min (1 : Nat) (IntKind.bits IntKind.u32))) (IntKind.wrap IntKind.u32 (bits BinOp.and IntKind.u32 (bits BinOp.xor IntKind.u32 (bits BinOp.xor IntKind.u32 (bits BinOp.xor IntKind.u32 (Int.fdiv (x : Int) ((2 : Int) ^ min (3 : Nat) (IntKind.bits IntKind.u32))) (Int.fdiv (x : Int) ((2 : Int) ^ min (2 : Nat) (IntKind.bits IntKind.u32)))) (Int.fdiv (x : Int) ((2 : Int) ^ min (1 : Nat) (IntKind.bits IntKind.u32)))) (x : Int)) (1 : Int) * (2 : Int) ^ min (30 : Nat) (IntKind.bits IntKind.u32))) = (stepY x : Int) := by
  have e1 : (2 : Int) ^ min (1 : Nat) (IntKind.bits IntKind.u32) = ((2 : Nat) : Int) := by decide
  have e2 : (2 : Int) ^ min (2 : Nat) (IntKind.bits IntKind.u32) = ((4 : Nat) : Int) := by decide
  have e3 : (2 : Int) ^ min (3 : Nat) (IntKind.bits IntKind.u32) = ((8 : Nat) : Int) := by decide
  have e30 : (2 : Int) ^ min (30 : Nat) (IntKind.bits IntKind.u32) = ((2 ^ 30 : Nat) : Int) := by decide
  have l1 : (x / 8 ^^^ x / 4) < 2 ^ 32 := Nat.xor_lt_two_pow (by omega) (by omega)
  have l2 : ((x / 8 ^^^ x / 4) ^^^ x / 2) < 2 ^ 32 := Nat.xor_lt_two_pow l1 (by omega)
  rw [e1, e2, e3, e30, fdiv_nat, fdiv_nat, fdiv_nat, u32_xor (by omega) (by omega), u32_xor l1 (by omega), u32_xor l2 (by omega), u32_and1 (Nat.xor_lt_two_pow l2 (by omega)), xor_mod2]
  have m1 := xor_mod2 (x / 8 ^^^ x / 4) (x / 2)
  have m2 := xor_mod2 (x / 8) (x / 4)
  have m3 : (((x / 8 ^^^ x / 4) ^^^ x / 2) + x) % 2 = (x / 8 + x / 4 + x / 2 + x) % 2 := by omega
  rw [m3]
  rw [← Int.natCast_mul, wraps_u32 _ (by omega) (by omega), u32_or (by omega) (by omega)]
  rfl
theorem outXY {x y : Nat} (hx : x < 2 ^ 31) (hy : y < 2 ^ 31) : IntKind.wrap IntKind.u8 (bits BinOp.and IntKind.u32 (bits BinOp.xor IntKind.u32 (x : Int) (y : Int)) (1 : Int)) = (((x + y) % 2 : Nat) : Int) := by
  rw [u32_xor (by omega) (by omega), u32_and1 (Nat.xor_lt_two_pow (by omega) (by omega)), xor_mod2, IntWalk.u8_in _ (by omega)]
theorem runOut_skip {x y i n : Nat} (h : i < 1600) : runOut x y i n = runOut (stepX x) (stepY y) (i + 1) n := by
  unfold runOut
  rw [show max i 1600 = max (i + 1) 1600 from by omega]
  refine seg_map fun k hk _ => ?_
  obtain ⟨d, hd⟩ : ∃ d, k - i = d + 1 := ⟨k - i - 1, by omega⟩
  rw [hd, show k - (i + 1) = d from by omega, iter_step, iter_step]
theorem runOut_take {x y i n : Nat} (h : 1600 ≤ i) (hn : i < n) : runOut x y i n = (((x + y) % 2 : Nat) : Int) :: runOut (stepX x) (stepY y) (i + 1) n := by
  unfold runOut
  rw [show max i 1600 = i from by omega, show max (i + 1) 1600 = i + 1 from by omega, seg_cons _ hn, Nat.sub_self]
  congr 1
  refine seg_map fun k hk _ => ?_
  obtain ⟨d, hd⟩ : ∃ d, k - i = d + 1 := ⟨k - i - 1, by omega⟩
  rw [hd, show k - (i + 1) = d from by omega, iter_step, iter_step]
theorem l_bits_Noise_0 : LoopOK E_bits_Noise 0 (loopAt (bodyOf Try.f114) 0) L_bits_Noise_0 := I_bits_Noise_0 <| by
  intro t6 t7 t29 t30 r0 K hp ho
  obtain ⟨h1, h2, h3, h4, h5, h6, h7, h8⟩ := hp
  obtain ⟨x, rfl⟩ := Int.eq_ofNat_of_zero_le h1
  obtain ⟨y, rfl⟩ := Int.eq_ofNat_of_zero_le h3
  obtain ⟨i, rfl⟩ := Int.eq_ofNat_of_zero_le h5
  obtain ⟨n, rfl⟩ := Int.eq_ofNat_of_zero_le (Int.le_trans h5 h6)
  have e : ((i : Int) + 1).toNat = i + 1 := by omega
  unfold B_bits_Noise_0
  unfold o_bits_Noise_0 at ho ⊢
  have hx : x < 2 ^ 31 := by omega
  have hy : y < 2 ^ 31 := by omega
  have hx2 := stepX_lt hx
  have hy2 := stepY_lt hy
  simp only [condP_iff, decide_eq_true_eq, decide_eq_false_iff_not, Int.toNat_natCast, regX hx, regY hy, outXY hx hy] at ho ⊢
  rw [i64w (by omega), e]
  refine ⟨fun hlt => ⟨fun hge => ?_, fun hge => ?_⟩, fun hge => ?_⟩
  · refine ⟨by simp; omega, by decide, by decide, by decide, by decide, by decide, by decide, by decide, by decide, ⟨by omega, by omega, by omega, by omega, by omega, by omega, by omega, by simp; omega⟩, by unfold m_bits_Noise_0; omega, ?_⟩
    rw [runOut_take (by omega) (by omega)] at ho
    simpa using ho
  · refine ⟨by decide, by decide, by decide, by decide, by decide, by decide, by decide, by decide, ⟨by omega, by omega, by omega, by omega, by omega, by omega, by omega, by omega⟩, by unfold m_bits_Noise_0; omega, ?_⟩
    rw [runOut_skip (by omega)] at ho
    exact ho
  · have : runOut x y i n = [] := by unfold runOut; exact seg_nil _ (by omega)
    rw [this, List.append_nil] at ho
    exact ho
theorem seg_shift {α : Type} (f : Nat → α) (a n : Nat) : seg f a (a + n) = seg (fun i => f (a + i)) 0 n := by
  unfold seg
  simp [Nat.add_sub_cancel_left]
theorem seed_cond (a b : Int) : (if (if (if decide (a < 0) = true then true else decide (a > 2147483647)) = true then true else decide (b < 0)) = true then true else decide (b > 4096)) = badSeed a b := by
  unfold badSeed
  by_cases h1 : a < 0 <;> by_cases h2 : a > 2147483647 <;> by_cases h3 : b < 0 <;> simp [h1, h2, h3]
theorem badSeed_ok {a b : Int} (h : badSeed a b = false) : 0 ≤ a ∧ a ≤ 2147483647 ∧ 0 ≤ b ∧ b ≤ 4096 := by
  simp only [badSeed, Bool.or_eq_false_iff, decide_eq_false_iff_not] at h
  omega
theorem runOut_noise {s n : Nat} : runOut 1 s 0 (1600 + n) = noiseL s n := by
  unfold runOut noiseL
  rw [show max 0 1600 = 1600 from rfl, seg_shift]
  simp only [Int.toNat_natCast]
  refine seg_map fun k _ _ => ?_
  unfold seqX seqY
  simp only [Nat.sub_zero]
  omega
theorem ok_bits_Noise : SumOK Try.prog 114 S_bits_Noise := by
  refine whole_bits_Noise l_bits_Noise_0 ?_
  intro a0 a1 _
  unfold W_bits_Noise
  simp only [seed_cond a0 a1]
  simp only [condP_iff]
  refine ⟨fun h => by simp [h], fun h => ?_⟩
  obtain ⟨h1, h2, h3, h4⟩ := badSeed_ok h
  obtain ⟨s, rfl⟩ := Int.eq_ofNat_of_zero_le h1
  obtain ⟨n, rfl⟩ := Int.eq_ofNat_of_zero_le h3
  rw [wraps_u32 _ (by omega) (by omega), i64w (by omega), h]
  refine ⟨by decide, h3, by omega, ⟨by decide, by decide, by omega, by omega, by decide, by omega, by omega, by simp⟩, ?_, by simp, trivial⟩
  rw [show ((1600 : Int) + (n : Int)).toNat = 1600 + n from by omega, Int.toNat_natCast, runOut_noise]
  simp
end Go.Spec
