/- The functions answer as told: the noise, as the document has it. -/
import Derived.Test.YtfkedbncidahjaaP4
set_option linter.unusedVariables false
set_option linter.unusedSimpArgs false
namespace Go.Spec
open Go Go.Lift Go.Proofs
attribute [local irreducible] Go.Lift.awp Go.Lift.LoopOK Go.Lift.SumOK
theorem bitsum {x y : Int} (hx : x = 0 ∨ x = 1) (hy : y = 0 ∨ y = 1) : Int.tmod (IntKind.wrap IntKind.u8 (x + y)) 2 = (x + y) % 2 := by
  rw [IntWalk.u8_in _ (by omega), Int.tmod_eq_emod_of_nonneg (by omega)]
theorem l_R_Added_0 : LoopOK E_R_Added 0 (loopAt (bodyOf Try.f29) 0) L_R_Added_0 := I_R_Added_0 <| by
  intro t0 t1 t6 r0 K hp ho
  obtain ⟨h1, h2, h3, h4, h5, h6, h7⟩ := hp
  obtain ⟨n, rfl⟩ := Int.eq_ofNat_of_zero_le h5
  have e : ((n : Int) + 1).toNat = n + 1 := by omega
  unfold B_R_Added_0
  unfold o_R_Added_0 at ho ⊢
  simp only [condP_iff, decide_eq_true_eq, decide_eq_false_iff_not, Int.toNat_natCast, bitsum (h1.getD n) (h2.getD n)] at ho ⊢
  rw [i64w (by omega), e]
  refine ⟨fun hlt => ?_, fun hge => ?_⟩
  · refine ⟨h5, hlt, h5, by omega, by decide, by simp; omega, ⟨h1, h2, h3, h4, by omega, by omega, by simp; omega⟩, by unfold m_R_Added_0; omega, ?_⟩
    rw [seg_cons _ (by omega)] at ho
    simpa using ho
  · rw [seg_nil _ (by omega), List.append_nil] at ho; exact ho
theorem ok_R_Added : SumOK Try.prog 29 S_R_Added := by
  refine whole_R_Added l_R_Added_0 ?_
  intro a0 a1 ⟨h1, h2, h3, h4⟩
  unfold W_R_Added
  exact ⟨⟨h1, h2, h3, h4, by omega, by omega, by simp⟩, rfl, trivial⟩
/-! the noise -/
theorem seedTo_step {r : List Int} {k : Nat} {s : Int} (hk : k < 31) (hr : 31 ≤ r.length) : seedTo (r.set k (s % 2)) (k + 1) (s / 2) = seedTo r k s := by
  unfold seedTo
  rw [seg_cons _ hk, List.take_add_one, List.take_set_of_le (Nat.le_refl _), List.getElem?_set_self (by omega), List.drop_set_of_lt (by omega)]
  simp only [Option.toList_some, List.append_assoc, List.singleton_append, Nat.sub_self, Int.pow_zero, Int.ediv_one]
  congr 3
  refine seg_map fun j hj _ => ?_
  obtain ⟨d, hd⟩ : ∃ d, j - k = d + 1 := ⟨j - k - 1, by omega⟩
  rw [hd, show j - (k + 1) = d from by omega, Int.pow_succ, Int.mul_comm, ← Int.ediv_ediv_of_nonneg (by omega)]
theorem seedTo_end {r : List Int} {s : Int} : seedTo r 31 s = r := by
  unfold seedTo
  rw [seg_nil _ (Nat.le_refl _), List.append_nil, List.take_append_drop]
theorem l_R_Noise_0 : LoopOK E_R_Noise 0 (loopAt (bodyOf Try.f28) 0) L_R_Noise_0 := I_R_Noise_0 <| by
  intro t0 t1 t7 r0 r1 K hp ho
  obtain ⟨h1, h2, h3, h4, h5⟩ := hp
  obtain ⟨k, rfl⟩ := Int.eq_ofNat_of_zero_le h3
  have e : ((k : Int) + 1).toNat = k + 1 := by omega
  unfold B_R_Noise_0
  unfold o_R_Noise_0 at ho ⊢
  have hd : Int.tdiv t0 2 = t0 / 2 := Int.tdiv_eq_ediv_of_nonneg h1
  have hm : Int.tmod t0 2 = t0 % 2 := Int.tmod_eq_emod_of_nonneg h1
  simp only [condP_iff, decide_eq_true_eq, decide_eq_false_iff_not, Int.toNat_natCast, hd, hm] at ho ⊢
  rw [i64w (n := t0 / 2) (by omega), i64w (n := (k : Int) + 1) (by omega), IntWalk.u8_in (t0 % 2) (by omega), e]
  refine ⟨fun hlt => ?_, fun hge => ?_⟩
  · refine ⟨by decide, h3, by omega, by decide, ⟨by omega, by omega, by omega, by omega, by simpa using h5⟩, by unfold m_R_Noise_0; omega, ?_⟩
    rw [seedTo_step (by omega) h5]
    exact ho
  · obtain rfl : k = 31 := by omega
    rw [seedTo_end] at ho
    exact ho
theorem Bits.set {l : List Int} (h : Bits l) {i : Nat} {x : Int} (hx : x = 0 ∨ x = 1) : Bits (l.set i x) := by
  intro y hy
  rcases List.mem_or_eq_of_mem_set hy with h1 | h1
  · exact h y h1
  · exact h1 ▸ hx
theorem take_snoc_set {r : List Int} {k : Nat} {x : Int} (h : k < r.length) : (r.set k x).take (k + 1) = r.take k ++ [x] := by
  rw [List.take_add_one, List.take_set_of_le (Nat.le_refl _), List.getElem?_set_self h]; rfl
theorem l_R_Noise_2 : LoopOK E_R_Noise 2 (loopAt (bodyOf Try.f28) 2) L_R_Noise_2 := I_R_Noise_2 <| by
  intro t1 t8 r0 r1 K hp ho
  obtain ⟨h1, h2, h3, h4, h5, h6⟩ := hp
  obtain ⟨k, rfl⟩ := Int.eq_ofNat_of_zero_le (show 0 ≤ t8 by omega)
  have e : ((k : Int) + 1).toNat = k + 1 := by omega
  have e28 : ((k : Int) - 28).toNat = k - 28 := by omega
  have e29 : ((k : Int) - 29).toNat = k - 29 := by omega
  have e30 : ((k : Int) - 30).toNat = k - 30 := by omega
  have e31 : ((k : Int) - 31).toNat = k - 31 := by omega
  unfold B_R_Noise_2
  unfold o_R_Noise_2 at ho ⊢
  rw [i64w (n := (k : Int) - 28) (by omega), i64w (n := (k : Int) - 29) (by omega), i64w (n := (k : Int) - 30) (by omega), i64w (n := (k : Int) - 31) (by omega), i64w (n := (k : Int) + 1) (by omega)]
  have g1 := h6.getD (k - 28)
  have g2 := h6.getD (k - 29)
  have g3 := h6.getD (k - 30)
  have g4 := h6.getD (k - 31)
  have hY : Int.tmod (IntKind.wrap IntKind.u8 (IntKind.wrap IntKind.u8 (IntKind.wrap IntKind.u8 (r1.getD (k - 28) 0 + r1.getD (k - 29) 0) + r1.getD (k - 30) 0) + r1.getD (k - 31) 0)) 2 = (r1.getD (k - 28) 0 + r1.getD (k - 29) 0 + r1.getD (k - 30) 0 + r1.getD (k - 31) 0) % 2 := by
    rw [IntWalk.u8_in (r1.getD (k - 28) 0 + r1.getD (k - 29) 0) (by omega), IntWalk.u8_in (r1.getD (k - 28) 0 + r1.getD (k - 29) 0 + r1.getD (k - 30) 0) (by omega), IntWalk.u8_in _ (by omega), Int.tmod_eq_emod_of_nonneg (by omega)]
  simp only [condP_iff, decide_eq_true_eq, decide_eq_false_iff_not, Int.toNat_natCast, e28, e29, e30, e31, bitsum (h5.getD (k - 28)) (h5.getD (k - 31)), hY, e] at ho ⊢
  refine ⟨fun hlt => ?_, fun hge => ?_⟩
  · refine ⟨by omega, by omega, by omega, by omega, by decide, by omega, by omega, by omega, by omega, by omega, by omega, by omega, by omega, by omega, by omega, by decide, by omega, by omega,
      ⟨by omega, by simp; omega, by simpa using h3, by simpa using h4, h5.set (mod2 _), h6.set (mod2 _)⟩, by unfold m_R_Noise_2; simp; omega, ?_⟩
    rw [take_snoc_set (by omega), take_snoc_set (by omega), List.length_set]
    obtain ⟨d, hd⟩ : ∃ d, r0.length - k = d + 1 := ⟨r0.length - k - 1, by omega⟩
    rw [hd] at ho
    rw [show r0.length - (k + 1) = d from by omega]
    have gt : ∀ (r : List Int) (j : Nat), k ≤ r.length → 1 ≤ j → j ≤ k → (r.take k).getD ((r.take k).length - j) 0 = r.getD (k - j) 0 := by
      intro r j hr hj1 hj2
      rw [List.length_take, Nat.min_eq_left hr, List.getD_eq_getElem?_getD, List.getElem?_take, if_pos (by omega), ← List.getD_eq_getElem?_getD]
    simp only [ext] at ho
    have fx : fX (r0.take k) = (r0.getD (k - 28) 0 + r0.getD (k - 31) 0) % 2 := by
      unfold fX; rw [gt _ _ (by omega) (by omega) (by omega), gt _ _ (by omega) (by omega) (by omega)]
    have fy : fY (r1.take k) = (r1.getD (k - 28) 0 + r1.getD (k - 29) 0 + r1.getD (k - 30) 0 + r1.getD (k - 31) 0) % 2 := by
      unfold fY; rw [gt _ _ (by omega) (by omega) (by omega), gt _ _ (by omega) (by omega) (by omega), gt _ _ (by omega) (by omega) (by omega), gt _ _ (by omega) (by omega) (by omega)]
    rw [fx, fy] at ho
    exact ho
  · rw [show r0.length - k = 0 from by omega] at ho
    simp only [ext] at ho
    rw [List.take_of_length_le (by omega), List.take_of_length_le (by omega)] at ho
    exact ho
theorem l_R_Noise_4 : LoopOK E_R_Noise 4 (loopAt (bodyOf Try.f28) 4) L_R_Noise_4 := I_R_Noise_4 <| by
  intro t1 t10 r0 r1 r2 K hp ho
  obtain ⟨h1, h2, h3, h4, h5, h6, h7, h8⟩ := hp
  obtain ⟨i, rfl⟩ := Int.eq_ofNat_of_zero_le h1
  have e : ((i : Int) + 1).toNat = i + 1 := by omega
  have e16 : ((1600 : Int) + (i : Int)).toNat = 1600 + i := by omega
  unfold B_R_Noise_4
  unfold o_R_Noise_4 at ho ⊢
  rw [i64w (n := 1600 + (i : Int)) (by omega), i64w (n := (i : Int) + 1) (by omega)]
  simp only [condP_iff, decide_eq_true_eq, decide_eq_false_iff_not, Int.toNat_natCast, e16, e, bitsum (h6.getD (1600 + i)) (h7.getD (1600 + i))] at ho ⊢
  refine ⟨fun hlt => ?_, fun hge => ?_⟩
  · refine ⟨by omega, by omega, by omega, by omega, by decide, by simp; omega, ⟨by omega, by omega, h3, h4, h5, h6, h7, by simp; omega⟩, by unfold m_R_Noise_4; omega, ?_⟩
    rw [seg_cons _ (by omega)] at ho
    simpa using ho
  · rw [seg_nil _ (by omega), List.append_nil] at ho; exact ho
theorem first31 (m : Nat) : ((List.replicate (31 + m) (0 : Int)).set 0 1).take 31 = seg seqX 0 31 := by
  have : (List.replicate (31 + m) (0 : Int)).take 31 = List.replicate 31 0 := by rw [List.take_replicate]; congr 1; omega
  rw [List.take_set, this]
  refine List.ext_getElem? fun j => ?_
  rw [seg_getElem?, List.getElem?_set]
  by_cases hj : j < 31
  · rw [if_pos hj, seqX_low _ (by omega)]
    by_cases h0 : 0 = j
    · subst h0; simp
    · rw [if_neg h0, if_neg (fun e => h0 e.symm), List.getElem?_replicate, if_pos hj]
  · rw [if_neg hj]
    by_cases h0 : 0 = j
    · omega
    · rw [if_neg h0, List.getElem?_replicate, if_neg hj]
theorem seed31 (m s : Nat) : (seedTo (List.replicate (31 + m) 0) 0 s).take 31 = seg (seqY s) 0 31 := by
  unfold seedTo
  rw [List.take_zero, List.nil_append, List.take_append_of_le_length (by rw [seg_length]; omega), List.take_of_length_le (by rw [seg_length]; omega)]
  refine seg_map fun k _ hk => ?_
  rw [seqY_low _ _ (by omega), Nat.sub_zero]
  push_cast
  rfl
theorem seedTo_length (m s : Nat) : (seedTo (List.replicate (31 + m) 0) 0 s).length = 31 + m := by
  unfold seedTo
  simp [seg_length]
theorem ok_R_Noise : SumOK Try.prog 28 S_R_Noise := by
  refine whole_R_Noise l_R_Noise_0 l_R_Noise_2 l_R_Noise_4 ?_
  intro a0 a1 ⟨h1, h2, h3, h4⟩
  obtain ⟨s, rfl⟩ := Int.eq_ofNat_of_zero_le h1
  obtain ⟨n, rfl⟩ := Int.eq_ofNat_of_zero_le h3
  unfold W_R_Noise
  rw [i64w (n := 1600 + (n : Int)) (by omega), i64w (n := 1600 + (n : Int) + 31) (by omega)]
  rw [show (1600 + (n : Int) + 31).toNat = 31 + (1600 + n) from by omega]
  have hX : ext fX (seg seqX 0 31) (1600 + n) = seg seqX 0 (31 + (1600 + n)) := ext_seg (m := 31) (fun k hk => fX_seq k hk) _ 31 (Nat.le_refl _)
  have hY : ext fY (seg (seqY s) 0 31) (1600 + n) = seg (seqY s) 0 (31 + (1600 + n)) := ext_seg (m := 31) (fun k hk => fY_seq s k (by omega) hk) _ 31 (Nat.le_refl _)
  simp only [first31, seed31, List.length_set, List.length_replicate, show 31 + (1600 + n) - 31 = 1600 + n from by omega, hX, hY]
  have bX : Bits (seg seqX 0 (31 + (1600 + n))) := Bits.seg seqX_bit
  have bY : Bits (seg (seqY s) 0 (31 + (1600 + n))) := Bits.seg (seqY_bit s)
  refine ⟨by omega, by omega, by omega, by omega, by omega, by omega, by decide, by omega, ⟨by omega, by omega, by decide, by decide, by simp⟩, ⟨by decide, by simp; omega, by simp [seedTo_length], by simp; omega, ?_, ?_⟩,
    ⟨by decide, by omega, by omega, by rw [seg_length]; omega, by rw [seg_length]; omega, bX, bY, by simp⟩, ?_, trivial⟩
  · refine Bits.set (fun x hx => .inl ?_) (.inr rfl)
    exact (List.mem_replicate.1 hx).2
  · intro x hx
    unfold seedTo at hx
    simp only [List.take_zero, List.nil_append, List.mem_append] at hx
    rcases hx with hx | hx
    · exact Bits.seg (fun _ => mod2 _) x hx
    · exact .inl (List.mem_replicate.1 (List.mem_of_mem_drop hx)).2
  · rw [List.nil_append]
    unfold noiseL
    simp only [Int.toNat_natCast]
    refine seg_map fun k _ hk => ?_
    rw [seg_getD _ (by omega), seg_getD _ (by omega)]
/-! what is covered -/
theorem u8_xor {x y : Int} (hx : x = 0 ∨ x = 1) (hy : y = 0 ∨ y = 1) : bits .xor .u8 x y = (x + y) % 2 := by
  rcases hx with rfl | rfl <;> rcases hy with rfl | rfl <;> decide
theorem l_bits_Cover_0 : LoopOK E_bits_Cover 0 (loopAt (bodyOf Try.f27) 0) L_bits_Cover_0 := I_bits_Cover_0 <| by
  intro t0 t8 t23 t24 r0 K hp ho
  obtain ⟨h1, h2, rfl, h4, h5, h6, h7⟩ := hp
  rw [big_val] at h7
  obtain ⟨n, rfl⟩ := Int.eq_ofNat_of_zero_le h5
  have e : ((n : Int) + 1).toNat = n + 1 := by omega
  unfold B_bits_Cover_0
  unfold o_bits_Cover_0 at ho ⊢
  simp only [condP_iff, decide_eq_true_eq, decide_eq_false_iff_not, Int.toNat_natCast, u8_xor (h2.getD n) (h1.getD n)] at ho ⊢
  rw [i64w (by omega), e]
  refine ⟨fun hlt => ?_, fun hge => ?_⟩
  · refine ⟨h5, hlt, h5, by omega, h5, hlt, ⟨h1, h2.set (mod2 _), by simp, by simpa using h4, by omega, by omega, by rw [big_val]; simp; omega⟩, by unfold m_bits_Cover_0; omega, ?_⟩
    rw [← mapFrom_step r0 (fun k x => (x + t0.getD k 0) % 2) (by omega)] at ho
    exact ho
  · rw [mapFrom_end _ _ (by omega)] at ho; exact ho
theorem ok_bits_Cover : SumOK Try.prog 27 S_bits_Cover := by
  refine whole_bits_Cover ok_bits_Check ok_bits_Noise l_bits_Cover_0 ?_
  intro a0 a1 hpre
  unfold W_bits_Cover
  simp only [condP_iff, bne_iff_ne, ne_eq, bne_eq_false_iff_eq, and_true]
  refine ⟨hpre, fun h => ?_, fun h => ?_⟩
  · have e : coverErr a0 a1 = bitsErr a0 := by unfold coverErr; rw [if_neg h]
    exact ⟨by unfold coverL; rw [e, if_neg h], e.symm⟩
  · obtain ⟨hb, hl⟩ := bitsErr_ok h
    have e : coverErr a0 a1 = if badSeed a1 a0.length then 1 else 0 := by unfold coverErr; rw [if_pos h]
    refine ⟨trivial, ?_, ?_, e.symm⟩
    · refine ⟨hb, ?_, rfl, ?_, by omega, by omega, ?_⟩
      · split
        · exact fun _ h => nomatch h
        · exact noise_bits _ _
      · split
        · simp
        · rw [noise_length]; omega
      · rw [big_val]
        split
        · simp
        · rw [noise_length]; omega
    · unfold coverL
      rw [e, mapFrom_zero]
      cases hs : badSeed a1 a0.length
      · simp only [Bool.false_eq_true, if_false, if_true]; rfl
      · simp [seg]
theorem addL_comm {a b : List Int} (h : a.length = b.length) : addL a b = addL b a := by
  unfold addL
  rw [h]
  refine seg_map fun k _ _ => ?_
  rw [Int.add_comm]
theorem addL_length (a b : List Int) : (addL a b).length = a.length := by unfold addL; rw [seg_length]; omega
theorem coverL_length (b : List Int) (s : Int) (h : coverErr b s = 0) : (coverL b s).length = b.length := by
  unfold coverL
  rw [if_pos h, addL_length, noise_length]; omega
theorem coverL_bad {b : List Int} {s : Int} (h : coverErr b s ≠ 0) : coverL b s = [] := by unfold coverL; rw [if_neg h]
theorem ok_law_BitsNoise : SumOK Try.prog 6 S_law_BitsNoise := by
  refine whole_law_BitsNoise ok_bits_Noise ok_bits_Cover ok_R_Noise ok_R_SameBits ok_R_Bits ok_R_Added ?_
  intro a0 a1 a2 ⟨h1, h2⟩
  unfold W_law_BitsNoise
  have hc : (if (if (!if decide (a1 ≥ (0 : Int)) = true then decide (a1 ≤ (2147483647 : Int)) else false) = true then true else decide (a2 < (0 : Int))) = true then true else decide (a2 > (4096 : Int))) = badSeed a1 a2 := by
    unfold badSeed
    by_cases h1 : a1 < 0 <;> by_cases h2 : a1 > 2147483647 <;> by_cases h3 : a2 < 0 <;> simp [h1, h2, h3] <;> omega
  have hg : (if decide (a1 ≥ (0 : Int)) = true then decide (a1 ≤ (2147483647 : Int)) else false) = decide (0 ≤ a1 ∧ a1 ≤ 2147483647) := by
    by_cases h1 : a1 < 0 <;> simp [h1] <;> omega
  -- what follows, whatever was said of the noise
  have tail : condP (if (bitsErr a0 == (0 : Int)) = true then !decide (0 ≤ a1 ∧ a1 ≤ 2147483647) else false)
        (condP ((1 : Int) != (0 : Int))
          (((if (coverErr a0 a1 == (1 : Int)) = true then (↑(List.length (coverL a0 a1)) : Int) == (0 : Int) else false) = true) ∧
          True)
          (((coverErr a0 a1 == (0 : Int)) = true → (0 : Int) ≤ a1 ∧ a1 ≤ (2147483647 : Int) ∧ (0 : Int) ≤ (↑(List.length a0) : Int) ∧ (↑(List.length a0) : Int) ≤ (4096 : Int)) ∧
          ((coverErr a0 a1 == (0 : Int)) = true → Bits a0 ∧ Bits (noiseL a1 (↑(List.length a0) : Int)) ∧ List.length a0 ≤ List.length (noiseL a1 (↑(List.length a0) : Int)) ∧ (↑(List.length a0) : Int) ≤ (1000000 : Int)) ∧
          ((coverErr a0 a1 == (0 : Int)) = true → (↑(List.length (coverL a0 a1)) : Int) ≤ big) ∧
          ((if (coverErr a0 a1 == (0 : Int)) = true then decide (coverL a0 a1 = addL a0 (noiseL a1 (↑(List.length a0) : Int))) else false) = true) ∧
          True))
        (condP (bitsErr a0 != (0 : Int))
          (((if (coverErr a0 a1 == bitsErr a0) = true then (↑(List.length (coverL a0 a1)) : Int) == (0 : Int) else false) = true) ∧
          True)
          (((coverErr a0 a1 == (0 : Int)) = true → (0 : Int) ≤ a1 ∧ a1 ≤ (2147483647 : Int) ∧ (0 : Int) ≤ (↑(List.length a0) : Int) ∧ (↑(List.length a0) : Int) ≤ (4096 : Int)) ∧
          ((coverErr a0 a1 == (0 : Int)) = true → Bits a0 ∧ Bits (noiseL a1 (↑(List.length a0) : Int)) ∧ List.length a0 ≤ List.length (noiseL a1 (↑(List.length a0) : Int)) ∧ (↑(List.length a0) : Int) ≤ (1000000 : Int)) ∧
          ((coverErr a0 a1 == (0 : Int)) = true → (↑(List.length (coverL a0 a1)) : Int) ≤ big) ∧
          ((if (coverErr a0 a1 == (0 : Int)) = true then decide (coverL a0 a1 = addL a0 (noiseL a1 (↑(List.length a0) : Int))) else false) = true) ∧
          True)) := by
    by_cases hb : bitsErr a0 = 0
    · obtain ⟨hbits, hl⟩ := bitsErr_ok hb
      by_cases hs : 0 ≤ a1 ∧ a1 ≤ 2147483647
      · have hbs : badSeed a1 a0.length = false := by
          simp only [badSeed, Bool.or_eq_false_iff, decide_eq_false_iff_not]; omega
        have he : coverErr a0 a1 = 0 := by unfold coverErr; rw [if_pos hb, hbs]; rfl
        have hlen : (noiseL a1 a0.length).length = a0.length := by rw [noise_length]; omega
        have hcl : coverL a0 a1 = addL a0 (noiseL a1 a0.length) := by
          unfold coverL; rw [if_pos he]; exact addL_comm hlen
        simp only [hb, hs, he, beq_self_eq_true, if_true, decide_true, Bool.not_true, condP_f, bne_self_eq_false, and_self, forall_const]
        exact ⟨⟨trivial, trivial, by omega, by omega⟩, ⟨hbits, noise_bits _ _, by omega, by omega⟩, by rw [coverL_length _ _ he]; rw [big_val]; omega, by rw [hcl]; simp⟩
      · have hbs : badSeed a1 a0.length = true := by
          simp only [badSeed, Bool.or_eq_true, decide_eq_true_eq]; omega
        have he : coverErr a0 a1 = 1 := by unfold coverErr; rw [if_pos hb, hbs]; rfl
        have hcl : coverL a0 a1 = [] := coverL_bad (by rw [he]; decide)
        simp [hb, hs, he, hcl, condP_iff]
    · have he : coverErr a0 a1 = bitsErr a0 := by unfold coverErr; rw [if_neg hb]
      have hcl : coverL a0 a1 = [] := coverL_bad (by rw [he]; exact hb)
      have hb1 : (bitsErr a0 == 0) = false := by simpa using hb
      have hb2 : (bitsErr a0 != 0) = true := by simpa using hb
      simp [hb1, hb2, he, hcl, condP_iff, hb]
  simp only [hc]
  simp only [hg]
  refine ⟨trivial, ⟨h1, h2⟩, ?_⟩
  cases hs : badSeed a1 a2
  · obtain ⟨s1, s2, s3, s4⟩ := badSeed_ok hs
    have hn : ((noiseL a1 a2).length : Int) ≤ big := by rw [noise_length, big_val]; omega
    simp only [Bool.false_eq_true, if_false, condP_f, bne_self_eq_false, decide_true, Bool.not_true, forall_const]
    exact ⟨⟨s1, s2, s3, s4⟩, hn, h1, tail⟩
  · simp only [if_true, condP_t, bne_self_eq_false, Bool.false_eq_true, if_false, List.length_nil]
    exact condP_iff.2 ⟨fun h => by simp at h, fun _ => ⟨h1, tail⟩⟩
theorem pre_law_BitsNoise (x : dens S_law_BitsNoise.par) (h : wfs S_law_BitsNoise.par x) : S_law_BitsNoise.pre x := by
  obtain ⟨a0, a1, a2, ⟨⟩⟩ := x
  obtain ⟨⟨h1, h2⟩, _⟩ := h
  have h1 : (List.length a0 : Int) ≤ 140737488351232 := h1
  refine ⟨?_, fun y hy => (wfd_u8 (h2 y hy)).1⟩
  rw [big_val]; show (List.length a0 : Int) ≤ _; omega
end Go.Spec
