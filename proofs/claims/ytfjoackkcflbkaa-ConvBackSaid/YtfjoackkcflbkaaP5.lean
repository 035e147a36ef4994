/- The functions answer as told: the noise, as the document has it. -/
import Derived.Test.YtfjoackkcflbkaaP4
set_option linter.unusedVariables false
set_option linter.unusedSimpArgs false
namespace Go.Spec
open Go Go.Lift Go.Proofs
attribute [local irreducible] Go.Lift.awp Go.Lift.LoopOK Go.Lift.SumOK
theorem bitsum {x y : Int} (hx : x = 0 ∨ x = 1) (hy : y = 0 ∨ y = 1) : Int.tmod (IntKind.wrap IntKind.u8 (x + y)) 2 = (x + y) % 2 := by
  rw [IntWalk.u8_in _ (by omega), Int.tmod_eq_emod_of_nonneg (by omega)]
theorem l_R_Added_0 : LoopOK E_R_Added 0 (loopAt (bodyOf Try.f99) 0) L_R_Added_0 := I_R_Added_0 <| by
  intro t0 t1 t6 r0 K hp ho
  obtain ⟨h1, h2, h3, h4, h5, h6, h7⟩ := hp
  obtain ⟨n, rfl⟩ := Int.eq_ofNat_of_zero_le h5
  have e : ((n : Int) + 1).toNat = n + 1 := by omega
  unfold B_R_Added_0
  unfold o_R_Added_0 at ho ⊢
  simp only [condP_iff, decide_eq_true_eq, decide_eq_false_iff_not, Int.toNat_natCast, bitsum (h1.getD n) (h2.getD n)] at ho ⊢
  rw [i64w (by omega), e]
  refine ⟨fun hlt => ?_, fun hge => ?_⟩
  · refine ⟨h5, hlt, h5, by omega, by decide, by simp; omega, ⟨h1, h2, h3, h4, by omega, by omega, by simp; omega⟩, by unfold m_R_Added_0; omega, ?_⟩
    rw [seg_cons _ (by omega)] at ho
    simpa using ho
  · rw [seg_nil _ (by omega), List.append_nil] at ho; exact ho
theorem ok_R_Added : SumOK Try.prog 99 S_R_Added := by
  refine whole_R_Added l_R_Added_0 ?_
  intro a0 a1 ⟨h1, h2, h3, h4⟩
  unfold W_R_Added
  exact ⟨⟨h1, h2, h3, h4, by omega, by omega, by simp⟩, rfl, trivial⟩
/-! the noise -/
theorem seedTo_step {r : List Int} {k : Nat} {s : Int} (hk : k < 31) (hr : 31 ≤ r.length) : seedTo (r.set k (s % 2)) (k + 1) (s / 2) = seedTo r k s := by
  unfold seedTo
  rw [seg_cons _ hk, List.take_add_one, List.take_set_of_le (Nat.le_refl _), List.getElem?_set_self (by omega), List.drop_set_of_lt (by omega)]
  simp only [Option.toList_some, List.append_assoc, List.singleton_append, Nat.sub_self, Int.pow_zero, Int.ediv_one]
  congr 3
  refine seg_map fun j hj _ => ?_
  obtain ⟨d, hd⟩ : ∃ d, j - k = d + 1 := ⟨j - k - 1, by omega⟩
  rw [hd, show j - (k + 1) = d from by omega, Int.pow_succ, Int.mul_comm, ← Int.ediv_ediv_of_nonneg (by omega)]
theorem seedTo_end {r : List Int} {s : Int} : seedTo r 31 s = r := by
  unfold seedTo
  rw [seg_nil _ (Nat.le_refl _), List.append_nil, List.take_append_drop]
theorem Bits.set {l : List Int} (h : Bits l) {i : Nat} {x : Int} (hx : x = 0 ∨ x = 1) : Bits (l.set i x) := by
  intro y hy
  rcases List.mem_or_eq_of_mem_set hy with h1 | h1
  · exact h y h1
  · exact h1 ▸ hx
theorem take_snoc_set {r : List Int} {k : Nat} {x : Int} (h : k < r.length) : (r.set k x).take (k + 1) = r.take k ++ [x] := by
  rw [List.take_add_one, List.take_set_of_le (Nat.le_refl _), List.getElem?_set_self h]; rfl
theorem first31 (m : Nat) : ((List.replicate (31 + m) (0 : Int)).set 0 1).take 31 = seg seqX 0 31 := by
  have : (List.replicate (31 + m) (0 : Int)).take 31 = List.replicate 31 0 := by rw [List.take_replicate]; congr 1; omega
  rw [List.take_set, this]
  refine List.ext_getElem? fun j => ?_
  rw [seg_getElem?, List.getElem?_set]
  by_cases hj : j < 31
  · rw [if_pos hj, seqX_low _ (by omega)]
    by_cases h0 : 0 = j
    · subst h0; simp
    · rw [if_neg h0, if_neg (fun e => h0 e.symm), List.getElem?_replicate, if_pos hj]
  · rw [if_neg hj]
    by_cases h0 : 0 = j
    · omega
    · rw [if_neg h0, List.getElem?_replicate, if_neg hj]
theorem seed31 (m s : Nat) : (seedTo (List.replicate (31 + m) 0) 0 s).take 31 = seg (seqY s) 0 31 := by
  unfold seedTo
  rw [List.take_zero, List.nil_append, List.take_append_of_le_length (by rw [seg_length]; omega), List.take_of_length_le (by rw [seg_length]; omega)]
  refine seg_map fun k _ hk => ?_
  rw [seqY_low _ _ (by omega), Nat.sub_zero]
  push_cast
  rfl
theorem seedTo_length (m s : Nat) : (seedTo (List.replicate (31 + m) 0) 0 s).length = 31 + m := by
  unfold seedTo
  simp [seg_length]
/-! what is covered -/
theorem u8_xor {x y : Int} (hx : x = 0 ∨ x = 1) (hy : y = 0 ∨ y = 1) : bits .xor .u8 x y = (x + y) % 2 := by
  rcases hx with rfl | rfl <;> rcases hy with rfl | rfl <;> decide
theorem l_bits_Cover_0 : LoopOK E_bits_Cover 0 (loopAt (bodyOf Try.f68) 0) L_bits_Cover_0 := I_bits_Cover_0 <| by
  intro t0 t8 t23 t24 r0 K hp ho
  obtain ⟨h1, h2, rfl, h4, h5, h6, h7⟩ := hp
  rw [big_val] at h7
  obtain ⟨n, rfl⟩ := Int.eq_ofNat_of_zero_le h5
  have e : ((n : Int) + 1).toNat = n + 1 := by omega
  unfold B_bits_Cover_0
  unfold o_bits_Cover_0 at ho ⊢
  simp only [condP_iff, decide_eq_true_eq, decide_eq_false_iff_not, Int.toNat_natCast, u8_xor (h2.getD n) (h1.getD n)] at ho ⊢
  rw [i64w (by omega), e]
  refine ⟨fun hlt => ?_, fun hge => ?_⟩
  · refine ⟨h5, hlt, h5, by omega, h5, hlt, ⟨h1, h2.set (mod2 _), by simp, by simpa using h4, by omega, by omega, by rw [big_val]; simp; omega⟩, by unfold m_bits_Cover_0; omega, ?_⟩
    rw [← mapFrom_step r0 (fun k x => (x + t0.getD k 0) % 2) (by omega)] at ho
    exact ho
  · rw [mapFrom_end _ _ (by omega)] at ho; exact ho
theorem ok_bits_Cover : SumOK Try.prog 68 S_bits_Cover := by
  refine whole_bits_Cover ok_bits_Check ok_bits_Noise l_bits_Cover_0 ?_
  intro a0 a1 hpre
  unfold W_bits_Cover
  simp only [condP_iff, bne_iff_ne, ne_eq, bne_eq_false_iff_eq, and_true]
  refine ⟨hpre, fun h => ?_, fun h => ?_⟩
  · have e : coverErr a0 a1 = bitsErr a0 := by unfold coverErr; rw [if_neg h]
    exact ⟨by unfold coverL; rw [e, if_neg h], e.symm⟩
  · obtain ⟨hb, hl⟩ := bitsErr_ok h
    have e : coverErr a0 a1 = if badSeed a1 a0.length then 1 else 0 := by unfold coverErr; rw [if_pos h]
    refine ⟨trivial, ?_, ?_, e.symm⟩
    · refine ⟨hb, ?_, rfl, ?_, by omega, by omega, ?_⟩
      · split
        · exact fun _ h => nomatch h
        · exact noise_bits _ _
      · split
        · simp
        · rw [noise_length]; omega
      · rw [big_val]
        split
        · simp
        · rw [noise_length]; omega
    · unfold coverL
      rw [e, mapFrom_zero]
      cases hs : badSeed a1 a0.length
      · simp only [Bool.false_eq_true, if_false, if_true]; rfl
      · simp [seg]
theorem addL_comm {a b : List Int} (h : a.length = b.length) : addL a b = addL b a := by
  unfold addL
  rw [h]
  refine seg_map fun k _ _ => ?_
  rw [Int.add_comm]
theorem addL_length (a b : List Int) : (addL a b).length = a.length := by unfold addL; rw [seg_length]; omega
theorem coverL_length (b : List Int) (s : Int) (h : coverErr b s = 0) : (coverL b s).length = b.length := by
  unfold coverL
  rw [if_pos h, addL_length, noise_length]; omega
theorem coverL_bad {b : List Int} {s : Int} (h : coverErr b s ≠ 0) : coverL b s = [] := by unfold coverL; rw [if_neg h]
end Go.Spec
