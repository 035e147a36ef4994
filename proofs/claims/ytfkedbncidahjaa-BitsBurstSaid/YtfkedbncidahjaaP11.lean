/- Every change within a sum's width is seen. -/
import Derived.Test.YtfkedbncidahjaaV7
import Derived.Test.YtfkedbncidahjaaE7
set_option linter.unusedVariables false
set_option linter.unusedSimpArgs false
namespace Go.Spec
open Go Go.Lift Go.Proofs
attribute [local irreducible] Go.Lift.awp Go.Lift.LoopOK Go.Lift.SumOK
theorem hit_eq {t2 : Int} {n L : Nat} {x : Int} (hL : L ≤ 5000) (hx : 0 ≤ x) (hn : n ≤ 24) :
    (if (if (if decide (t2 ≥ (0 : Int)) = true then decide (t2 < (L : Int)) else false) = true then decide ((n : Int) < IntKind.wrap IntKind.i64 ((L : Int) - t2)) else false) = true then Int.tmod x (2 : Int) == (1 : Int) else false) = (decide (0 ≤ t2) && decide (t2 + n < L) && decide (x % 2 = 1)) := by
  have hm : Int.tmod x 2 = x % 2 := Int.tmod_eq_emod_of_nonneg hx
  by_cases h1 : t2 ≥ 0
  · by_cases h2 : t2 < L
    · rw [i64w (by omega), hm]
      by_cases h3 : t2 + n < L
      · have h4 : (n : Int) < L - t2 := by omega
        by_cases h5 : x % 2 = 1 <;> simp [h1, h2, h3, h4, h5]
      · have h4 : ¬ (n : Int) < L - t2 := by omega
        simp [h1, h2, h3, h4]
    · have h3 : ¬ t2 + n < L := by omega
      simp [h2, h3]
  · simp [h1]
theorem l_keep_BitsBurst_0 : LoopOK E_keep_BitsBurst 0 (loopAt (bodyOf Try.f10) 0) L_keep_BitsBurst_0 := I_keep_BitsBurst_0 <| by
  intro t1 t2 t3 t15 t16 t17 r0 K hp ho
  obtain ⟨c1, c2, w1, w2, h1, h2, hl, hb⟩ := hp
  obtain ⟨n, rfl⟩ := Int.eq_ofNat_of_zero_le h1
  obtain ⟨w, rfl⟩ := Int.eq_ofNat_of_zero_le w1
  have e : ((n : Int) + 1).toNat = n + 1 := by omega
  unfold B_keep_BitsBurst_0
  unfold o_keep_BitsBurst_0 at ho ⊢
  have hx : 0 ≤ t3.getD n 0 := by
    by_cases hn : n < t3.length
    · exact c2 _ (getD_mem hn)
    · rw [getD_none (by omega)]; decide
  simp only [Int.toNat_natCast, i64w (n := (n : Int) + 1) (by omega), e] at ho ⊢
  have hc : (if decide ((n : Int) < (t3.length : Int)) = true then decide ((n : Int) < (w : Int)) else false) = decide (n < min t3.length w) := by
    by_cases q1 : n < t3.length
    · rw [if_pos (decide_eq_true (by omega))]
      exact decide_eq_decide.2 ⟨fun h => by omega, fun h => by omega⟩
    · rw [if_neg (fun h => q1 (by have := of_decide_eq_true h; omega))]
      exact (decide_eq_false (by omega)).symm
  rw [hc, hit_eq hl hx (by omega), condP_iff]
  refine ⟨fun hlt => ⟨fun _ => h1, fun _ => by have := of_decide_eq_true hlt; omega, fun _ => by decide, ?_⟩, fun hge => ?_⟩
  · have hlt := of_decide_eq_true hlt
    rw [show min t3.length w - n = (min t3.length w - (n + 1)) + 1 by omega, goB] at ho
    rw [condP_iff]
    constructor
    · intro hh
      have hh' : hitB t3 t2 r0.length n = true := hh
      rw [if_pos hh'] at ho
      simp only [Bool.and_eq_true, decide_eq_true_eq] at hh
      have hw : IntKind.wrap IntKind.i64 (t2 + (n : Int)) = t2 + n := i64w (by omega)
      rw [hw, show bits BinOp.xor IntKind.u8 (List.getD r0 (Int.toNat (t2 + (n : Int))) (0 : Int)) (1 : Int) = (List.getD r0 (Int.toNat (t2 + (n : Int))) (0 : Int) + 1) % 2 from u8_flip (hb.getD _)]
      exact ⟨by omega, by omega, by omega, by omega, ⟨c1, c2, w1, w2, by omega, by omega, by rw [List.length_set]; exact hl, hb.set (mod2 _)⟩, by unfold m_keep_BitsBurst_0; omega, ho⟩
    · intro hh
      have hh' : ¬ hitB t3 t2 r0.length n = true := fun h => by
        have : hitB t3 t2 r0.length n = false := hh
        rw [this] at h; cases h
      rw [if_neg hh'] at ho
      exact ⟨⟨c1, c2, w1, w2, by omega, by omega, hl, hb⟩, by unfold m_keep_BitsBurst_0; omega, ho⟩
  · have hge := of_decide_eq_false hge
    rw [show min t3.length w - n = 0 by omega, goB] at ho
    exact ho
/-- what is changed -/
theorem burst_seen {s c : List Int} {k at_ : Int} (hk : sW k ≠ 0) (hs : Bits s) (h1 : openOk s k = true) (hl : s.length ≤ 5000) :
    openOk (goB c at_ (min c.length (sW k)) 0 false s).2 k = !(goB c at_ (min c.length (sW k)) 0 false s).1 := by
  generalize hm : min c.length (sW k) = m
  have hmw : m ≤ sW k := by omega
  have ht := goB_turned c at_ m 0 false s
  cases hf : (goB c at_ m 0 false s).1 with
  | false =>
    -- nothing was changed
    have hno : ∀ j, j < m → hitB c at_ s.length j = false := fun j hj => by
      cases hh : hitB c at_ s.length j with
      | false => rfl
      | true => have := ht.2 (.inr ⟨j, by omega, by omega, hh⟩); rw [hf] at this; cases this
    have he : ∀ (f i : Nat), i + f ≤ m → goB c at_ f i false s = (false, s) := by
      intro f
      induction f with
      | zero => intro i _; rfl
      | succ f ih => intro i hi; rw [goB, if_neg (by rw [hno i (by omega)]; decide)]; exact ih (i + 1) (by omega)
    rw [he m 0 (by omega), h1]; rfl
  | true =>
    obtain ⟨j, _, hj, hh⟩ := (ht.1 hf).resolve_left (by decide)
    have hh0 := hh
    simp only [hitB, Bool.and_eq_true, decide_eq_true_eq] at hh0
    obtain ⟨⟨a1, a2⟩, _⟩ := hh0
    obtain ⟨a, rfl⟩ := Int.eq_ofNat_of_zero_le a1
    cases ho : openOk (goB c (a : Int) m 0 false s).2 k with
    | false => rfl
    | true =>
      exfalso
      let e : List Int := seg (fun p => if a + 0 ≤ p ∧ p < a + 0 + m ∧ hitB c a s.length (p - a) = true then 1 else 0) 0 s.length
      have el : e.length = s.length := by show (seg _ _ _).length = _; rw [seg_length]; omega
      have eg : ∀ p, p < s.length → e.getD p 0 = if a + 0 ≤ p ∧ p < a + 0 + m ∧ hitB c a s.length (p - a) = true then 1 else 0 := fun p hp => seg_getD _ hp
      have eb : Bits e := Bits.seg fun p => by split <;> simp
      have hadd : (goB c (a : Int) m 0 false s).2 = addL s e := by
        refine list_ext (by rw [goB_length, addL_length]) fun p hp => ?_
        rw [goB_length] at hp
        rw [goB_getD c a m 0 false s p hs, addL_getD hp, eg p hp]
      rw [hadd] at ho
      have hz : ∀ p, ¬ (a ≤ p ∧ p < a + min m (s.length - a)) → e.getD p 0 = 0 := fun p hp => by
        by_cases hpl : p < s.length
        · rw [eg p hpl, if_neg (by omega)]
        · rw [getD_none (by omega)]
      have := burst hk hs eb el.symm (m := min m (s.length - a)) (by omega) (by omega) hz h1 ho (a + j)
      rw [eg (a + j) (by omega), if_pos ⟨by omega, by omega, by rw [show a + j - a = j by omega]; exact hh⟩] at this
      cases this
theorem open_seal {b : List Int} {k : Int} (hb : Bits b) (h : sealErr b k = 0) : sealOf b k = b ++ sumL b k ∧ openOk (sealOf b k) k = true ∧ openOf (sealOf b k) k = b ∧ sW k ≠ 0 ∧ (b ++ sumL b k).length ≤ 4096 := by
  have hs : sumErr b k = 0 := by
    unfold sealErr at h
    split at h
    · contradiction
    · rename_i hq; simpa using hq
  have hw := (sumErr_ok hs).2
  have hl : ¬ 4096 < b.length + sW k := by
    unfold sealErr at h
    rw [if_neg (by simpa using hs)] at h
    split at h
    · omega
    · assumption
  have he : sealOf b k = b ++ sumL b k := by unfold sealOf; rw [if_pos h]
  have hlen : (b ++ sumL b k).length = b.length + sW k := by rw [List.length_append, sumL_length]
  have hbits : Bits (b ++ sumL b k) := hb.app (outS_bits _ _)
  have hse : sumErr (b ++ sumL b k) k = 0 := by unfold sumErr; rw [if_neg (by simpa using bitsErr_bits hbits (by omega)), if_neg hw]
  have ht : (b ++ sumL b k).take (b.length + sW k - sW k) = b := by rw [Nat.add_sub_cancel, List.take_left]
  have hd : (b ++ sumL b k).drop (b.length + sW k - sW k) = sumL b k := by rw [Nat.add_sub_cancel, List.drop_left]
  have hop : openOk (b ++ sumL b k) k = true := decide_eq_true ⟨hse, by omega, by rw [hlen, ht, hd]⟩
  rw [he]
  refine ⟨rfl, hop, ?_, hw, by omega⟩
  unfold openOf; rw [if_pos hop, hlen, ht]
theorem ok_keep_BitsBurst : SumOK Try.prog 10 S_keep_BitsBurst := by
  refine whole_keep_BitsBurst ok_keep_good ok_bits_Seal ok_R_Divisor ok_bits_Open ok_R_SameBits l_keep_BitsBurst_0 ?_
  intro a0 a1 a2 a3 ⟨⟨h1, h2⟩, h3, h4⟩
  unfold W_keep_BitsBurst
  have ga := goodL_bits (b := a0) (n := 4000)
  have la := goodL_length (b := a0) (n := 4000)
  refine ⟨⟨h1, h2, by decide, by decide⟩, ?_⟩
  generalize goodL a0 4000 = b at *
  have hbe := bitsErr_bits ga (by omega)
  have hw4 := sW_le a1
  refine ⟨⟨by rw [big_val]; omega, ga.nonneg⟩, ?_⟩
  rw [condP_iff]
  simp only [bne_iff_ne, ne_eq, bne_eq_false_iff_eq]
  refine ⟨fun he => ⟨trivial, ?_, trivial⟩, fun he => ?_⟩
  · have hw : sW a1 = 0 := by
      rcases Nat.eq_zero_or_pos (sW a1) with hw | hw
      · exact hw
      · exfalso
        apply he
        have hs : sumErr b a1 = 0 := by unfold sumErr; rw [if_neg (by simpa using hbe), if_neg (by omega)]
        unfold sealErr; rw [if_neg (by simpa using hs), if_neg (by omega)]
    rw [divL_nil.2 hw]; simp
  · obtain ⟨q1, q2, q3, q4, q5⟩ := open_seal ga he
    have hsb : Bits (sealOf b a1) := by rw [q1]; exact ga.app (outS_bits _ _)
    have hsl : (sealOf b a1).length ≤ 4096 := by rw [q1]; exact q5
    rw [q2, q3]
    refine ⟨⟨by rw [big_val]; omega, hsb.nonneg⟩, fun _ => by rw [big_val]; omega, (condP_f (by simp)).2 ?_⟩
    obtain ⟨d1, d2, d3⟩ := divL_ok q4
    rw [d2, Int.toNat_natCast, Nat.sub_zero]
    have hlen := goB_length a3 a2 (min a3.length (sW a1)) 0 false (sealOf b a1)
    have hbits := goB_bits a3 a2 (min a3.length (sW a1)) 0 false (sealOf b a1) hsb
    have hse : sumErr (goB a3 a2 (min a3.length (sW a1)) 0 false (sealOf b a1)).2 a1 = 0 := by
      unfold sumErr; rw [if_neg (by simpa using bitsErr_bits hbits (by omega)), if_neg q4]
    refine ⟨by omega, trivial, by decide, by omega, ⟨h3, h4, by omega, by omega, by decide, by decide, by omega, hsb⟩, ⟨by rw [hlen, big_val]; omega, hbits.nonneg⟩, ?_, trivial⟩
    rw [hse, burst_seen q4 hsb q2 (by omega)]
    simp
theorem pre_keep_BitsBurst (x : dens S_keep_BitsBurst.par) (h : wfs S_keep_BitsBurst.par x) : S_keep_BitsBurst.pre x := by
  obtain ⟨a0, a1, a2, a3, ⟨⟩⟩ := x
  obtain ⟨⟨h1, h2⟩, _, _, ⟨h3, h4⟩, _⟩ := h
  have h1 : (List.length a0 : Int) ≤ 140737488351232 := h1
  have h3 : (List.length a3 : Int) ≤ 140737488351232 := h3
  refine ⟨⟨?_, fun y hy => (wfd_u8 (h2 y hy)).1⟩, ?_, fun y hy => (wfd_u8 (h4 y hy)).1⟩
  · rw [big_val]; show (List.length a0 : Int) ≤ _; omega
  · rw [big_val]; show (List.length a3 : Int) ≤ _; omega
end Go.Spec
