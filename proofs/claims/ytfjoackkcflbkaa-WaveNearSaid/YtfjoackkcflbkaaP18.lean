/- Bits as points: the walks, seventh part: lists of points; the law. -/
import Derived.Test.YtfjoackkcflbkaaF9
set_option linter.unusedVariables false
set_option linter.unusedSimpArgs false
namespace Go.Spec
open Go Go.Lift Go.Proofs
attribute [local irreducible] Go.Lift.awp Go.Lift.LoopOK Go.Lift.SumOK
theorem pt_ne (a b : Pt) : (!(a.1 == b.1 && (a.2.1 == b.2.1 && true))) = decide (a ≠ b) := by
  obtain ⟨a1, a2, ⟨⟩⟩ := a
  obtain ⟨b1, b2, ⟨⟩⟩ := b
  by_cases h1 : a1 = b1 <;> by_cases h2 : a2 = b2 <;> simp [h1, h2]
theorem l_R_SamePoints_0 : LoopOK E_R_SamePoints 0 (loopAt (bodyOf Try.f16) 0) L_R_SamePoints_0 := I_R_SamePoints_0 <| by
  intro t0 t1 t5 K hp ho
  obtain ⟨h1, h2, h3, h4⟩ := hp
  rw [big_val] at h4
  obtain ⟨n, rfl⟩ := Int.eq_ofNat_of_zero_le h2
  have e : ((n : Int) + 1).toNat = n + 1 := by omega
  unfold B_R_SamePoints_0
  unfold o_R_SamePoints_0 at ho ⊢
  rw [pt_ne]
  simp only [condP_iff, decide_eq_true_eq, decide_eq_false_iff_not, Int.toNat_natCast] at ho ⊢
  refine ⟨fun hlt => ⟨h2, hlt, h2, by omega, fun hne => ho.2 ?_, fun heq => ?_⟩, fun hge => ho.1 ?_⟩
  · rw [drop_cons t0 n (0, 0, ()) (by omega), drop_cons t1 n (0, 0, ()) (by omega)]
    intro e
    rw [List.cons.injEq] at e
    exact hne e.1
  · rw [i64w (by omega), e]
    refine ⟨⟨h1, by omega, by omega, by rw [big_val]; omega⟩, by unfold m_R_SamePoints_0; omega, ?_⟩
    rw [drop_cons t0 n (0, 0, ()) (by omega), drop_cons t1 n (0, 0, ()) (by omega)] at ho
    have heq' : t0.getD n (0, 0, ()) = t1.getD n (0, 0, ()) := by simpa using heq
    rw [heq'] at ho
    simpa using ho
  · rw [List.drop_eq_nil_of_le (by omega), List.drop_eq_nil_of_le (by omega)]
theorem ok_R_SamePoints : SumOK Try.prog 16 S_R_SamePoints := by
  refine whole_R_SamePoints l_R_SamePoints_0 ?_
  intro a0 a1 hpre
  unfold W_R_SamePoints p_R_SamePoints_0
  simp only [condP_iff]
  by_cases h : a0 = a1
  · subst h; simp; omega
  · simp [h]; omega
theorem l_R_Hears_0 : LoopOK E_R_Hears 0 (loopAt (bodyOf Try.f20) 0) L_R_Hears_0 := I_R_Hears_0 <| by
  intro t0 t5 K hp ho
  obtain ⟨h2, h3, h4⟩ := hp
  have h4' := h4
  rw [big_val] at h4'
  obtain ⟨n, rfl⟩ := Int.eq_ofNat_of_zero_le h2
  have e : ((n : Int) + 1).toNat = n + 1 := by omega
  unfold B_R_Hears_0
  unfold o_R_Hears_0 at ho ⊢
  have hc : ∀ x y : Int, (if (if (if decide (x > (1000 : Int)) = true then true else decide (x < (-1000 : Int))) = true then true else decide (y > (1000 : Int))) = true then true else decide (y < (-1000 : Int))) = !okPt (x, y, ()) := by
    intro x y
    unfold okPt
    by_cases h1 : x < -1000 <;> by_cases h2 : x > 1000 <;> by_cases h3 : y < -1000 <;> by_cases h4 : y > 1000 <;> simp [h1, h2, h3, h4] <;> omega
  rw [hc]
  simp only [i64w (n := (n : Int) + 1) (by omega), e, Int.toNat_natCast] at ho ⊢
  rw [condP_iff]
  simp only [decide_eq_true_eq, decide_eq_false_iff_not]
  refine ⟨fun hlt => ⟨h2, hlt, fun _ => h2, fun _ => hlt, fun _ => h2, fun _ => hlt, fun _ => h2, fun _ => hlt, ?_⟩, fun hge => ?_⟩
  · rw [drop_cons t0 n (0, 0, ()) (by omega), List.all_cons] at ho
    change condP (!okPt (t0.getD n (0, 0, ()))) _ _
    generalize okPt (t0.getD n (0, 0, ())) = b at *
    cases b
    · simpa [condP_iff] using ho
    · simp only [Bool.not_true, condP_f]
      exact ⟨⟨by omega, by omega, h4⟩, by unfold m_R_Hears_0; omega, by simpa using ho⟩
  · rw [List.drop_eq_nil_of_le (by omega)] at ho
    simpa [condP_iff] using ho
theorem ok_R_Hears : SumOK Try.prog 20 S_R_Hears := by
  refine whole_R_Hears l_R_Hears_0 ?_
  intro a0 a1 h
  have h' := h
  rw [big_val] at h'
  unfold W_R_Hears
  rw [List.drop_zero]
  have ho : (if (if (a1 != (2 : Int)) = true then a1 != (4 : Int) else false) = true then a1 != (6 : Int) else false) = !orderB a1 := by
    unfold orderB
    by_cases h1 : a1 = 2 <;> by_cases h2 : a1 = 4 <;> by_cases h3 : a1 = 6 <;> simp [h1, h2, h3, bne]
  rw [ho]
  cases ho : orderB a1
  · refine (condP_t rfl).2 ⟨?_, trivial⟩
    unfold hearB; rw [ho]; rfl
  · have hor := orderB_spec.1 ho
    have hb : -9223372036854775808 ≤ (a0.length : Int) * a1 ∧ (a0.length : Int) * a1 ≤ 9223372036854775807 := by
      rcases hor with rfl | rfl | rfl <;> omega
    rw [i64w hb]
    by_cases hc : (a0.length : Int) * a1 > 4096
    · refine (condP_t (by simp [hc])).2 ⟨?_, trivial⟩
      unfold hearB; rw [ho, decide_eq_false (by omega)]; rfl
    · refine (condP_f (by simp [hc])).2 ⟨⟨by decide, by omega, h⟩, ?_⟩
      have he : hearB a0 a1 = a0.all okPt := by unfold hearB; rw [ho, decide_eq_true (by omega)]; rfl
      rw [he, condP_iff]
      exact ⟨fun h => ⟨h.symm, trivial⟩, fun h => ⟨h.symm, trivial⟩⟩
theorem l_R_Constellation_0 : LoopOK E_R_Constellation 0 (loopAt (bodyOf Try.f26) 0) L_R_Constellation_0 := I_R_Constellation_0 <| by
  intro t0 t5 r0 K hp ho
  obtain ⟨hg, h1, h2, rfl⟩ := hp
  obtain ⟨k, rfl, hk⟩ := goodO_nat hg
  obtain ⟨n, rfl⟩ := Int.eq_ofNat_of_zero_le h1
  have e : ((n : Int) + 1).toNat = n + 1 := by omega
  unfold B_R_Constellation_0
  unfold o_R_Constellation_0 at ho ⊢
  simp only [i64w (n := (n : Int) + 1) (by omega), e, Int.toNat_natCast, List.drop_zero, List.nil_append] at ho ⊢
  rw [condP_iff]
  simp only [decide_eq_true_eq, decide_eq_false_iff_not]
  refine ⟨fun hlt => ⟨⟨hg, h1, hlt, by decide, by omega, ?_, fun l hl => by have := (listsC_mem hl).2; omega, by simp⟩, ⟨hg, by omega, by omega, by rw [e, listsC_succ]⟩, by unfold m_R_Constellation_0; omega, ho⟩, fun hge => ?_⟩
  · rw [listsC_length]
    exact Nat.le_trans (Nat.pow_le_pow_right (by decide) (by omega : n ≤ 6)) (by decide)
  · have : n = k := by omega
    subst this; exact ho
theorem l_R_Constellation_2 : LoopOK E_R_Constellation 2 (loopAt (bodyOf Try.f26) 2) L_R_Constellation_2 := I_R_Constellation_2 <| by
  intro t0 t5 t7 r0 r1 K hp ho
  obtain ⟨hg, h1, h2, h3, h4, h5, h6, h7⟩ := hp
  obtain ⟨n, rfl⟩ := Int.eq_ofNat_of_zero_le h3
  have e : ((n : Int) + 1).toNat = n + 1 := by omega
  unfold B_R_Constellation_2
  unfold o_R_Constellation_2 at ho ⊢
  simp only [i64w (n := (n : Int) + 1) (by omega), e, Int.toNat_natCast, List.append_eq] at ho ⊢
  rw [condP_iff]
  simp only [decide_eq_true_eq, decide_eq_false_iff_not, List.length_cons, List.length_nil]
  refine ⟨fun hlt => ?_, fun hge => ?_⟩
  · have hl := h6 _ (mem_getD (d := []) (by omega : n < r0.length))
    refine ⟨by omega, by omega, by omega, by omega, by omega, by omega, by omega, by omega, by omega, ⟨hg, h1, h2, by omega, by omega, h5, h6, by simp; omega⟩, by unfold m_R_Constellation_2; omega, ?_⟩
    rw [drop_cons r0 n [] (by omega), List.flatMap_cons, ← List.append_assoc] at ho
    exact ho
  · rw [List.drop_eq_nil_of_le (by omega), List.flatMap_nil, List.append_nil] at ho; exact ho
theorem l_R_Constellation_4 : LoopOK E_R_Constellation 4 (loopAt (bodyOf Try.f26) 4) L_R_Constellation_4 := I_R_Constellation_4 <| by
  intro t9 r0 r1 K hp ho
  obtain ⟨h3, h4, h5, h6, h7⟩ := hp
  obtain ⟨n, rfl⟩ := Int.eq_ofNat_of_zero_le h3
  have e : ((n : Int) + 1).toNat = n + 1 := by omega
  unfold B_R_Constellation_4
  unfold o_R_Constellation_4 at ho ⊢
  simp only [i64w (n := (n : Int) + 1) (by omega), e, Int.toNat_natCast, List.append_eq] at ho ⊢
  rw [condP_iff]
  simp only [decide_eq_true_eq, decide_eq_false_iff_not, List.length_cons, List.length_nil]
  refine ⟨fun hlt => ?_, fun hge => ?_⟩
  · obtain ⟨hl1, hl2⟩ := h6 _ (mem_getD (d := []) (by omega : n < r0.length))
    rw [drop_cons r0 n [] (by omega), List.map_cons, List.append_cons] at ho
    have hnx : p_R_Constellation_4 ((n : Int) + 1) r0 (r1 ++ [(sideL (List.getD r0 n []) (0 : Nat), sideL (List.getD r0 n []) (1 : Nat), ())]) := ⟨by omega, by omega, h5, h6, by simp; omega⟩
    have hm : m_R_Constellation_4 ((n : Int) + 1) r0 (r1 ++ [(sideL (List.getD r0 n []) (0 : Nat), sideL (List.getD r0 n []) (1 : Nat), ())]) < m_R_Constellation_4 n r0 r1 := by unfold m_R_Constellation_4; omega
    repeat' (first | exact ho | exact hnx | exact hm | exact ⟨hl1, hl2, by decide, by decide⟩ | omega | refine And.intro ?_ ?_)
  · rw [List.drop_eq_nil_of_le (by omega), List.map_nil, List.append_nil] at ho; exact ho
theorem ok_R_Constellation : SumOK Try.prog 26 S_R_Constellation := by
  refine whole_R_Constellation ok_R_Sides l_R_Constellation_0 l_R_Constellation_2 l_R_Constellation_4 ?_
  intro a0 hg
  unfold W_R_Constellation
  obtain ⟨k, rfl, hk⟩ := goodO_nat hg
  have hp2 := pow_le hk
  simp only [Int.toNat_natCast, List.drop_zero, List.nil_append]
  have h0 : 0 ≤ (k : Int) := by omega
  repeat' (first | rfl | exact ⟨hg, by decide, h0, rfl⟩ | exact ⟨by decide, by omega, by rw [listsC_length]; exact hp2.2, fun l hl => by obtain ⟨h1, h2⟩ := listsC_mem hl; exact ⟨h1, by omega⟩, by simp⟩ | trivial | omega | refine And.intro ?_ ?_)
theorem l_R_Sent_0 : LoopOK E_R_Sent 0 (loopAt (bodyOf Try.f17) 0) L_R_Sent_0 := I_R_Sent_0 <| by
  intro t0 t1 t8 r0 r1 r2 K hp ho
  obtain ⟨⟨hb, hg, hl, hm, h1, h2, h3, h4⟩, rfl, rfl⟩ := hp
  obtain ⟨k, rfl, hk⟩ := goodO_nat hg
  obtain ⟨n, rfl⟩ := Int.eq_ofNat_of_zero_le h1
  unfold B_R_Sent_0
  unfold o_R_Sent_0 at ho ⊢
  have ew : IntKind.wrap IntKind.i64 ((n : Int) + (k : Int)) = ((n + k : Nat) : Int) := by rw [i64w (by omega)]; omega
  simp only [ew, Int.toNat_natCast, List.drop_zero] at ho ⊢
  rw [condP_iff]
  simp only [decide_eq_true_eq, decide_eq_false_iff_not]
  refine ⟨fun hlt => ?_, fun hge => ?_⟩
  · have hle : n + k ≤ t0.length := by rcases hk with rfl | rfl | rfl <;> omega
    have htl : ((t0.drop n).take k).length = k := by rw [List.length_take, List.length_drop]; omega
    rw [hits_C ((hb.drop n).take k) htl]
    have hf : (t0.length - n) / k = (t0.length - (n + k)) / k + 1 := by
      rw [show t0.length - n = (t0.length - (n + k)) + k by omega, Nat.add_div_right _ (by omega)]
    rw [hf, sendF, List.drop_drop] at ho
    have hm2 : ((n + k : Nat) : Int) % (k : Int) = 0 := by rcases hk with rfl | rfl | rfl <;> omega
    refine ⟨⟨hb, hg, hl, h1, by omega, by rw [Int.toNat_natCast], by rw [Int.toNat_natCast], by decide, by omega, by omega⟩, ⟨⟨hb, hg, hl, hm, by omega, by omega, hm2, by simp; omega⟩, by rw [Int.toNat_natCast], by rw [Int.toNat_natCast]⟩, by unfold m_R_Sent_0; omega, ?_⟩
    rw [List.append_assoc]; exact ho
  · rw [show t0.length - n = 0 by omega, Nat.zero_div, sendF, List.append_nil] at ho
    exact ho
theorem l_R_Sent_2 : LoopOK E_R_Sent 2 (loopAt (bodyOf Try.f17) 2) L_R_Sent_2 := I_R_Sent_2 <| by
  intro t0 t1 t8 t9 r0 r1 r2 K hp ho
  obtain ⟨hb, hg, hl, h1, h2, rfl, rfl, h3, h4, h5⟩ := hp
  obtain ⟨k, rfl, hk⟩ := goodO_nat hg
  obtain ⟨i, rfl⟩ := Int.eq_ofNat_of_zero_le h1
  obtain ⟨n, rfl⟩ := Int.eq_ofNat_of_zero_le h3
  have e : ((n : Int) + 1).toNat = n + 1 := by omega
  have hp2 := pow_le hk
  rw [Int.toNat_natCast] at h4
  rw [listsC_length] at h4
  unfold B_R_Sent_2
  unfold o_R_Sent_2 at ho ⊢
  have ew : IntKind.wrap IntKind.i64 ((i : Int) + (k : Int)) = ((i + k : Nat) : Int) := by rw [i64w (by omega)]; omega
  simp only [ew, i64w (n := (n : Int) + 1) (by omega), e, Int.toNat_natCast, cutL_mid, List.append_eq, listsC_length, pointsC_length] at ho ⊢
  rw [condP_iff]
  simp only [decide_eq_true_eq, decide_eq_false_iff_not]
  refine ⟨fun hlt => ?_, fun hge => ?_⟩
  · have hn : n < 2 ^ k := by omega
    rw [listsC_getD hn, pointsC_getD hn, condP_iff, outS_length]
    simp only [decide_eq_true_eq, decide_eq_false_iff_not, List.length_cons, List.length_nil]
    rw [drop_cons (listsC k) n [] (by rw [listsC_length]; exact hn), listsC_getD hn] at ho
    have hnx : ∀ r : List Pt, (r.length : Int) ≤ (i : Int) * 64 + (n + 1) → p_R_Sent_2 t0 k i ((n : Int) + 1) (listsC k) (pointsC k) r := fun r hr => ⟨hb, hg, hl, h1, by omega, by rw [Int.toNat_natCast], by rw [Int.toNat_natCast], by omega, by rw [listsC_length]; omega, hr⟩
    refine ⟨h3, hlt, h1, by omega, by omega, by rw [big_val]; omega, fun hc => ⟨h3, hlt, by omega, hnx _ (by simp; omega), by unfold m_R_Sent_2; rw [listsC_length]; omega, ?_⟩, fun hc => ⟨hnx _ (by omega), by unfold m_R_Sent_2; rw [listsC_length]; omega, ?_⟩⟩
    · rw [← hc] at ho ⊢
      unfold hits at ho ⊢
      rw [List.flatMap_cons, if_pos rfl, ← List.append_assoc] at ho
      exact ho
    · unfold hits at ho ⊢
      rw [List.flatMap_cons, if_neg hc, List.nil_append] at ho
      exact ho
  · have hd : (listsC k).drop n = [] := List.drop_eq_nil_of_le (by rw [listsC_length]; omega)
    rw [hd] at ho
    unfold hits at ho
    rw [List.flatMap_nil, List.append_nil] at ho; exact ho
theorem sendErr_ok {b : List Int} {o : Int} (h : sendErr b o = 0) : Bits b ∧ b.length ≤ 4096 ∧ goodO o ∧ (b.length : Int) % o = 0 := by
  unfold sendErr at h
  split at h
  · rename_i hb; exact (hb h).elim
  · rename_i hb
    split at h
    · rename_i hc
      obtain ⟨b1, b2⟩ := bitsErr_ok (Decidable.not_not.1 hb)
      exact ⟨b1, b2, orderB_spec.1 hc.1, hc.2⟩
    · cases h
theorem ok_R_Sent : SumOK Try.prog 17 S_R_Sent := by
  refine whole_R_Sent ok_R_Constellation ok_R_SameBits l_R_Sent_0 l_R_Sent_2 ?_
  intro a0 a1 h
  obtain ⟨h1, h2, h3, h4⟩ := sendErr_ok h
  unfold W_R_Sent
  have e : sendL a0 a1 = sendF a1.toNat (a0.length / a1.toNat) a0 := by unfold sendL; rw [if_pos h]
  simp only [Int.toNat_zero, List.drop_zero, List.nil_append, Nat.sub_zero]
  repeat' (first | exact h3 | exact e.symm | trivial | exact ⟨⟨h1, h3, h2, h4, by decide, by omega, by simp, by simp⟩, rfl, rfl⟩ | refine And.intro ?_ ?_)
theorem hearB_at {l : List Pt} {o : Int} (h : hearB l o = true) {i : Nat} (hi : i < l.length) : okPt (l.getD i (0, 0, ())) = true := (hearB_spec.1 h).2.2 _ (mem_getD hi)
theorem l_R_Heard_0 : LoopOK E_R_Heard 0 (loopAt (bodyOf Try.f22) 0) L_R_Heard_0 := I_R_Heard_0 <| by
  intro t0 t1 t8 r0 r1 r2 K hp ho
  obtain ⟨⟨hb, _, h1, h2, h3⟩, rfl, rfl⟩ := hp
  obtain ⟨hg, hl, hall⟩ := hearB_spec.1 hb
  obtain ⟨k, rfl, hk⟩ := goodO_nat hg
  obtain ⟨n, rfl⟩ := Int.eq_ofNat_of_zero_le h1
  have e : ((n : Int) + 1).toNat = n + 1 := by omega
  have hln := len4096 hk hl
  unfold B_R_Heard_0
  unfold o_R_Heard_0 at ho ⊢
  simp only [i64w (n := (n : Int) + 1) (by omega), e, Int.toNat_natCast] at ho ⊢
  rw [condP_iff]
  simp only [decide_eq_true_eq, decide_eq_false_iff_not]
  refine ⟨fun hlt => ⟨⟨hb, h1, hlt, by rw [Int.toNat_natCast], by rw [Int.toNat_natCast], by decide, by omega, by omega⟩, ⟨⟨hb, rfl, by omega, by omega, ?_⟩, by rw [Int.toNat_natCast], by rw [Int.toNat_natCast]⟩, by unfold m_R_Heard_0; omega, ?_⟩, fun hge => ?_⟩
  · rw [List.length_append, seg_length]; rcases hk with rfl | rfl | rfl <;> omega
  · rw [heardL_cons (by omega)] at ho
    rw [List.append_assoc]; exact ho
  · rw [heardL_end (by omega), List.append_nil] at ho; exact ho
theorem l_R_Heard_2 : LoopOK E_R_Heard 2 (loopAt (bodyOf Try.f22) 2) L_R_Heard_2 := I_R_Heard_2 <| by
  intro t0 t1 t8 t9 r0 r1 r2 K hp ho
  obtain ⟨hb, h1, h2, rfl, rfl, h3, h4, h5⟩ := hp
  obtain ⟨hg, hl, hall⟩ := hearB_spec.1 hb
  obtain ⟨k, rfl, hk⟩ := goodO_nat hg
  obtain ⟨i, rfl⟩ := Int.eq_ofNat_of_zero_le h1
  obtain ⟨n, rfl⟩ := Int.eq_ofNat_of_zero_le h3
  have e : ((n : Int) + 1).toNat = n + 1 := by omega
  have hln := len4096 hk hl
  have hok := hearB_at hb (i := i) (by omega)
  unfold B_R_Heard_2
  unfold o_R_Heard_2 at ho ⊢
  simp only [i64w (n := (n : Int) + 1) (by omega), e, Int.toNat_natCast, List.append_eq] at ho ⊢
  rw [condP_iff]
  simp only [decide_eq_true_eq, decide_eq_false_iff_not]
  have hr : (r2.length : Int) ≤ 4096 * 6 := by rcases hk with rfl | rfl | rfl <;> omega
  refine ⟨fun hlt => ?_, fun hge => ?_⟩
  · have hnk : n < (k : Int).toNat := by omega
    have f1 := refL_all hok hg hnk (.inr rfl : (1 : Int) = 0 ∨ (1 : Int) = 1)
    have f0 := refL_all hok hg hnk (.inl rfl : (0 : Int) = 0 ∨ (0 : Int) = 1)
    rw [Int.toNat_natCast] at f1 f0
    rw [f1.1, f0.1, i64w (by omega)]
    have hz : ∀ v, refL (t0.getD i (0, 0, ())) k n v 0 = -1 := fun _ => rfl
    refine ⟨⟨⟨hb, h1, h2, by rw [Int.toNat_natCast], by rw [Int.toNat_natCast], h3, h4, h5⟩, hlt, by decide, by omega, rfl, rfl⟩, by simp only [List.length_cons, List.length_nil]; omega, ⟨hb, h1, h2, by rw [Int.toNat_natCast], by rw [Int.toNat_natCast], by omega, by omega, by simp; omega⟩, by unfold m_R_Heard_2; omega, ?_⟩
    rw [seg_cons _ (by omega : n < k), List.append_cons] at ho
    exact ho
  · rw [seg_nil _ (by omega), List.append_nil] at ho; exact ho
theorem and_if (p : Prop) [Decidable p] (b : Bool) : (if p then b else false) = (decide p && b) := by by_cases h : p <;> simp [h]
theorem or_if (p : Prop) [Decidable p] (b : Bool) : (if p then true else b) = (decide p || b) := by by_cases h : p <;> simp [h]
theorem l_R_Heard_4 : LoopOK E_R_Heard 4 (loopAt (bodyOf Try.f22) 4) L_R_Heard_4 := I_R_Heard_4 <| by
  intro t0 t1 t8 t9 t10 t11 t12 r0 r1 r2 K hp ho
  obtain ⟨⟨hb, h1, h2, rfl, rfl, h3, h4, h5⟩, h6, h7, h8, rfl, rfl⟩ := hp
  obtain ⟨hg, hl, hall⟩ := hearB_spec.1 hb
  obtain ⟨k, rfl, hk⟩ := goodO_nat hg
  obtain ⟨i, rfl⟩ := Int.eq_ofNat_of_zero_le h1
  obtain ⟨j, rfl⟩ := Int.eq_ofNat_of_zero_le h3
  obtain ⟨n, rfl⟩ := Int.eq_ofNat_of_zero_le h7
  have e : ((n : Int) + 1).toNat = n + 1 := by omega
  have hln := len4096 hk hl
  have hp2 := pow_le hk
  have hok := hearB_at hb (i := i) (by omega)
  rw [Int.toNat_natCast, listsC_length] at h8
  unfold B_R_Heard_4
  unfold o_R_Heard_4 at ho ⊢
  simp only [i64w (n := (n : Int) + 1) (by omega), e, Int.toNat_natCast, listsC_length, pointsC_length] at ho ⊢
  rw [condP_iff]
  simp only [decide_eq_true_eq, decide_eq_false_iff_not]
  refine ⟨fun hlt => ?_, fun hge => ?_⟩
  · have hn : n < 2 ^ k := by omega
    simp only [listsC_getD hn, pointsC_getD hn, outS_length]
    have hnx : ∀ a b : Int, a = refL (t0.getD i (0, 0, ())) k j 1 (n + 1) → b = refL (t0.getD i (0, 0, ())) k j 0 (n + 1) →
        p_R_Heard_4 t0 k i j a b ((n : Int) + 1) (listsC k) (pointsC k) r2 ∧ m_R_Heard_4 t0 k i j a b ((n : Int) + 1) (listsC k) (pointsC k) r2 < m_R_Heard_4 t0 k i j (refL (t0.getD i (0, 0, ())) k j 1 n) (refL (t0.getD i (0, 0, ())) k j 0 n) n (listsC k) (pointsC k) r2 ∧
          X_R_Heard_4_0 t0 k i j (refL (t0.getD i (0, 0, ())) k j 1 (2 ^ k)) (refL (t0.getD i (0, 0, ())) k j 0 (2 ^ k)) (listsC k) (pointsC k) r2 K := by
      intro a b ha hb2
      exact ⟨⟨⟨hb, h1, h2, by rw [Int.toNat_natCast], by rw [Int.toNat_natCast], h3, h4, h5⟩, h6, by omega, by rw [listsC_length]; omega, by rw [e]; exact ha, by rw [e]; exact hb2⟩, by unfold m_R_Heard_4; rw [listsC_length]; omega, ho⟩
    simp only [condP_iff, and_if, or_if, Bool.and_eq_true, Bool.or_eq_true, decide_eq_true_eq, beq_iff_eq, Bool.and_eq_false_iff, Bool.or_eq_false_iff, decide_eq_false_iff_not, beq_eq_false_iff_ne, ne_eq]
    have hbit := (outS_bits k n).getD j
    refine ⟨h1, h2, h7, hlt, ⟨hok, okPt_pointL (outS_bits k n)⟩, h7, hlt, h3, by omega, fun hc => ⟨h7, hlt, h3, by omega, fun hd => ?_, fun hd => ?_⟩, fun hc => ⟨h7, hlt, h3, by omega, fun hd => ?_, fun hd => ?_⟩⟩
    · omega
    · refine hnx _ _ ?_ ?_
      · rw [refL, if_pos hc]
      · rw [refL, if_neg (fun h => by omega)]
    · refine hnx _ _ ?_ ?_
      · rw [refL, if_neg (fun h => by omega)]
      · rw [refL, if_pos hd]
    · refine hnx _ _ ?_ ?_
      · rw [refL, if_neg]
        rintro ⟨q1, q2⟩
        rcases hc with hc | hc
        · exact hc q1
        · omega
      · rw [refL, if_neg]
        rintro ⟨q1, q2⟩
        rcases hd with hd | hd
        · exact hd q1
        · omega
  · have : n = 2 ^ k := by omega
    subst this; exact ho
theorem ok_R_Heard : SumOK Try.prog 22 S_R_Heard := by
  refine whole_R_Heard ok_R_Constellation ok_R_Far l_R_Heard_0 l_R_Heard_2 l_R_Heard_4 ?_
  intro a0 a1 h
  unfold W_R_Heard
  simp only [Int.toNat_zero, List.drop_zero, List.nil_append]
  repeat' (first | exact (hearB_spec.1 h).1 | rfl | trivial | exact ⟨⟨h, rfl, by decide, by omega, by simp⟩, rfl, rfl⟩ | refine And.intro ?_ ?_)
theorem ordOf_C (k : Nat) : ordOf (listsC k) = k := by
  unfold ordOf
  rw [listsC_getD (Nat.two_pow_pos k), outS_length]
theorem l_R_Nearest_0 : LoopOK E_R_Nearest 0 (loopAt (bodyOf Try.f24) 0) L_R_Nearest_0 := I_R_Nearest_0 <| by
  intro t0 t8 r0 r1 r2 K hp ho
  obtain ⟨o, ⟨hb, _, h1, h2, h3⟩, rfl, rfl⟩ := hp
  obtain ⟨hg, hl, hall⟩ := hearB_spec.1 hb
  obtain ⟨k, rfl, hk⟩ := goodO_nat hg
  obtain ⟨n, rfl⟩ := Int.eq_ofNat_of_zero_le h1
  have e : ((n : Int) + 1).toNat = n + 1 := by omega
  have hln := len4096 hk hl
  have hp2 := pow_le hk
  unfold B_R_Nearest_0
  unfold o_R_Nearest_0 at ho ⊢
  simp only [i64w (n := (n : Int) + 1) (by omega), e, Int.toNat_natCast, List.append_eq, ordOf_C, listsC_length] at ho ⊢
  rw [condP_iff]
  simp only [decide_eq_true_eq, decide_eq_false_iff_not]
  refine ⟨fun hlt => ?_, fun hge => ?_⟩
  · have hbest := bestN_lt (p := t0.getD n (0, 0, ())) k (2 ^ k)
    have hol := outS_length k (bestN (t0.getD n (0, 0, ())) k (2 ^ k)).2
    have hr : (r2.length : Int) ≤ 4096 * 6 := by rcases hk with rfl | rfl | rfl <;> omega
    rw [listsC_getD (by omega)]
    have h0 := (bestN_far (hearB_at hb (i := n) (by omega)) k 1 (Nat.le_refl 1))
    have hb1 := bestN_lt (p := t0.getD n (0, 0, ())) k 1
    refine ⟨⟨k, ⟨⟨hb, rfl, h1, by omega, h3⟩, by rw [Int.toNat_natCast], by rw [Int.toNat_natCast]⟩, hlt, by decide, by rw [listsC_length]; omega, ?_⟩, by omega, by omega, by omega, ⟨k, ⟨⟨hb, rfl, by omega, by omega, ?_⟩, by rw [Int.toNat_natCast], by rw [Int.toNat_natCast]⟩⟩, by unfold m_R_Nearest_0; omega, ?_⟩
    · simp only [Int.toNat_natCast]
      show (0 : Int) = ((bestN (t0.getD n (0, 0, ())) k 1).2 : Int)
      omega
    · rw [List.length_append, hol]; rcases hk with rfl | rfl | rfl <;> omega
    · rw [nearL_cons (by omega)] at ho
      rw [List.append_assoc]; exact ho
  · rw [nearL_end (by omega), List.append_nil] at ho; exact ho
theorem l_R_Nearest_2 : LoopOK E_R_Nearest 2 (loopAt (bodyOf Try.f24) 2) L_R_Nearest_2 := I_R_Nearest_2 <| by
  intro t0 t8 t9 t10 r0 r1 r2 K hp ho
  obtain ⟨o, ⟨⟨hb, _, h1, h2, h3⟩, rfl, rfl⟩, h4, h5, h6, rfl⟩ := hp
  obtain ⟨hg, hl, hall⟩ := hearB_spec.1 hb
  obtain ⟨k, rfl, hk⟩ := goodO_nat hg
  obtain ⟨i, rfl⟩ := Int.eq_ofNat_of_zero_le h1
  obtain ⟨n, rfl⟩ := Int.eq_ofNat_of_zero_le (a := t10) (by omega)
  have e : ((n : Int) + 1).toNat = n + 1 := by omega
  have hp2 := pow_le hk
  have hok := hearB_at hb (i := i) (by omega)
  rw [Int.toNat_natCast, listsC_length] at h6
  unfold B_R_Nearest_2
  unfold o_R_Nearest_2 at ho ⊢
  simp only [i64w (n := (n : Int) + 1) (by omega), e, Int.toNat_natCast, ordOf_C, listsC_length, pointsC_length] at ho ⊢
  rw [condP_iff]
  simp only [decide_eq_true_eq, decide_eq_false_iff_not]
  have hbest := bestN_lt (p := t0.getD i (0, 0, ())) k n
  have hfar := (bestN_far hok k n (by omega)).1
  refine ⟨fun hlt => ?_, fun hge => ?_⟩
  · have hn : n < 2 ^ k := by omega
    have hbn : (bestN (t0.getD i (0, 0, ())) k n).2 < 2 ^ k := by omega
    simp only [pointsC_getD hn, pointsC_getD hbn, ← hfar, condP_iff, decide_eq_true_eq, decide_eq_false_iff_not]
    have hnx : ∀ a : Int, a = ((bestN (t0.getD i (0, 0, ())) k (n + 1)).2 : Nat) →
        p_R_Nearest_2 t0 i a ((n : Int) + 1) (listsC k) (pointsC k) r2 ∧ m_R_Nearest_2 t0 i a ((n : Int) + 1) (listsC k) (pointsC k) r2 < m_R_Nearest_2 t0 i ((bestN (t0.getD i (0, 0, ())) k n).2 : Nat) n (listsC k) (pointsC k) r2 ∧
          X_R_Nearest_2_0 t0 i ((bestN (t0.getD i (0, 0, ())) k (2 ^ k)).2 : Nat) (listsC k) (pointsC k) r2 K := by
      intro a ha
      exact ⟨⟨k, ⟨⟨hb, rfl, h1, by omega, h3⟩, by rw [Int.toNat_natCast], by rw [Int.toNat_natCast]⟩, h4, by omega, by rw [listsC_length]; omega, by simp only [Int.toNat_natCast, e]; exact ha⟩, by unfold m_R_Nearest_2; rw [listsC_length]; omega, ho⟩
    refine ⟨h1, h4, by omega, hlt, ⟨hok, okPt_pointL (outS_bits k n)⟩, h1, h4, by omega, by omega, ⟨hok, okPt_pointL (outS_bits k _)⟩, fun hc => hnx _ ?_, fun hc => hnx _ ?_⟩
    · rw [bestN, if_pos hc]
    · rw [bestN, if_neg hc]
  · have : n = 2 ^ k := by omega
    subst this; exact ho
theorem ok_R_Nearest : SumOK Try.prog 24 S_R_Nearest := by
  refine whole_R_Nearest ok_R_Constellation ok_R_Far l_R_Nearest_0 l_R_Nearest_2 ?_
  intro a0 a1 h
  unfold W_R_Nearest
  simp only [Int.toNat_zero, List.drop_zero, List.nil_append, ordOf_C]
  repeat' (first | exact (hearB_spec.1 h).1 | rfl | trivial | exact ⟨a1, ⟨⟨h, rfl, by decide, by omega, by simp⟩, rfl, rfl⟩⟩ | refine And.intro ?_ ?_)
theorem sendL_length {b : List Int} {o : Int} (h : sendErr b o = 0) : (sendL b o).length ≤ b.length := by
  unfold sendL
  rw [if_pos h]
  have key : ∀ (k f : Nat) (b : List Int), (sendF k f b).length = f := by
    intro k f
    induction f with
    | zero => intro b; rfl
    | succ f ih => intro b; rw [sendF, List.length_cons, ih]
  rw [key]
  exact Nat.div_le_self _ _
theorem heardL_length (l : List Pt) (k : Nat) : (heardL l k).length = l.length * k := by
  induction l with
  | nil => simp [heardL]
  | cons p l ih =>
    have : heardL (p :: l) k = heard1 k p ++ heardL l k := by simp [heardL]
    rw [this, List.length_append, heard1_len, ih, List.length_cons, Nat.add_mul, Nat.one_mul, Nat.add_comm]
theorem nearL_length (l : List Pt) (k : Nat) : (nearL l k).length = l.length * k := by
  induction l with
  | nil => simp [nearL]
  | cons p l ih =>
    have : nearL (p :: l) k = near1 k p ++ nearL l k := by simp [nearL]
    rw [this, List.length_append, near1_len, ih, List.length_cons, Nat.add_mul, Nat.one_mul, Nat.add_comm]
theorem ok_law_WaveSays : SumOK Try.prog 3 S_law_WaveSays := by
  refine whole_law_WaveSays ok_wave_Send ok_R_Bits ok_R_Sent ok_R_SamePoints ok_wave_Hear ok_wave_Near ok_R_Hears ok_R_Heard ok_R_SameInts ok_R_Nearest ok_R_SameBits ?_
  intro a0 a1 a2 ⟨h1, h2, h3⟩
  unfold W_law_WaveSays
  have hord : (if (if (a2 == (2 : Int)) = true then true else a2 == (4 : Int)) = true then true else a2 == (6 : Int)) = orderB a2 := by
    unfold orderB
    by_cases q1 : a2 = 2 <;> by_cases q2 : a2 = 4 <;> simp [q1, q2]
  rw [hord]
  -- what is told of the points
  have tail : ((↑(List.length a1) : Int) ≤ big) ∧ ((↑(List.length a1) : Int) ≤ big) ∧ ((↑(List.length a1) : Int) ≤ big) ∧
      condP (!hearB a1 a2)
        (((if (if (if (heardErr a1 a2 == (1 : Int)) = true then heardErr a1 a2 == (1 : Int) else false) = true then (↑(List.length (if hearB a1 a2 = true then heardL a1 (Int.toNat a2) else [])) : Int) == (0 : Int) else false) = true then (↑(List.length (if hearB a1 a2 = true then nearL a1 (Int.toNat a2) else [])) : Int) == (0 : Int) else false) = true) ∧
        True)
        (((if (heardErr a1 a2 == (0 : Int)) = true then heardErr a1 a2 == (0 : Int) else false) = true → hearB a1 a2 = true) ∧
        ((if (heardErr a1 a2 == (0 : Int)) = true then heardErr a1 a2 == (0 : Int) else false) = true → (↑(List.length (if hearB a1 a2 = true then heardL a1 (Int.toNat a2) else [])) : Int) ≤ big) ∧
        ((if (if (heardErr a1 a2 == (0 : Int)) = true then heardErr a1 a2 == (0 : Int) else false) = true then decide ((if hearB a1 a2 = true then heardL a1 (Int.toNat a2) else []) = heardL a1 (Int.toNat a2)) else false) = true → hearB a1 a2 = true) ∧
        ((if (if (heardErr a1 a2 == (0 : Int)) = true then heardErr a1 a2 == (0 : Int) else false) = true then decide ((if hearB a1 a2 = true then heardL a1 (Int.toNat a2) else []) = heardL a1 (Int.toNat a2)) else false) = true → (↑(List.length (if hearB a1 a2 = true then nearL a1 (Int.toNat a2) else [])) : Int) ≤ big) ∧
        ((if (if (if (heardErr a1 a2 == (0 : Int)) = true then heardErr a1 a2 == (0 : Int) else false) = true then decide ((if hearB a1 a2 = true then heardL a1 (Int.toNat a2) else []) = heardL a1 (Int.toNat a2)) else false) = true then decide ((if hearB a1 a2 = true then nearL a1 (Int.toNat a2) else []) = nearL a1 (Int.toNat a2)) else false) = true) ∧
        True) := by
    refine ⟨h3, h3, h3, ?_⟩
    unfold heardErr
    cases hh : hearB a1 a2
    · simp [condP_iff]
    · obtain ⟨hg, hl, _⟩ := hearB_spec.1 hh
      obtain ⟨k, rfl, hk⟩ := goodO_nat hg
      have e1 : ((heardL a1 k).length : Int) ≤ big := by rw [heardL_length, big_val, Int.natCast_mul]; omega
      have e2 : ((nearL a1 k).length : Int) ≤ big := by rw [nearL_length, big_val, Int.natCast_mul]; omega
      simp [condP_iff, e1, e2]
  have hsl : sendErr a0 a2 = 0 → ((sendL a0 a2).length : Int) ≤ big := fun h => by have := sendL_length h; omega
  have hs0 : sendErr a0 a2 ≠ 0 → (sendL a0 a2).length = 0 := fun h => by unfold sendL; rw [if_neg h]; rfl
  refine ⟨⟨h1, h2⟩, h1, ?_, ?_⟩
  · intro h
    simp only [Bool.and_eq_true, beq_iff_eq, Bool.not_eq_false'] at h
    have := orderB_spec.1 h.2; omega
  have he : (if (bitsErr a0 == (0 : Int)) = true then if (!orderB a2) = true then true else Int.tmod (↑(List.length a0) : Int) a2 != (0 : Int) else false) = true ↔ bitsErr a0 = 0 ∧ sendErr a0 a2 = 1 := by
    unfold sendErr
    by_cases hb : bitsErr a0 = 0
    · simp only [hb, beq_self_eq_true, if_true, ne_eq, not_true_eq_false, if_false, true_and]
      cases ho : orderB a2
      · simp
      · have hg := orderB_spec.1 ho
        rw [Int.tmod_eq_emod_of_nonneg (by omega)]
        by_cases hm : (a0.length : Int) % a2 = 0 <;> simp [hm]
    · simp [hb]
  rw [condP_iff]
  refine ⟨fun hc => ?_, fun hc => ?_⟩
  · have hs := (he.1 hc).2
    rw [hs]
    refine ⟨fun h => by simp at h, fun h => by simp at h, ?_⟩
    rw [hs0 (by rw [hs]; decide)]
    exact (condP_f (by simp)).2 tail
  · have hs : sendErr a0 a2 = bitsErr a0 := by
      have hn : ¬ (bitsErr a0 = 0 ∧ sendErr a0 a2 = 1) := fun h => by rw [he.2 h] at hc; cases hc
      by_cases hb : bitsErr a0 = 0
      · rw [hb]
        unfold sendErr at hn ⊢
        simp only [hb, ne_eq, not_true_eq_false, if_false, true_and] at hn ⊢
        split
        · rfl
        · rename_i hq; rw [if_neg hq] at hn; exact (hn rfl).elim
      · unfold sendErr; rw [if_pos hb]
    refine ⟨fun h => by simp only [Bool.and_eq_true, beq_iff_eq] at h; exact h.2, fun h => hsl (by simp only [Bool.and_eq_true, beq_iff_eq] at h; exact h.2), ?_⟩
    rw [hs]
    refine (condP_f ?_).2 tail
    by_cases hb : bitsErr a0 = 0
    · simp [hb]
    · have := hs0 (by rw [hs]; exact hb)
      simp [hb, this]
theorem pre_law_WaveSays (x : dens S_law_WaveSays.par) (h : wfs S_law_WaveSays.par x) : S_law_WaveSays.pre x := by
  obtain ⟨a0, a1, a2, ⟨⟩⟩ := x
  obtain ⟨⟨h1, h2⟩, ⟨h3, _⟩, _⟩ := h
  have h1 : (List.length a0 : Int) ≤ 140737488351232 := h1
  have h3 : (List.length a1 : Int) ≤ 140737488351232 := h3
  refine ⟨?_, fun y hy => (wfd_u8 (h2 y hy)).1, ?_⟩
  · rw [big_val]; show (List.length a0 : Int) ≤ _; omega
  · rw [big_val]; show (List.length a1 : Int) ≤ _; omega
end Go.Spec
