/- Lines for the functions of this seat; merged from texts of their own. -/
import Derived.Test.YtfjoackkcflbkaaF8
set_option linter.unusedVariables false
set_option linter.unusedSimpArgs false
/- Bits as points: the walks, fifth part. -/
namespace Go.Spec
open Go Go.Lift Go.Proofs
attribute [local irreducible] Go.Lift.awp Go.Lift.LoopOK Go.Lift.SumOK
theorem hearB_spec {l : List Pt} {o : Int} : hearB l o = true ↔ goodO o ∧ (l.length : Int) * o ≤ 4096 ∧ ∀ p ∈ l, okPt p = true := by
  unfold hearB goodO
  rw [Bool.and_eq_true, Bool.and_eq_true, orderB_spec, decide_eq_true_eq, List.all_eq_true, and_assoc]
theorem goodO_nat {o : Int} (h : goodO o) : ∃ k : Nat, o = k ∧ (k = 2 ∨ k = 4 ∨ k = 6) := by
  rcases h with rfl | rfl | rfl
  · exact ⟨2, rfl, .inl rfl⟩
  · exact ⟨4, rfl, .inr (.inl rfl)⟩
  · exact ⟨6, rfl, .inr (.inr rfl)⟩
theorem pow_wrap {k : Nat} (h : k = 2 ∨ k = 4 ∨ k = 6) : IntKind.wrap IntKind.i64 ((1 : Int) * (2 : Int) ^ min (Int.toNat (k : Int)) (IntKind.bits IntKind.i64)) = ((2 ^ k : Nat) : Int) := by
  rcases h with rfl | rfl | rfl <;> decide +kernel
theorem pow_le {k : Nat} (h : k = 2 ∨ k = 4 ∨ k = 6) : 1 ≤ 2 ^ k ∧ 2 ^ k ≤ 64 := by
  rcases h with rfl | rfl | rfl <;> decide
theorem mem_getD {α : Type} {l : List α} {i : Nat} {d : α} (h : i < l.length) : l.getD i d ∈ l := by
  rw [List.getD_eq_getElem?_getD, List.getElem?_eq_getElem h]; exact List.getElem_mem h
theorem hearIn_ok {l : List Pt} {o n i : Int} {r : List Int} {p : Pt} (h : hearIn l o n i r p) : okPt p = true := by
  obtain ⟨⟨h1, h2, h3, _, _⟩, h4, rfl⟩ := h
  exact (hearB_spec.1 h1).2.2 _ (mem_getD (by omega))
theorem heard1_map (p : Pt) (k : Nat) : (seg (lst p k (2 ^ k)) 0 k).map (fun x => x.getD 1 0 - x.getD 0 0) = heard1 k p := by
  unfold heard1 seg
  rw [List.map_map]; rfl
theorem seg_at {α : Type} (f : Nat → α) (d : α) {n j : Nat} (h : j < n) : (seg f 0 n).getD j d = f j := by
  rw [List.getD_eq_getElem?_getD, seg_getElem?, if_pos h]; rfl
theorem l_wave_Hear_0 : LoopOK E_wave_Hear 0 (loopAt (bodyOf Try.f18) 0) L_wave_Hear_0 := I_wave_Hear_0 <| by
  intro t1 t21 t22 t23 r0 K hp ho
  obtain ⟨hb, rfl, h1, h2, h3⟩ := hp
  obtain ⟨hg, hl, hall⟩ := hearB_spec.1 hb
  obtain ⟨k, rfl, hk⟩ := goodO_nat hg
  obtain ⟨n, rfl⟩ := Int.eq_ofNat_of_zero_le h1
  have hkn : 2 ≤ k ∧ k ≤ 6 := by omega
  have e : ((n : Int) + 1).toNat = n + 1 := by omega
  have hln : (t21.length : Int) ≤ 4096 := by rcases hk with rfl | rfl | rfl <;> omega
  have hp2 := pow_le hk
  unfold B_wave_Hear_0
  unfold o_wave_Hear_0 at ho ⊢
  rw [pow_wrap hk]
  simp only [Int.toNat_natCast, i64w (n := (n : Int) + 1) (by omega), e, List.drop_zero] at ho ⊢
  rw [condP_iff]
  simp only [decide_eq_true_eq, decide_eq_false_iff_not]
  refine ⟨fun hlt => ?_, fun hge => ?_⟩
  · have hin : hearIn t21 k t21.length n r0 (t21.getD n (0, 0, ())) := ⟨⟨hb, rfl, h1, h2, h3⟩, hlt, by rw [Int.toNat_natCast]⟩
    have hok := hearIn_ok hin
    rw [heard1_map]
    have hlen : (seg (lst (t21.getD n (0, 0, ())) k (2 ^ k)) 0 k).length = k := by rw [seg_length, Nat.sub_zero]
    refine ⟨h1, hlt, by omega, Int.le_refl _, by omega, ⟨hin, by simp, by simp, by decide, by simp⟩, by omega, ⟨hin, by rw [Int.toNat_natCast], by decide, by omega, ?_⟩, ⟨hb, rfl, h1, hlt, by rw [hlen], by rw [hlen], by decide, by omega, by omega, ?_⟩, ⟨hb, rfl, by omega, by omega, ?_⟩, by unfold m_wave_Hear_0; omega, ?_⟩
    · rw [fill_zero, List.length_replicate, Int.toNat_natCast]; rfl
    · intro x hx
      unfold seg at hx
      obtain ⟨j, _, rfl⟩ := List.mem_map.1 hx
      exact ⟨(leastN_bd hok k (0 + j) 0 (2 ^ k)).1, (leastN_bd hok k (0 + j) 0 (2 ^ k)).2, (leastN_bd hok k (0 + j) 1 (2 ^ k)).1, (leastN_bd hok k (0 + j) 1 (2 ^ k)).2⟩
    · rw [List.length_append, heard1_len]; rcases hk with rfl | rfl | rfl <;> omega
    · rw [List.append_assoc, ← heardL_cons (by omega)]; exact ho
  · rw [heardL_end (by omega), List.append_nil] at ho; exact ho
theorem l_wave_Hear_2 : LoopOK E_wave_Hear 2 (loopAt (bodyOf Try.f18) 2) L_wave_Hear_2 := I_wave_Hear_2 <| by
  intro t1 t21 t22 t23 t30 t31 r0 r1 r2 K hp ho
  obtain ⟨hin, rfl, h1, h2, h3⟩ := hp
  obtain ⟨hg, hl, hall⟩ := hearB_spec.1 hin.1.1
  obtain ⟨k, rfl, hk⟩ := goodO_nat hg
  obtain ⟨n, rfl⟩ := Int.eq_ofNat_of_zero_le h2
  have e : ((n : Int) + 1).toNat = n + 1 := by omega
  unfold B_wave_Hear_2
  unfold o_wave_Hear_2 at ho ⊢
  simp only [Int.toNat_natCast, i64w (n := (n : Int) + 1) (by omega), e] at ho ⊢
  rw [condP_iff]
  simp only [decide_eq_true_eq, decide_eq_false_iff_not]
  refine ⟨fun hlt => ⟨by omega, by omega, ⟨hin, rfl, by rw [List.length_set]; exact h1, by omega, by omega⟩, by unfold m_wave_Hear_2; omega, ?_⟩, fun hge => ?_⟩
  · have := fill_step r2 (i := n) (fun _ => [maxI, maxI]) (by omega)
    rw [show ([(9223372036854775807 : Int), (9223372036854775807 : Int)] : List Int) = [maxI, maxI] from rfl, this]; exact ho
  · rw [fill_end _ _ (by omega)] at ho; exact ho
theorem l_wave_Hear_4 : LoopOK E_wave_Hear 4 (loopAt (bodyOf Try.f18) 4) L_wave_Hear_4 := I_wave_Hear_4 <| by
  intro t1 t21 t22 t23 t40 t41 r0 r1 r2 K hp ho
  obtain ⟨hin, rfl, h1, h2, rfl⟩ := hp
  obtain ⟨hg, hl, hall⟩ := hearB_spec.1 hin.1.1
  obtain ⟨k, rfl, hk⟩ := goodO_nat hg
  obtain ⟨n, rfl⟩ := Int.eq_ofNat_of_zero_le h1
  have e : ((n : Int) + 1).toNat = n + 1 := by omega
  have hp2 := pow_le hk
  rw [Int.toNat_natCast] at h2
  have hok := hearIn_ok hin
  unfold B_wave_Hear_4
  unfold o_wave_Hear_4 at ho ⊢
  simp only [Int.toNat_natCast, i64w (n := (n : Int) + 1) (by omega), e] at ho h2 ⊢
  rw [condP_iff]
  simp only [decide_eq_true_eq, decide_eq_false_iff_not]
  have hlen := outS_length k n
  refine ⟨fun hlt => ⟨⟨by omega, by omega, by omega, by omega⟩, ⟨outS_bits k n, by omega⟩, ⟨hok, okPt_pointL (outS_bits k n)⟩, ⟨hin, by rw [Int.toNat_natCast], h1, hlt, by simp only [Int.toNat_natCast], by simp only [Int.toNat_natCast], by rw [hlen], by decide, by omega, ?_⟩, ⟨hin, by rw [Int.toNat_natCast], by omega, by omega, by simp only [Int.toNat_natCast, e]⟩, by unfold m_wave_Hear_4; omega, ho⟩, fun hge => ?_⟩
  · simp only [Int.toNat_natCast, Int.toNat_zero]
    rw [seg_nil _ (Nat.le_refl 0), List.nil_append]
  · have : n = 2 ^ k := by omega
    subst this; exact ho
theorem l_wave_Hear_6 : LoopOK E_wave_Hear 6 (loopAt (bodyOf Try.f18) 6) L_wave_Hear_6 := I_wave_Hear_6 <| by
  intro t1 t13 t21 t22 t23 t40 t41 t52 t53 r0 r1 r2 r3 K hp ho
  obtain ⟨hin, rfl, h1, h2, rfl, rfl, rfl, h3, h4, rfl⟩ := hp
  obtain ⟨hg, hl, hall⟩ := hearB_spec.1 hin.1.1
  obtain ⟨k, rfl, hk⟩ := goodO_nat hg
  obtain ⟨n, rfl⟩ := Int.eq_ofNat_of_zero_le h1
  obtain ⟨i, rfl⟩ := Int.eq_ofNat_of_zero_le h3
  have e : ((i : Int) + 1).toNat = i + 1 := by omega
  have hok := hearIn_ok hin
  unfold B_wave_Hear_6
  unfold o_wave_Hear_6 at ho ⊢
  simp only [Int.toNat_natCast, i64w (n := (i : Int) + 1) (by omega), e] at ho h2 ⊢
  rw [condP_iff]
  simp only [decide_eq_true_eq, decide_eq_false_iff_not]
  have hlen := outS_length k n
  have hl2 : (seg (lst r1 k (n + 1)) 0 i ++ seg (lst r1 k n) i k).length = k := by rw [List.length_append, seg_length, seg_length]; omega
  have hbit := (outS_bits k n).getD i
  refine ⟨fun hlt => ?_, fun hge => ?_⟩
  · have hv : (0 : Int) ≤ (outS k n).getD i 0 ∧ (outS k n).getD i 0 < ((2 : Nat) : Int) := by omega
    have hset : List.set (seg (lst r1 k (n + 1)) 0 i ++ seg (lst r1 k n) i k) i (List.set (List.getD (seg (lst r1 k (n + 1)) 0 i ++ seg (lst r1 k n) i k) i (List.replicate (2 : Nat) (0 : Int))) (Int.toNat (List.getD (outS k n) i (0 : Int))) (lesser false (List.getD (List.getD (seg (lst r1 k (n + 1)) 0 i ++ seg (lst r1 k n) i k) i (List.replicate (2 : Nat) (0 : Int))) (Int.toNat (List.getD (outS k n) i (0 : Int))) (0 : Int)) (far r1 (pointL (outS k n))))) = seg (lst r1 k (n + 1)) 0 (i + 1) ++ seg (lst r1 k n) (i + 1) k := by
      have hla : (seg (lst r1 k (n + 1)) 0 i).length = i := by rw [seg_length, Nat.sub_zero]
      rw [seg_cons (lst r1 k n) (by omega : i < k), seg_snoc]
      have hg : List.getD (seg (lst r1 k (n + 1)) 0 i ++ lst r1 k n i :: seg (lst r1 k n) (i + 1) k) i (List.replicate (2 : Nat) (0 : Int)) = lst r1 k n i := by
        rw [List.getD_eq_getElem?_getD, List.getElem?_append_right (by omega), hla, Nat.sub_self]; rfl
      rw [hg, List.set_append_right _ _ (by omega), hla, Nat.sub_self, List.append_assoc]
      congr 1
      simp only [List.set_cons_zero, List.cons_append, List.nil_append, List.cons.injEq, and_true]
      unfold lst
      simp only [leastN]
      rcases hbit with hb | hb <;> rw [hb] <;> simp
    rw [hset]
    refine ⟨by omega, by omega, by omega, by omega, by omega, by omega, hv.1, hv.2, by omega, by omega, hv.1, hv.2, ⟨hin, by rw [Int.toNat_natCast], h1, by simpa using h2, by simp only [Int.toNat_natCast], by simp only [Int.toNat_natCast], rfl, by omega, by omega, by simp only [Int.toNat_natCast, e]⟩, by unfold m_wave_Hear_6; omega, ho⟩
  · have : i = k := by omega
    subst this
    rw [seg_nil (lst r1 i n) (Nat.le_refl i), List.append_nil]; exact ho
theorem l_wave_Hear_8 : LoopOK E_wave_Hear 8 (loopAt (bodyOf Try.f18) 8) L_wave_Hear_8 := I_wave_Hear_8 <| by
  intro t1 t21 t22 t23 t78 t79 r0 r1 K hp ho
  obtain ⟨hb, rfl, h1, h2, h3, rfl, h4, h5, h6, h7⟩ := hp
  obtain ⟨hg, hl, hall⟩ := hearB_spec.1 hb
  obtain ⟨k, rfl, hk⟩ := goodO_nat hg
  obtain ⟨n, rfl⟩ := Int.eq_ofNat_of_zero_le h4
  have e : ((n : Int) + 1).toNat = n + 1 := by omega
  unfold B_wave_Hear_8
  unfold o_wave_Hear_8 at ho ⊢
  simp only [Int.toNat_natCast, i64w (n := (n : Int) + 1) (by omega), e] at ho ⊢
  rw [condP_iff]
  simp only [decide_eq_true_eq, decide_eq_false_iff_not]
  refine ⟨fun hlt => ?_, fun hge => ?_⟩
  · have hm := h7 (r1.getD n (List.replicate (2 : Nat) (0 : Int))) (mem_getD (by omega))
    unfold maxI at hm
    rw [i64w (by omega)]
    have hlr : (r0.length : Int) ≤ 4096 := by rcases hk with rfl | rfl | rfl <;> omega
    have hq : List.length (r0.append [List.getD (List.getD r1 n (List.replicate 2 0)) 1 0 - List.getD (List.getD r1 n (List.replicate 2 0)) 0 0]) = r0.length + 1 := by simp
    rw [drop_cons r1 n (List.replicate 2 0) (by omega), List.map_cons] at ho
    have ho' : X_wave_Hear_8_0 k t21 t21.length t23 (List.append r0 [List.getD (List.getD r1 n (List.replicate 2 0)) 1 0 - List.getD (List.getD r1 n (List.replicate 2 0)) 0 0] ++ (r1.drop (n + 1)).map fun x => x.getD 1 0 - x.getD 0 0) K := by
      rw [show ∀ a b : List Int, List.append a b = a ++ b from fun _ _ => rfl, List.append_assoc]; exact ho
    repeat' (first | exact ho' | exact ⟨hb, rfl, h1, h2, h3, rfl, by omega, by omega, by rw [hq]; omega, h7⟩ | (unfold m_wave_Hear_8; omega) | refine ⟨?_, ?_⟩ | (simp only [List.length_cons, List.length_nil]; omega) | omega)
  · rw [List.drop_eq_nil_of_le (by omega), List.map_nil, List.append_nil] at ho; exact ho
theorem ok_wave_Hear : SumOK Try.prog 18 S_wave_Hear := by
  refine whole_wave_Hear ok_wave_check ok_wave_bitsOf ok_wave_point ok_wave_far l_wave_Hear_0 l_wave_Hear_2 l_wave_Hear_4 l_wave_Hear_6 l_wave_Hear_8 ?_
  intro a0 a1 h
  unfold W_wave_Hear
  refine ⟨h, ?_⟩
  rw [List.drop_zero]
  unfold heardErr
  cases hc : hearB a0 a1
  · exact (condP_t rfl).2 ⟨rfl, rfl, trivial⟩
  · exact (condP_f rfl).2 ⟨⟨hc, rfl, by decide, by omega, by simp⟩, rfl, rfl, trivial⟩
end Go.Spec
/- Bits as points: the walks, sixth part: the nearest, and what the references answer. -/
namespace Go.Spec
open Go Go.Lift Go.Proofs
attribute [local irreducible] Go.Lift.awp Go.Lift.LoopOK Go.Lift.SumOK
theorem len4096 {n k : Nat} (hk : k = 2 ∨ k = 4 ∨ k = 6) (hl : (n : Int) * (k : Int) ≤ 4096) : (n : Int) ≤ 4096 := by rcases hk with rfl | rfl | rfl <;> omega
theorem l_wave_Near_0 : LoopOK E_wave_Near 0 (loopAt (bodyOf Try.f19) 0) L_wave_Near_0 := I_wave_Near_0 <| by
  intro t1 t17 t18 t19 r0 K hp ho
  obtain ⟨hb, rfl, h1, h2, h3⟩ := hp
  obtain ⟨hg, hl, hall⟩ := hearB_spec.1 hb
  obtain ⟨k, rfl, hk⟩ := goodO_nat hg
  obtain ⟨n, rfl⟩ := Int.eq_ofNat_of_zero_le h1
  have e : ((n : Int) + 1).toNat = n + 1 := by omega
  have hln := len4096 hk hl
  have hp2 := pow_le hk
  unfold B_wave_Near_0
  unfold o_wave_Near_0 at ho ⊢
  rw [pow_wrap hk]
  simp only [Int.toNat_natCast, i64w (n := (n : Int) + 1) (by omega), e, List.append_eq] at ho ⊢
  rw [condP_iff]
  simp only [decide_eq_true_eq, decide_eq_false_iff_not]
  refine ⟨fun hlt => ?_, fun hge => ?_⟩
  · have hin : hearIn t17 k t17.length n r0 (t17.getD n (0, 0, ())) := ⟨⟨hb, rfl, h1, h2, h3⟩, hlt, by rw [Int.toNat_natCast]⟩
    have hbest := bestN_lt (p := t17.getD n (0, 0, ())) k (2 ^ k)
    have hol := outS_length k (bestN (t17.getD n (0, 0, ())) k (2 ^ k)).2
    have hr : (r0.length : Int) ≤ 4096 * 6 := by rcases hk with rfl | rfl | rfl <;> omega
    refine ⟨h1, hlt, by omega, ⟨hin, by rw [Int.toNat_natCast], by decide, by omega, rfl, rfl⟩, ⟨by omega, by omega, by omega, by omega⟩, by omega, ⟨hb, rfl, by omega, by omega, ?_⟩, by unfold m_wave_Near_0; omega, ?_⟩
    · rw [List.length_append, hol]; rcases hk with rfl | rfl | rfl <;> omega
    · rw [nearL_cons (by omega)] at ho
      rw [List.append_assoc]; exact ho
  · rw [nearL_end (by omega), List.append_nil] at ho; exact ho
theorem l_wave_Near_2 : LoopOK E_wave_Near 2 (loopAt (bodyOf Try.f19) 2) L_wave_Near_2 := I_wave_Near_2 <| by
  intro t1 t9 t10 t17 t18 t19 t24 t25 r0 r1 K hp ho
  obtain ⟨hin, rfl, h1, h2, rfl, rfl⟩ := hp
  obtain ⟨hg, hl, hall⟩ := hearB_spec.1 hin.1.1
  obtain ⟨k, rfl, hk⟩ := goodO_nat hg
  obtain ⟨n, rfl⟩ := Int.eq_ofNat_of_zero_le h1
  have e : ((n : Int) + 1).toNat = n + 1 := by omega
  have hp2 := pow_le hk
  have hok := hearIn_ok hin
  rw [Int.toNat_natCast] at h2
  unfold B_wave_Near_2
  unfold o_wave_Near_2 at ho ⊢
  simp only [Int.toNat_natCast, i64w (n := (n : Int) + 1) (by omega), e] at ho ⊢
  rw [condP_iff, condP_iff]
  simp only [decide_eq_true_eq, decide_eq_false_iff_not]
  have hlen := outS_length k n
  have hm : m_wave_Near_2 k (bestN r1 k n).1 (bestN r1 k n).2 t17 t18 t19 ((2 ^ k : Nat) : Int) n r0 r1 = 2 ^ k - n := by unfold m_wave_Near_2; omega
  refine ⟨fun hlt => ⟨⟨by omega, by omega, by omega, by omega⟩, ⟨outS_bits k n, by omega⟩, ⟨hok, okPt_pointL (outS_bits k n)⟩, fun hf => ⟨⟨hin, by rw [Int.toNat_natCast], by omega, by omega, ?_, ?_⟩, by unfold m_wave_Near_2 at *; omega, ho⟩, fun hf => ⟨⟨hin, by rw [Int.toNat_natCast], by omega, by omega, ?_, ?_⟩, by unfold m_wave_Near_2 at *; omega, ho⟩⟩, fun hge => ?_⟩
  · simp only [Int.toNat_natCast, e, bestN]; rw [if_pos hf]
  · simp only [Int.toNat_natCast, e, bestN]; rw [if_pos hf]
  · simp only [Int.toNat_natCast, e, bestN]; rw [if_neg hf]
  · simp only [Int.toNat_natCast, e, bestN]; rw [if_neg hf]
  · have : n = 2 ^ k := by omega
    subst this; exact ho
theorem ok_wave_Near : SumOK Try.prog 19 S_wave_Near := by
  refine whole_wave_Near ok_wave_check ok_wave_bitsOf ok_wave_point ok_wave_far l_wave_Near_0 l_wave_Near_2 ?_
  intro a0 a1 h
  unfold W_wave_Near
  refine ⟨h, ?_⟩
  rw [List.drop_zero]
  unfold heardErr
  cases hc : hearB a0 a1
  · exact (condP_t rfl).2 ⟨rfl, rfl, trivial⟩
  · exact (condP_f rfl).2 ⟨⟨hc, rfl, by decide, by omega, by simp⟩, rfl, rfl, trivial⟩
/-! the references -/
theorem l_R_Sides_0 : LoopOK E_R_Sides 0 (loopAt (bodyOf Try.f80) 0) L_R_Sides_0 := I_R_Sides_0 <| by
  intro t0 t1 t5 t6 K hp ho
  obtain ⟨hb, h1, h2, m, j, hl, hm1, hm3, hj, rfl, rfl⟩ := hp
  obtain ⟨a, rfl⟩ := Int.eq_ofNat_of_zero_le h1
  obtain ⟨i1, i2, i3, i4⟩ := inn_bd hb a m j (by omega)
  unfold B_R_Sides_0
  unfold o_R_Sides_0 at ho ⊢
  simp only [Int.toNat_natCast] at ho i1 i2 i3 i4 ⊢
  have hl' : (t0.length : Int) = 2 * m := by omega
  rw [condP_iff]
  simp only [decide_eq_true_eq, decide_eq_false_iff_not, hl']
  refine ⟨fun hge => ?_, fun hlt => ?_⟩
  · have hjm : j < m := by omega
    have hidx : IntKind.wrap IntKind.i64 (Int.tdiv (IntKind.wrap IntKind.i64 (IntKind.wrap IntKind.i64 (IntKind.wrap IntKind.i64 (2 * (m : Int) - (2 : Int)) - (2 * ((m : Int) - 1 - (j : Int)) + (a : Int))) + (a : Int))) (2 : Int)) = (j : Int) := by
      rw [i64w (n := 2 * (m : Int) - 2) (by omega), i64w (n := 2 * (m : Int) - 2 - _) (by omega), i64w (n := _ + (a : Int)) (by omega)]
      rw [show 2 * (m : Int) - 2 - (2 * ((m : Int) - 1 - (j : Int)) + (a : Int)) + (a : Int) = 2 * (j : Int) by omega, Int.tdiv_eq_ediv_of_nonneg (by omega), i64w (by omega)]
      omega
    rw [hidx]
    have hk : (2 * ((m : Int) - 1 - (j : Int)) + (a : Int)).toNat = 2 * (m - 1 - j) + a := by omega
    have hs : sgnB t0 (2 * (m - 1 - j) + a) = 1 - 2 * t0.getD (2 * (m - 1 - j) + a) 0 := rfl
    have hbit := hb.getD (2 * (m - 1 - j) + a)
    have hnext : ∀ v : Int, v = inn t0 a m (j + 1) → p_R_Sides_0 t0 a v (IntKind.wrap IntKind.i64 (2 * ((m : Int) - 1 - (j : Int)) + (a : Int) - 2)) ∧ m_R_Sides_0 t0 a v (IntKind.wrap IntKind.i64 (2 * ((m : Int) - 1 - (j : Int)) + (a : Int) - 2)) < m_R_Sides_0 t0 a (inn t0 a m j) (2 * ((m : Int) - 1 - (j : Int)) + (a : Int)) ∧ X_R_Sides_0_0 (sideL t0 a) K := by
      intro v hv
      rw [i64w (by omega)]
      refine ⟨⟨hb, h1, h2, m, j + 1, hl, hm1, hm3, by omega, by omega, by rw [Int.toNat_natCast]; exact hv⟩, by unfold m_R_Sides_0; omega, ho⟩
    have hjv : (j = 0 ∧ List.getD [(0 : Int), 2, 4] j 0 = 0) ∨ (j = 1 ∧ List.getD [(0 : Int), 2, 4] j 0 = 2) ∨ (j = 2 ∧ List.getD [(0 : Int), 2, 4] j 0 = 4) := by
      have : j = 0 ∨ j = 1 ∨ j = 2 := by omega
      rcases this with rfl | rfl | rfl <;> simp
    simp only [Int.toNat_natCast, hk]
    rw [inn, hs] at hnext
    rcases hjv with ⟨rfl, hv⟩ | ⟨rfl, hv⟩ | ⟨rfl, hv⟩ <;> rw [hv] <;> rcases hbit with hx | hx <;> rw [hx] at hnext ⊢ <;>
      simp only [condP_iff, beq_iff_eq, beq_eq_false_iff_ne, ne_eq, List.length_cons, List.length_nil] <;>
      simp (config := { decide := true }) only [true_implies, false_implies, and_true, true_and, not_true_eq_false, not_false_eq_true] <;>
      (try rw [i64w (n := (2 : Int) - inn t0 a m 1) (by have := i4 (by omega); omega)]) <;> (try rw [i64w (n := (4 : Int) - inn t0 a m 2) (by have := i3 (by omega); omega)]) <;>
      (try rw [i64w (n := (0 : Int) - ((2 : Int) - inn t0 a m 1)) (by have := i4 (by omega); omega)]) <;> (try rw [i64w (n := (0 : Int) - ((4 : Int) - inn t0 a m 2)) (by have := i3 (by omega); omega)]) <;>
      repeat' (first | (refine hnext _ ?_; first | (rw [show IntKind.wrap IntKind.i64 ((0 : Int) - 1) = -1 by decide +kernel]; simp; done) | decide | (simp; done) | (simp; omega)) | omega | refine And.intro ?_ ?_)
  · have : j = m := by omega
    subst this
    rw [inn_side hl hm1 hm3]; exact ho
theorem ok_R_Sides : SumOK Try.prog 80 S_R_Sides := by
  refine whole_R_Sides l_R_Sides_0 ?_
  intro a0 a1 ⟨h1, h2, h3, h4⟩
  unfold W_R_Sides
  obtain ⟨a, rfl⟩ := Int.eq_ofNat_of_zero_le h3
  rw [i64w (n := (a0.length : Int) - 2) (by omega), i64w (by omega)]
  refine ⟨⟨h1, h3, h4, a0.length / 2, 0, by omega, by omega, by omega, by omega, by omega, rfl⟩, ?_⟩
  exact ⟨rfl, trivial⟩
theorem ok_R_Far : SumOK Try.prog 27 S_R_Far := by
  refine whole_R_Far ?_
  intro a b ⟨ha, hb⟩
  unfold W_R_Far
  obtain ⟨a1, a2, a3, a4⟩ := okPt_spec.1 ha
  obtain ⟨b1, b2, b3, b4⟩ := okPt_spec.1 hb
  have s1 := sq_le (x := a.1 - b.1) (by omega) (by omega)
  have s2 := sq_le (x := a.2.1 - b.2.1) (by omega) (by omega)
  rw [i64w (n := a.1 - b.1) (by omega), i64w (n := a.2.1 - b.2.1) (by omega), i64w (n := (a.1 - b.1) * (a.1 - b.1)) (by omega), i64w (n := (a.2.1 - b.2.1) * (a.2.1 - b.2.1)) (by omega), i64w (by omega)]
  exact ⟨rfl, trivial⟩
end Go.Spec
