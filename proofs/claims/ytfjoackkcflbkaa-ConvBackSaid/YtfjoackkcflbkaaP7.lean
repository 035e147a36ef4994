/- The code with a memory: the walks. -/
import Derived.Test.YtfjoackkcflbkaaV4
import Derived.Test.YtfjoackkcflbkaaE4
import Derived.Test.YtfjoackkcflbkaaP6
set_option linter.unusedVariables false
set_option linter.unusedSimpArgs false
namespace Go.Spec
open Go Go.Lift Go.Proofs
attribute [local irreducible] Go.Lift.awp Go.Lift.LoopOK Go.Lift.SumOK
theorem par_step : ∀ t4 : Fin 2, ∀ t5 : Fin 128, 0 < t5.1 →
    (bits .xor .u8 (t4.1 : Int) 1 = 0 ∨ bits .xor .u8 (t4.1 : Int) 1 = 1) ∧
    0 ≤ bits .and .i64 (t5.1 : Int) (IntKind.i64.wrap ((t5.1 : Int) - 1)) ∧ bits .and .i64 (t5.1 : Int) (IntKind.i64.wrap ((t5.1 : Int) - 1)) < t5.1 ∧
    (bits .xor .u8 (t4.1 : Int) 1 + parI (bits .and .i64 (t5.1 : Int) (IntKind.i64.wrap ((t5.1 : Int) - 1)))) % 2 = ((t4.1 : Int) + parI t5.1) % 2 := by decide +kernel
theorem l_conv_three_1_0 : LoopOK E_conv_three_1 0 (loopAt (bodyOf Try.f119) 0) L_conv_three_1_0 := I_conv_three_1_0 <| by
  intro t4 t5 r0 K hp ho
  obtain ⟨h1, h2, h3⟩ := hp
  unfold B_conv_three_1_0
  unfold o_conv_three_1_0 at ho ⊢
  obtain ⟨n, rfl⟩ := Int.eq_ofNat_of_zero_le h2
  obtain ⟨m, rfl, hm⟩ : ∃ m : Nat, t4 = m ∧ m < 2 := ⟨t4.toNat, by omega, by omega⟩
  simp only [condP_iff, decide_eq_true_eq, decide_eq_false_iff_not]
  refine ⟨fun hlt => ?_, fun hge => ?_⟩
  · obtain ⟨q1, q2, q3, q4⟩ := par_step ⟨m, hm⟩ ⟨n, by omega⟩ (by show 0 < n; omega)
    simp only at q1 q2 q3 q4
    rw [q4]
    exact ⟨⟨q1, q2, by omega⟩, by unfold m_conv_three_1_0; omega, ho⟩
  · obtain rfl : n = 0 := by omega
    rw [show ((m : Int) + parI ((0 : Nat) : Int)) % 2 = m from by rw [show parI ((0 : Nat) : Int) = 0 from by decide]; omega] at ho
    exact ho
theorem ok_conv_three_1 : SumOK Try.prog 119 S_conv_three_1 := by
  refine whole_conv_three_1 l_conv_three_1_0 ?_
  intro a0 a1 ⟨h1, h2, h3, h4⟩
  unfold W_conv_three_1
  obtain ⟨a, rfl⟩ := Int.eq_ofNat_of_zero_le h1
  obtain ⟨r, rfl⟩ := Int.eq_ofNat_of_zero_le h3
  have e := and_low ⟨r, by omega⟩ ⟨a, by omega⟩
  simp only at e
  have hl : r &&& a < 128 := Nat.lt_of_le_of_lt Nat.and_le_left (by omega)
  refine ⟨⟨.inl rfl, by rw [e]; omega, by rw [e]; omega⟩, ?_, rfl, trivial⟩
  unfold parI; omega
theorem thr_and : ∀ r : Fin 128, [parI (bits .and .i64 (r.1 : Int) 121), parI (bits .and .i64 (r.1 : Int) 91), parI (bits .and .i64 (r.1 : Int) 117)] = thr r.1 := by decide +kernel
theorem ok_conv_three : SumOK Try.prog 94 S_conv_three := by
  refine whole_conv_three ok_conv_three_1 ?_
  intro a0 ⟨h1, h2⟩
  unfold W_conv_three
  obtain ⟨r, rfl⟩ := Int.eq_ofNat_of_zero_le h1
  exact ⟨⟨by decide, by decide, h1, h2⟩, ⟨by decide, by decide, h1, h2⟩, ⟨by decide, by decide, h1, h2⟩, thr_and ⟨r, by omega⟩, trivial⟩
theorem reg_or : ∀ r : Fin 128, ∀ x : Fin 2, bits BinOp.or IntKind.i64 (Int.fdiv (r.1 : Int) ((2 : Int) ^ min (1 : Nat) (IntKind.bits IntKind.i64))) (IntKind.wrap IntKind.i64 (IntKind.wrap IntKind.i64 (x.1 : Int) * (2 : Int) ^ min (6 : Nat) (IntKind.bits IntKind.i64))) = (r.1 : Int) / 2 + 64 * (x.1 : Int) := by decide +kernel
theorem reg_sh : ∀ r : Fin 128, Int.fdiv (r.1 : Int) ((2 : Int) ^ min (1 : Nat) (IntKind.bits IntKind.i64)) = (r.1 : Int) / 2 + 64 * 0 := by decide +kernel
theorem cutL_all (a : List Int) : cutL a none none = a := by
  unfold cutL; simp
theorem l_conv_encode_0 : LoopOK E_conv_encode 0 (loopAt (bodyOf Try.f95) 0) L_conv_encode_0 := I_conv_encode_0 <| by
  intro t0 t4 t9 t10 r0 K hp ho
  obtain ⟨hb, h1, h2, h3, rfl, h5, h6, h7⟩ := hp
  obtain ⟨r, rfl⟩ := Int.eq_ofNat_of_zero_le h2
  obtain ⟨n, rfl⟩ := Int.eq_ofNat_of_zero_le h5
  have e : ((n : Int) + 1).toNat = n + 1 := by omega
  unfold B_conv_encode_0
  unfold o_conv_encode_0 at ho ⊢
  have hx : ∃ x : Nat, t0.getD n 0 = x ∧ x < 2 := ⟨(t0.getD n 0).toNat, by rcases hb.getD n with h | h <;> rw [h] <;> rfl, by rcases hb.getD n with h | h <;> rw [h] <;> decide⟩
  obtain ⟨x, hx, hx2⟩ := hx
  have eo := reg_or ⟨r, by omega⟩ ⟨x, hx2⟩
  have es := reg_sh ⟨r, by omega⟩
  simp only at eo es
  simp only [Int.toNat_natCast, hx, eo, i64w (n := (n : Int) + 1) (by omega), e, cutL_all, List.append_eq] at ho ⊢
  simp only [es]
  simp only [condP_iff, decide_eq_true_eq, decide_eq_false_iff_not]
  refine ⟨fun hlt => ⟨by decide, fun hin => ?_, fun hout => ?_⟩, fun hge => ?_⟩
  · rw [drop_cons (t0 ++ List.replicate 6 0) n 0 (by simp; omega), getD_app_left (by omega), hx] at ho
    simp only [encF] at ho
    have hl : (thr ((r : Int) / 2 + 64 * x)).length = 3 := rfl
    refine ⟨h5, hin, by decide, ⟨by omega, by omega⟩, by decide, by decide, by decide, by rw [hl]; omega, ⟨hb, h1, by omega, by omega, rfl, by omega, by omega, by rw [List.length_append, hl]; omega⟩, by unfold m_conv_encode_0; omega, ?_⟩
    rw [List.append_assoc]; exact ho
  · rw [drop_cons (t0 ++ List.replicate 6 0) n 0 (by simp; omega), pad_getD, show atB t0 (n : Int) = 0 from by unfold atB; rw [if_pos (by omega)]] at ho
    simp only [encF] at ho
    have hl : (thr ((r : Int) / 2 + 64 * 0)).length = 3 := rfl
    refine ⟨⟨by omega, by omega⟩, by decide, by decide, by decide, by rw [hl]; omega, ⟨hb, h1, by omega, by omega, rfl, by omega, by omega, by rw [List.length_append, hl]; omega⟩, by unfold m_conv_encode_0; omega, ?_⟩
    rw [List.append_assoc]; exact ho
  · rw [List.drop_eq_nil_of_le (by simp; omega)] at ho
    simpa [encF] using ho
theorem ok_conv_encode : SumOK Try.prog 95 S_conv_encode := by
  refine whole_conv_encode ok_conv_three l_conv_encode_0 ?_
  intro a0 ⟨h1, h2⟩
  unfold W_conv_encode
  rw [i64w (by omega)]
  exact ⟨⟨h1, h2, by decide, by decide, rfl, by omega, by omega, rfl⟩, rfl, trivial⟩
theorem ok_conv_Encode : SumOK Try.prog 51 S_conv_Encode := by
  refine whole_conv_Encode ok_bits_Check ok_conv_encode ?_
  intro a0 h
  unfold W_conv_Encode
  simp only [condP_iff, decide_eq_true_eq, decide_eq_false_iff_not, bne_iff_ne, ne_eq, bne_eq_false_iff_eq]
  refine ⟨h, fun hb => ?_, fun hb => ⟨fun hl => ?_, fun hl => ?_⟩⟩
  · have he : encErr a0 = bitsErr a0 := by unfold encErr; rw [if_neg hb]
    exact ⟨(encOf_bad (by rw [he]; exact hb)).symm, he.symm, trivial⟩
  · have he : encErr a0 = 2 := by unfold encErr; rw [if_pos hb, if_pos (by omega)]
    exact ⟨(encOf_bad (by rw [he]; decide)).symm, he.symm, trivial⟩
  · have he : encErr a0 = 0 := by unfold encErr; rw [if_pos hb, if_neg (by omega)]
    exact ⟨⟨(bitsErr_ok hb).1, by omega⟩, by unfold encOf; rw [if_pos he], he.symm, trivial⟩
theorem softB_cons (x : Int) (l : List Int) : softB (x :: l) = ((decide (-100000 ≤ x) && decide (x ≤ 100000)) && softB l) := rfl
theorem soft1 (x : Int) : (if decide (x < (-100000 : Int)) = true then true else decide (x > (100000 : Int))) = !(decide (-100000 ≤ x) && decide (x ≤ 100000)) := by
  by_cases h1 : x < -100000 <;> by_cases h2 : x > 100000 <;> simp [h1, h2] <;> omega
theorem soft2 (x : Int) : (if decide (x > (100000 : Int)) = true then true else decide (x < (-100000 : Int))) = !(decide (-100000 ≤ x) && decide (x ≤ 100000)) := by
  by_cases h1 : x < -100000 <;> by_cases h2 : x > 100000 <;> simp [h1, h2] <;> omega
theorem l_conv_Soft_0 : LoopOK E_conv_Soft 0 (loopAt (bodyOf Try.f91) 0) L_conv_Soft_0 := I_conv_Soft_0 <| by
  intro t5 t6 t7 K hp ho
  obtain ⟨rfl, h2, h3, h4⟩ := hp
  have h4' := h4
  rw [big_val] at h4'
  obtain ⟨n, rfl⟩ := Int.eq_ofNat_of_zero_le h2
  have e : ((n : Int) + 1).toNat = n + 1 := by omega
  unfold B_conv_Soft_0
  unfold o_conv_Soft_0 at ho ⊢
  rw [soft1]
  simp only [i64w (n := (n : Int) + 1) (by omega), e, Int.toNat_natCast] at ho ⊢
  rw [condP_iff]
  simp only [decide_eq_true_eq, decide_eq_false_iff_not]
  refine ⟨fun hlt => ⟨h2, hlt, ?_⟩, fun hge => ?_⟩
  · rw [drop_cons t5 n 0 (by omega), softB_cons] at ho
    generalize (decide (-100000 ≤ t5.getD n 0) && decide (t5.getD n 0 ≤ 100000)) = b at *
    cases b
    · simpa [condP_iff] using ho
    · simp only [Bool.not_true, condP_f]
      exact ⟨⟨rfl, by omega, by omega, h4⟩, by unfold m_conv_Soft_0; omega, by simpa using ho⟩
  · rw [List.drop_eq_nil_of_le (by omega)] at ho
    simpa [softB, condP_iff] using ho
theorem ok_conv_Soft : SumOK Try.prog 91 S_conv_Soft := by
  refine whole_conv_Soft l_conv_Soft_0 ?_
  intro a0 h
  unfold W_conv_Soft
  simp only [condP_iff, List.drop_zero]
  exact ⟨⟨rfl, by omega, by omega, h⟩, fun h => ⟨h.symm, trivial⟩, fun h => ⟨h.symm, trivial⟩⟩
theorem l_R_Soft_0 : LoopOK E_R_Soft 0 (loopAt (bodyOf Try.f60) 0) L_R_Soft_0 := I_R_Soft_0 <| by
  intro t0 t3 K hp ho
  obtain ⟨h2, h3, h4⟩ := hp
  have h4' := h4
  rw [big_val] at h4'
  obtain ⟨n, rfl⟩ := Int.eq_ofNat_of_zero_le h2
  have e : ((n : Int) + 1).toNat = n + 1 := by omega
  unfold B_R_Soft_0
  unfold o_R_Soft_0 at ho ⊢
  rw [soft2]
  simp only [i64w (n := (n : Int) + 1) (by omega), e, Int.toNat_natCast] at ho ⊢
  rw [condP_iff]
  simp only [decide_eq_true_eq, decide_eq_false_iff_not]
  refine ⟨fun hlt => ⟨h2, hlt, fun _ => h2, fun _ => hlt, ?_⟩, fun hge => ?_⟩
  · rw [drop_cons t0 n 0 (by omega), softB_cons] at ho
    generalize (decide (-100000 ≤ t0.getD n 0) && decide (t0.getD n 0 ≤ 100000)) = b at *
    cases b
    · simpa [condP_iff] using ho
    · simp only [Bool.not_true, condP_f]
      exact ⟨⟨by omega, by omega, h4⟩, by unfold m_R_Soft_0; omega, by simpa using ho⟩
  · rw [List.drop_eq_nil_of_le (by omega)] at ho
    simpa [softB, condP_iff] using ho
theorem ok_R_Soft : SumOK Try.prog 60 S_R_Soft := by
  refine whole_R_Soft l_R_Soft_0 ?_
  intro a0 h
  unfold W_R_Soft
  simp only [condP_iff, List.drop_zero]
  exact ⟨⟨by omega, by omega, h⟩, fun h => ⟨h.symm, trivial⟩, fun h => ⟨h.symm, trivial⟩⟩
theorem scoreF_drop {n : Int} {c s : List Int} {i : Nat} (h : i < c.length) : scoreF n (c.drop i) (s.drop i) = scoreF (IntKind.i64.wrap (if c.getD i 0 = 1 then n - s.getD i 0 else n + s.getD i 0)) (c.drop (i + 1)) (s.drop (i + 1)) := by
  rw [drop_cons c i 0 h]
  simp only [scoreF, List.tail_drop]
  rw [show (s.drop i).headD 0 = s.getD i 0 from by rw [List.headD_eq_head?_getD, List.head?_drop, List.getD_eq_getElem?_getD]]
theorem softB_getD {l : List Int} (h : softB l = true) (i : Nat) : -100000 ≤ l.getD i 0 ∧ l.getD i 0 ≤ 100000 := by
  by_cases hi : i < l.length
  · have := List.all_eq_true.1 h _ (getD_mem hi)
    simpa using this
  · rw [getD_none (by omega)]; omega
theorem score_term {n c s : Int} (hc : c = 0 ∨ c = 1) (hs : -100000 ≤ s ∧ s ≤ 100000) : IntKind.wrap IntKind.i64 (n + IntKind.wrap IntKind.i64 (IntKind.wrap IntKind.i64 ((1 : Int) - IntKind.wrap IntKind.i64 ((2 : Int) * IntKind.wrap IntKind.i64 c)) * s)) = IntKind.i64.wrap (if c = 1 then n - s else n + s) := by
  rcases hc with rfl | rfl
  · rw [show IntKind.wrap IntKind.i64 ((1 : Int) - IntKind.wrap IntKind.i64 ((2 : Int) * IntKind.wrap IntKind.i64 0)) = 1 from by decide, Int.one_mul, i64w (n := s) (by omega)]; rfl
  · rw [show IntKind.wrap IntKind.i64 ((1 : Int) - IntKind.wrap IntKind.i64 ((2 : Int) * IntKind.wrap IntKind.i64 1)) = -1 from by decide, i64w (n := -1 * s) (by omega), if_pos rfl]
    congr 1; omega
theorem l_conv_Score_0 : LoopOK E_conv_Score 0 (loopAt (bodyOf Try.f49) 0) L_conv_Score_0 := I_conv_Score_0 <| by
  intro t1 t8 t30 t31 r0 K hp ho
  obtain ⟨hb, hs, rfl, h2, h3, h4, h5⟩ := hp
  have h5' := h5
  rw [big_val] at h5'
  obtain ⟨n, rfl⟩ := Int.eq_ofNat_of_zero_le h2
  have e : ((n : Int) + 1).toNat = n + 1 := by omega
  unfold B_conv_Score_0
  unfold o_conv_Score_0 at ho ⊢
  simp only [i64w (n := (n : Int) + 1) (by omega), e, Int.toNat_natCast, score_term (hb.getD n) (softB_getD hs n), condP_iff, decide_eq_true_eq, decide_eq_false_iff_not] at ho ⊢
  refine ⟨fun hlt => ⟨h2, hlt, h2, by omega, ⟨hb, hs, rfl, by omega, by omega, h4, h5⟩, by unfold m_conv_Score_0; omega, ?_⟩, fun hge => ?_⟩
  · rw [← scoreF_drop (by omega)]; exact ho
  · rw [List.drop_eq_nil_of_le (by omega)] at ho
    exact ho
theorem ok_conv_Score : SumOK Try.prog 49 S_conv_Score := by
  refine whole_conv_Score ok_conv_Encode ok_conv_Soft l_conv_Score_0 ?_
  intro a0 a1 ⟨h, h1⟩
  unfold W_conv_Score
  simp only [condP_iff, bne_iff_ne, ne_eq, bne_eq_false_iff_eq, List.drop_zero]
  refine ⟨h, fun he => ?_, fun he => ⟨h1, fun hc => ?_, fun hc => ?_⟩⟩
  · have hs : scoreErr a0 a1 = encErr a0 := by unfold scoreErr; rw [if_pos he]
    exact ⟨by unfold scoreOf; rw [if_neg (by rw [hs]; exact he)], hs.symm, trivial⟩
  · have hs : scoreErr a0 a1 = 1 := by
      unfold scoreErr; rw [if_neg (by simpa using he), if_neg]
      intro ⟨h2, h3⟩
      rw [h2] at hc
      simp [encOf, he, h3] at hc
    exact ⟨by unfold scoreOf; rw [if_neg (by rw [hs]; decide)], hs.symm, trivial⟩
  · have ho : encOf a0 = encL a0 := by unfold encOf; rw [if_pos he]
    rw [ho] at hc ⊢
    have hs : softB a1 = true := by
      cases hb : softB a1
      · simp [hb] at hc
      · rfl
    have hl : (encL a0).length = a1.length := by
      rw [hs] at hc
      simp only [Bool.not_true, Bool.false_eq_true, if_false, bne_eq_false_iff_eq] at hc
      omega
    have hse : scoreErr a0 a1 = 0 := by unfold scoreErr; rw [if_neg (by simpa using he), if_pos ⟨hs, hl⟩]
    exact ⟨⟨encF_bits _ _, hs, rfl, by omega, by omega, hl.symm, by rw [hl]; exact h1⟩, by unfold scoreOf; rw [if_pos hse], hse.symm, trivial⟩
theorem sum5 {a b c d e : Int} (ha : a = 0 ∨ a = 1) (hb : b = 0 ∨ b = 1) (hc : c = 0 ∨ c = 1) (hd : d = 0 ∨ d = 1) (he : e = 0 ∨ e = 1) : Int.tmod (IntKind.wrap IntKind.u8 (IntKind.wrap IntKind.u8 (IntKind.wrap IntKind.u8 (IntKind.wrap IntKind.u8 (a + b) + c) + d) + e)) 2 = (a + b + c + d + e) % 2 := by
  rcases ha with rfl | rfl <;> rcases hb with rfl | rfl <;> rcases hc with rfl | rfl <;> rcases hd with rfl | rfl <;> rcases he with rfl | rfl <;> decide
theorem seven (f : Nat → Int) : fillFrom (List.replicate 7 (0 : Int)) 0 f = [f 0, f 1, f 2, f 3, f 4, f 5, f 6] := by
  rw [fill_zero]; rfl
end Go.Spec
