/- No way scores more; what is coded and heard with its signs is decoded as it was: the laws. -/
import Derived.Test.YtfjoackkcflbkaaV11
import Derived.Test.YtfjoackkcflbkaaFA
import Derived.Test.YtfjoackkcflbkaaP6
import Derived.Test.YtfjoackkcflbkaaP7
set_option linter.unusedVariables false
set_option linter.unusedSimpArgs false
namespace Go.Spec
open Go Go.Lift Go.Proofs
attribute [local irreducible] Go.Lift.awp Go.Lift.LoopOK Go.Lift.SumOK
theorem l_keep_heard_0 : LoopOK E_keep_heard 0 (loopAt (bodyOf Try.f44) 0) L_keep_heard_0 := I_keep_heard_0 <| by
  intro t0 t1 t7 r0 K hp ho
  obtain ⟨h1, h2, h3, h4, h5⟩ := hp
  rw [big_val] at h2
  obtain ⟨n, rfl⟩ := Int.eq_ofNat_of_zero_le h3
  have e : ((n : Int) + 1).toNat = n + 1 := by omega
  unfold B_keep_heard_0
  unfold o_keep_heard_0 at ho ⊢
  simp only [i64w (n := (n : Int) + 1) (by omega), Int.toNat_natCast, e, List.append_eq] at ho ⊢
  rw [condP_iff]
  simp only [decide_eq_true_eq, decide_eq_false_iff_not]
  refine ⟨fun hlt => ?_, fun hge => ?_⟩
  · have nxt : ∀ v : Int, v = sgS (t0.getD n 0) (lvF t1 n) → p_keep_heard_0 t0 t1 ((n : Int) + 1) (r0 ++ [v]) ∧ m_keep_heard_0 t0 t1 ((n : Int) + 1) (r0 ++ [v]) < m_keep_heard_0 t0 t1 n r0 ∧ X_keep_heard_0_0 (r0 ++ [v] ++ seg (fun i => sgS (t0.getD i 0) (lvF t1 i)) (n + 1) t0.length) K := by
      intro v hv
      refine ⟨⟨h1, by rw [big_val]; exact h2, by omega, by omega, by simp; omega⟩, by unfold m_keep_heard_0; omega, ?_⟩
      rw [seg_cons _ (by omega : n < t0.length), ← hv] at ho
      rw [List.append_assoc]; exact ho
    have hr : (r0.length : Int) ≤ 1000000 := by omega
    have hsg : ∀ x : Int, (t0.getD n 0 = 1 → lvF t1 n = x → -x = sgS (t0.getD n 0) (lvF t1 n)) ∧ (t0.getD n 0 ≠ 1 → lvF t1 n = x → x = sgS (t0.getD n 0) (lvF t1 n)) := by
      intro x
      exact ⟨fun h1 h2 => by unfold sgS; rw [if_pos h1, h2], fun h1 h2 => by unfold sgS; rw [if_neg h1, h2]⟩
    simp only [List.length_cons, List.length_nil]
    have l7 : IntKind.wrap IntKind.i64 ((0 : Int) - 7) = -7 := by decide +kernel
    have l1 : IntKind.wrap IntKind.i64 ((0 : Int) - 1) = -1 := by decide +kernel
    rw [l7, l1]
    by_cases hz : (t1.length : Int) > 0
    · have hne : t1 ≠ [] := fun h => by rw [h] at hz; simp at hz
      have hm : Int.tmod (n : Int) (t1.length : Int) = ((n % t1.length : Nat) : Int) := by rw [Int.tmod_eq_emod_of_nonneg (by omega)]; rfl
      have hml : n % t1.length < t1.length := Nat.mod_lt _ (by omega)
      refine (condP_t (by simpa using hz)).2 ?_
      simp only [hm, Int.toNat_natCast]
      have hl : lvF t1 n = if t1.getD (n % t1.length) 0 < 1 ∨ t1.getD (n % t1.length) 0 > 100000 then 7 else t1.getD (n % t1.length) 0 := by unfold lvF; rw [if_neg hne]
      by_cases hc : t1.getD (n % t1.length) 0 < 1 ∨ t1.getD (n % t1.length) 0 > 100000
      · rw [if_pos hc] at hl
        have hcc : (if t1.getD (n % t1.length) 0 < (1 : Int) then true else decide (t1.getD (n % t1.length) 0 > (100000 : Int))) = true := by
          by_cases h' : t1.getD (n % t1.length) 0 < 1
          · rw [if_pos h']
          · rw [if_neg h']
            rcases hc with h | h
            · exact (h' h).elim
            · exact decide_eq_true h
        have hC : ∀ p q : Prop, p → condP (if t1.getD (n % t1.length) 0 < (1 : Int) then true else decide (t1.getD (n % t1.length) 0 > (100000 : Int))) p q := fun p q h => (condP_t hcc).2 h
        have hs := hsg 7
        repeat' (first
          | omega
          | (refine hC _ _ ?_)
          | exact condP_iff.2 ⟨fun hq => ⟨by omega, nxt _ (hs.1 (by simpa using hq) hl)⟩, fun hq => ⟨by omega, nxt _ (hs.2 (by simpa using hq) hl)⟩⟩
          | refine And.intro ?_ ?_)
      · rw [if_neg hc] at hl
        have hcc : (if t1.getD (n % t1.length) 0 < (1 : Int) then true else decide (t1.getD (n % t1.length) 0 > (100000 : Int))) = false := by
          rw [if_neg (by omega)]; exact decide_eq_false (by omega)
        have hC : ∀ p q : Prop, q → condP (if t1.getD (n % t1.length) 0 < (1 : Int) then true else decide (t1.getD (n % t1.length) 0 > (100000 : Int))) p q := fun p q h => (condP_f hcc).2 h
        have hs := hsg (t1.getD (n % t1.length) 0)
        rw [show (0 : Int) - t1.getD (n % t1.length) 0 = -(t1.getD (n % t1.length) 0) by omega, i64w (n := -(t1.getD (n % t1.length) 0)) (by omega)]
        repeat' (first
          | omega
          | (refine hC _ _ ?_)
          | exact condP_iff.2 ⟨fun hq => ⟨by omega, nxt _ (hs.1 (by simpa using hq) hl)⟩, fun hq => ⟨by omega, nxt _ (hs.2 (by simpa using hq) hl)⟩⟩
          | refine And.intro ?_ ?_)
    · have hne : t1 = [] := List.length_eq_zero_iff.1 (by omega)
      have hl : lvF t1 n = 1 := by unfold lvF; rw [if_pos hne]
      refine (condP_f (by simpa using hz)).2 ?_
      refine (condP_f (by simp)).2 ?_
      have hs := hsg 1
      repeat' (first
          | omega
          | exact condP_iff.2 ⟨fun hq => ⟨by omega, nxt _ (hs.1 (by simpa using hq) hl)⟩, fun hq => ⟨by omega, nxt _ (hs.2 (by simpa using hq) hl)⟩⟩
          | refine And.intro ?_ ?_)
  · rw [seg_nil _ (by omega), List.append_nil] at ho; exact ho
theorem ok_keep_heard : SumOK Try.prog 44 S_keep_heard := by
  refine whole_keep_heard l_keep_heard_0 ?_
  intro a0 a1 ⟨h1, h2⟩
  unfold W_keep_heard
  exact ⟨⟨h1, h2, by decide, by omega, by simp⟩, by rw [List.nil_append]; rfl, rfl, trivial⟩
theorem zs_snoc (n : Nat) : zs (n + 1) = 0 :: zs n := rfl
theorem l_keep_ConvBest_0 : LoopOK E_keep_ConvBest 0 (loopAt (bodyOf Try.f9) 0) L_keep_ConvBest_0 := I_keep_ConvBest_0 <| by
  intro t0 t6 r0 r1 K hp ho
  obtain ⟨h1, rfl, rfl, h3, h4⟩ := hp
  have hdl : (decL t0).length ≤ 400 := by
    have h := (dec_best h1).2.1
    have := (decErr_ok h1).2.2.2
    omega
  unfold B_keep_ConvBest_0
  unfold o_keep_ConvBest_0 at ho ⊢
  rw [condP_iff]
  simp only [decide_eq_true_eq, decide_eq_false_iff_not, List.append_eq, List.length_cons, List.length_nil]
  refine ⟨fun hlt => ?_, fun hge => ?_⟩
  · have hl : (r1 ++ [(0 : Int)]).length = r1.length + 1 := by simp
    refine ⟨by omega, ⟨h1, rfl, rfl, h3.app (fun y hy => by simp at hy; exact .inl hy), by omega⟩, by unfold m_keep_ConvBest_0; omega, ?_⟩
    rw [hl]
    rw [show (decL t0).length - r1.length = ((decL t0).length - (r1.length + 1)) + 1 by omega, zs_succ] at ho
    rw [List.append_assoc]; exact ho
  · have : (decL t0).length - r1.length = 0 := by omega
    rw [this, show zs 0 = [] from rfl, List.append_nil] at ho
    exact ho
theorem ok_keep_ConvBest : SumOK Try.prog 9 S_keep_ConvBest := by
  refine whole_keep_ConvBest ok_conv_Decode ok_conv_Score ok_keep_good ok_R_Ahead l_keep_ConvBest_0 ?_
  intro a0 a1 ⟨h1, h2, h3⟩
  unfold W_keep_ConvBest
  refine ⟨h1, ?_⟩
  by_cases he : decErr a0 = 0
  · refine (condP_f (by simp [he])).2 ⟨by decide, ?_⟩
    obtain ⟨c1, c2, c3, c4⟩ := decErr_ok he
    obtain ⟨d1, d2, d3, d4⟩ := dec_best he
    rw [Nat.sub_self] at d3 d4
    rw [dec_n he]
    refine (condP_f (by simp [d2])).2 ?_
    have hN : decN a0 ≤ 400 := by omega
    have hlen : a0.length = 3 * (decL a0).length + 18 := by omega
    obtain ⟨s1, s2⟩ := scoreOf_GL c1 d1 (by omega) hlen
    have hsc : scoreOf (decL a0) a0 = decV a0 := by rw [s2]; exact d3
    have hpos : ∀ y ∈ decL a0, (0 : Int) ≤ y := fun y hy => by rcases d1 y hy with h | h <;> omega
    refine ⟨⟨⟨by rw [big_val]; omega, hpos⟩, h1⟩, (condP_f (by simp [s1, hsc])).2 ?_⟩
    rw [Int.toNat_natCast]
    have hgb : Bits (goodL a1 (decL a0).length) := goodL_bits
    have hgl : (goodL a1 (decL a0).length).length ≤ (decL a0).length := goodL_length
    generalize goodL a1 (decL a0).length = o at *
    have hob : Bits (o ++ zs ((decL a0).length - o.length)) := hgb.app (zs_bits _)
    have hol : (o ++ zs ((decL a0).length - o.length)).length = (decL a0).length := by rw [List.length_append, zs_length]; omega
    refine ⟨⟨h2, h3, by omega, by omega⟩, ⟨he, rfl, rfl, hgb, hgl⟩, ⟨⟨by rw [hol, big_val]; omega, fun y hy => by rcases hob y hy with h | h <;> omega⟩, h1⟩, fun _ => ⟨hol, by rw [hol, big_val]; omega⟩, ?_, trivial⟩
    generalize o ++ zs ((decL a0).length - o.length) = t at *
    obtain ⟨t1, t2⟩ := scoreOf_GL c1 hob (by omega) (by omega)
    rw [t1, t2]
    rcases d4 t hob (by omega) with hd | ⟨hd, hd'⟩
    · simp [hd]
    · simp [hd, hd']
  · refine (condP_t (by simp [he])).2 ⟨?_, trivial⟩
    unfold decL; rw [if_neg he]; rfl
theorem pre_keep_ConvBest (x : dens S_keep_ConvBest.par) (h : wfs S_keep_ConvBest.par x) : S_keep_ConvBest.pre x := by
  obtain ⟨a0, a1, ⟨⟩⟩ := x
  obtain ⟨⟨h1, _⟩, ⟨h2, h3⟩, _⟩ := h
  have h1 : (List.length a0 : Int) ≤ 140737488351232 := h1
  have h2 : (List.length a1 : Int) ≤ 140737488351232 := h2
  refine ⟨?_, ?_, fun y hy => (wfd_u8 (h3 y hy)).1⟩
  · rw [big_val]; show (List.length a0 : Int) ≤ _; omega
  · rw [big_val]; show (List.length a1 : Int) ≤ _; omega
theorem ok_keep_ConvBack : SumOK Try.prog 10 S_keep_ConvBack := by
  refine whole_keep_ConvBack ok_keep_good ok_conv_Encode ok_keep_heard ok_conv_Decode ok_conv_Score ok_R_SameBits ?_
  intro a0 a1 ⟨h1, h2, h3⟩
  unfold W_keep_ConvBack
  have hgb : Bits (goodL a0 400) := goodL_bits
  have hgl : (goodL a0 400).length ≤ 400 := goodL_length
  generalize goodL a0 400 = b at *
  have hpos : ∀ y ∈ b, (0 : Int) ≤ y := fun y hy => by rcases hgb y hy with h | h <;> omega
  have hee := encErr_good hgb hgl
  have heo : encOf b = encL b := by unfold encOf; rw [if_pos hee]
  have hel := encL_length b
  obtain ⟨g1, g2, g3, g4⟩ := back_best (loud := a1) hgb hgl
  have hhl : (hrd (encL b) a1).length = (encL b).length := hrd_length _ _
  rw [heo, hee]
  refine ⟨⟨h1, h2, by decide, by decide⟩, ⟨by rw [big_val]; omega, hpos⟩, (condP_f rfl).2 ⟨⟨by omega, h3⟩, by rw [hhl, big_val]; omega, ⟨⟨by rw [big_val]; omega, hpos⟩, by rw [hhl, big_val]; omega⟩, fun _ => by rw [g2, big_val]; omega, ?_, trivial⟩⟩
  rw [g1, g2, g3, g4]
  simp
theorem pre_keep_ConvBack (x : dens S_keep_ConvBack.par) (h : wfs S_keep_ConvBack.par x) : S_keep_ConvBack.pre x := by
  obtain ⟨a0, a1, ⟨⟩⟩ := x
  obtain ⟨⟨h1, h3⟩, ⟨h2, _⟩, _⟩ := h
  have h1 : (List.length a0 : Int) ≤ 140737488351232 := h1
  have h2 : (List.length a1 : Int) ≤ 140737488351232 := h2
  refine ⟨?_, fun y hy => (wfd_u8 (h3 y hy)).1, ?_⟩
  · rw [big_val]; show (List.length a0 : Int) ≤ _; omega
  · rw [big_val]; show (List.length a1 : Int) ≤ _; omega
end Go.Spec
