/- Good bits, small numbers, what is heard: run through. -/
import Derived.Test.YtppemehkbnbjlaaV9
import Derived.Test.YtppemehkbnbjlaaP10
set_option linter.unusedVariables false
set_option linter.unusedSimpArgs false
namespace Go.Spec
open Go Go.Lift Go.Proofs
attribute [local irreducible] Go.Lift.awp Go.Lift.LoopOK Go.Lift.SumOK
theorem cT {c : Bool} {p q : Prop} (h : c = true) : condP c p q ↔ p := by subst h; simp [condP_iff]
theorem cF {c : Bool} {p q : Prop} (h : c = false) : condP c p q ↔ q := by subst h; simp [condP_iff]
theorem goodL_cons {b : List Int} {i most : Nat} (h : i < b.length) (hm : i < most) : goodL (b.drop i) (most - i) = b.getD i 0 % 2 :: goodL (b.drop (i + 1)) (most - (i + 1)) := by
  unfold goodL
  rw [drop_cons b i 0 h]
  obtain ⟨d, hd⟩ : ∃ d, most - i = d + 1 := ⟨most - i - 1, by omega⟩
  rw [hd, show most - (i + 1) = d from by omega]
  rfl
theorem l_keep_good_0 : LoopOK E_keep_good 0 (loopAt (bodyOf Try.f27) 0) L_keep_good_0 := I_keep_good_0 <| by
  intro t0 t1 t6 r0 K hp ho
  obtain ⟨h1, h2, h3, h4, h5, h6, h7⟩ := hp
  rw [big_val] at h1
  obtain ⟨n, rfl⟩ := Int.eq_ofNat_of_zero_le h3
  obtain ⟨m, rfl⟩ := Int.eq_ofNat_of_zero_le (Int.le_trans h3 h4)
  have e : ((n : Int) + 1).toNat = n + 1 := by omega
  have e1 : ((m : Int) - (n : Int)).toNat = m - n := by omega
  have e2 : ((m : Int) - ((n : Int) + 1)).toNat = m - (n + 1) := by omega
  unfold B_keep_good_0
  unfold o_keep_good_0 at ho ⊢
  have hc : (if decide ((n : Int) < (t0.length : Int)) = true then decide ((n : Int) < (m : Int)) else false) = decide (n < t0.length ∧ n < m) := by
    by_cases h1 : n < t0.length <;> by_cases h2 : n < m <;> simp [h1, h2]
  rw [hc, i64w (by omega)]
  simp only [condP_iff, decide_eq_true_eq, decide_eq_false_iff_not, Int.toNat_natCast, e, e1, e2] at ho ⊢
  refine ⟨fun hlt => ?_, fun hge => ?_⟩
  · have hx : 0 ≤ t0.getD n 0 := h2 _ (getD_mem hlt.1)
    rw [Int.tmod_eq_emod_of_nonneg hx]
    refine ⟨by omega, by omega, by decide, by simp; omega, ⟨by rw [big_val]; exact h1, h2, by omega, by omega, by omega, h6, by simp; omega⟩, by unfold m_keep_good_0; omega, ?_⟩
    rw [goodL_cons hlt.1 hlt.2] at ho
    simpa using ho
  · have : goodL (t0.drop n) (m - n) = [] := by
      unfold goodL
      by_cases hm : n < m
      · rw [List.drop_eq_nil_of_le (by omega)]; simp
      · rw [show m - n = 0 from by omega]; simp
    rw [this, List.append_nil] at ho
    exact ho
theorem ok_keep_good : SumOK Try.prog 27 S_keep_good := by
  refine whole_keep_good l_keep_good_0 ?_
  intro a0 a1 ⟨h1, h2, h3, h4⟩
  unfold W_keep_good
  exact ⟨⟨h1, h2, by decide, h3, by omega, h4, rfl⟩, by simp, trivial⟩
theorem l_keep_heard_0 : LoopOK E_keep_heard 0 (loopAt (bodyOf Try.f28) 0) L_keep_heard_0 := I_keep_heard_0 <| by
  intro t0 t1 t7 r0 K hp ho
  obtain ⟨h1, h2, h3, h4, h5⟩ := hp
  rw [big_val] at h2
  obtain ⟨n, rfl⟩ := Int.eq_ofNat_of_zero_le h3
  have e : ((n : Int) + 1).toNat = n + 1 := by omega
  unfold B_keep_heard_0
  unfold o_keep_heard_0 at ho ⊢
  simp only [i64w (n := (n : Int) + 1) (by omega), Int.toNat_natCast, e, List.append_eq] at ho ⊢
  rw [condP_iff]
  simp only [decide_eq_true_eq, decide_eq_false_iff_not]
  refine ⟨fun hlt => ?_, fun hge => ?_⟩
  · have nxt : ∀ v : Int, v = sgS (t0.getD n 0) (lvF t1 n) → p_keep_heard_0 t0 t1 ((n : Int) + 1) (r0 ++ [v]) ∧ m_keep_heard_0 t0 t1 ((n : Int) + 1) (r0 ++ [v]) < m_keep_heard_0 t0 t1 n r0 ∧ X_keep_heard_0_0 (r0 ++ [v] ++ seg (fun i => sgS (t0.getD i 0) (lvF t1 i)) (n + 1) t0.length) K := by
      intro v hv
      refine ⟨⟨h1, by rw [big_val]; exact h2, by omega, by omega, by simp; omega⟩, by unfold m_keep_heard_0; omega, ?_⟩
      rw [seg_cons _ (by omega : n < t0.length), ← hv] at ho
      rw [List.append_assoc]; exact ho
    have hr : (r0.length : Int) ≤ 1000000 := by omega
    have hsg : ∀ x : Int, (t0.getD n 0 = 1 → lvF t1 n = x → -x = sgS (t0.getD n 0) (lvF t1 n)) ∧ (t0.getD n 0 ≠ 1 → lvF t1 n = x → x = sgS (t0.getD n 0) (lvF t1 n)) := by
      intro x
      exact ⟨fun h1 h2 => by unfold sgS; rw [if_pos h1, h2], fun h1 h2 => by unfold sgS; rw [if_neg h1, h2]⟩
    simp only [List.length_cons, List.length_nil]
    have l7 : IntKind.wrap IntKind.i64 ((0 : Int) - 7) = -7 := by decide +kernel
    have l1 : IntKind.wrap IntKind.i64 ((0 : Int) - 1) = -1 := by decide +kernel
    rw [l7, l1]
    by_cases hz : (t1.length : Int) > 0
    · have hne : t1 ≠ [] := fun h => by rw [h] at hz; simp at hz
      have hm : Int.tmod (n : Int) (t1.length : Int) = ((n % t1.length : Nat) : Int) := by rw [Int.tmod_eq_emod_of_nonneg (by omega)]; rfl
      have hml : n % t1.length < t1.length := Nat.mod_lt _ (by omega)
      refine (cT (by simpa using hz)).2 ?_
      simp only [hm, Int.toNat_natCast]
      have hl : lvF t1 n = if t1.getD (n % t1.length) 0 < 1 ∨ t1.getD (n % t1.length) 0 > 100000 then 7 else t1.getD (n % t1.length) 0 := by unfold lvF; rw [if_neg hne]
      by_cases hc : t1.getD (n % t1.length) 0 < 1 ∨ t1.getD (n % t1.length) 0 > 100000
      · rw [if_pos hc] at hl
        have hcc : (if t1.getD (n % t1.length) 0 < (1 : Int) then true else decide (t1.getD (n % t1.length) 0 > (100000 : Int))) = true := by
          by_cases h' : t1.getD (n % t1.length) 0 < 1
          · rw [if_pos h']
          · rw [if_neg h']
            rcases hc with h | h
            · exact (h' h).elim
            · exact decide_eq_true h
        have hC : ∀ p q : Prop, p → condP (if t1.getD (n % t1.length) 0 < (1 : Int) then true else decide (t1.getD (n % t1.length) 0 > (100000 : Int))) p q := fun p q h => (cT hcc).2 h
        have hs := hsg 7
        repeat' (first
          | omega
          | (refine hC _ _ ?_)
          | exact condP_iff.2 ⟨fun hq => ⟨by omega, nxt _ (hs.1 (by simpa using hq) hl)⟩, fun hq => ⟨by omega, nxt _ (hs.2 (by simpa using hq) hl)⟩⟩
          | refine And.intro ?_ ?_)
      · rw [if_neg hc] at hl
        have hcc : (if t1.getD (n % t1.length) 0 < (1 : Int) then true else decide (t1.getD (n % t1.length) 0 > (100000 : Int))) = false := by
          rw [if_neg (by omega)]; exact decide_eq_false (by omega)
        have hC : ∀ p q : Prop, q → condP (if t1.getD (n % t1.length) 0 < (1 : Int) then true else decide (t1.getD (n % t1.length) 0 > (100000 : Int))) p q := fun p q h => (cF hcc).2 h
        have hs := hsg (t1.getD (n % t1.length) 0)
        rw [show (0 : Int) - t1.getD (n % t1.length) 0 = -(t1.getD (n % t1.length) 0) by omega, i64w (n := -(t1.getD (n % t1.length) 0)) (by omega)]
        repeat' (first
          | omega
          | (refine hC _ _ ?_)
          | exact condP_iff.2 ⟨fun hq => ⟨by omega, nxt _ (hs.1 (by simpa using hq) hl)⟩, fun hq => ⟨by omega, nxt _ (hs.2 (by simpa using hq) hl)⟩⟩
          | refine And.intro ?_ ?_)
    · have hne : t1 = [] := List.length_eq_zero_iff.1 (by omega)
      have hl : lvF t1 n = 1 := by unfold lvF; rw [if_pos hne]
      refine (cF (by simpa using hz)).2 ?_
      refine (cF (by simp)).2 ?_
      have hs := hsg 1
      repeat' (first
          | omega
          | exact condP_iff.2 ⟨fun hq => ⟨by omega, nxt _ (hs.1 (by simpa using hq) hl)⟩, fun hq => ⟨by omega, nxt _ (hs.2 (by simpa using hq) hl)⟩⟩
          | refine And.intro ?_ ?_)
  · rw [seg_nil _ (by omega), List.append_nil] at ho; exact ho
theorem ok_keep_heard : SumOK Try.prog 28 S_keep_heard := by
  refine whole_keep_heard l_keep_heard_0 ?_
  intro a0 a1 ⟨h1, h2⟩
  unfold W_keep_heard
  exact ⟨⟨h1, h2, by decide, by omega, by simp⟩, by rw [List.nil_append]; rfl, rfl, trivial⟩
theorem l_keep_small_0 : LoopOK E_keep_small 0 (loopAt (bodyOf Try.f29) 0) L_keep_small_0 := I_keep_small_0 <| by
  intro t0 t4 r0 K hp ho
  obtain ⟨h1, h2, h3, h4⟩ := hp
  have h1' : (t0.length : Int) * 8 ≤ 140737488351232 := h1
  obtain ⟨n, rfl⟩ := Int.eq_ofNat_of_zero_le h2
  unfold B_keep_small_0
  unfold o_keep_small_0 at ho ⊢
  refine condP_iff.2 ⟨fun hlt => ?_, fun hge => ?_⟩
  · have hlt : (n : Int) < (t0.length : Int) := of_decide_eq_true hlt
    have ew : IntKind.wrap .i64 ((n : Int) + 1) = ((n + 1 : Nat) : Int) := by rw [i64w (by omega)]; omega
    rw [ew]
    simp only [Int.toNat_natCast, List.append_eq] at ho ⊢
    rw [drop_cons t0 n 0 (by omega)] at ho
    refine ⟨h2, hlt, by simp; omega, ⟨h1, by omega, by omega, by simp; omega⟩, by unfold m_keep_small_0; omega, ?_⟩
    rw [List.append_assoc]
    exact ho
  · have hge : ¬ (n : Int) < (t0.length : Int) := of_decide_eq_false hge
    rw [Int.toNat_natCast, List.drop_eq_nil_of_le (by omega)] at ho
    simpa [smallL] using ho
theorem ok_keep_small : SumOK Try.prog 29 S_keep_small := by
  refine whole_keep_small l_keep_small_0 ?_
  intro a0 h
  unfold W_keep_small
  exact ⟨⟨h, by decide, by omega, rfl⟩, by simp, trivial⟩
end Go.Spec
