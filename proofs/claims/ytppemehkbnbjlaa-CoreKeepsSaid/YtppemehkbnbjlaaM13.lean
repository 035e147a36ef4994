/- The first joins of a core; how the law's rounds go on. -/
import Derived.Test.YtppemehkbnbjlaaM12
set_option linter.unusedVariables false
set_option linter.unusedSimpArgs false
namespace Go.Spec
open Go Go.Lift
theorem knB_none (u : Int) (w : Int) : knB (u, List.replicate 17 ps0, [], ()) w = false := by
  unfold knB
  have : ps (u, List.replicate 17 ps0, [], ()) w = ps0 := by
    show (List.replicate 17 ps0).getD w.toNat ps0 = ps0
    rw [List.getD_eq_getElem?_getD, List.getElem?_replicate]
    split <;> rfl
  rw [this]; simp [ps0]
theorem KI0_start {u : Int} (h : 1 ≤ u ∧ u ≤ 1000000) : KI0 0 (u, some [], [], ()) (List.replicate 17 0) (List.replicate 17 0) :=
  ⟨_, new_CR h, by simp, rfl, rfl, fun k _ => knB_none u k, fun k _ _ hk => by rw [knB_none] at hk; cases hk⟩
theorem KI0_step {t : Int} {c : CS} {q ch : List Int} (h : KI0 t c q ch) (h0 : 0 ≤ t) (h1 : t < 16) (x : Int) :
    ((joinC c (t + 1) x).1 = 0 → (attC (joinC c (t + 1) x).2 (t + 1) 1).1 = 0 ∧ KI0 (t + 1) (attC (joinC c (t + 1) x).2 (t + 1) 1).2 (q.set (t + 1).toNat x) ch) ∧
    ((joinC c (t + 1) x).1 ≠ 0 → KI0 (t + 1) (joinC c (t + 1) x).2 q ch) ∧ c.2.1.isSome = true ∧ (joinC c (t + 1) x).2.2.1.isSome = true := by
  obtain ⟨r, hc, hq, hch, hno, hk, hb⟩ := h
  obtain ⟨e1, e2⟩ := join_eq hc (t + 1) x
  have h17 := hc.2.2.2.2.1
  have hkn : knB r (t + 1) = false := hk _ (by omega)
  have hps : (ps r (t + 1)).1 = false := by
    unfold knB at hkn
    simp [show (1 : Int) ≤ t + 1 from by omega, show t + 1 ≤ 16 from by omega] at hkn
    exact hkn
  refine ⟨fun hz => ?_, fun hz => ?_, hc.2.2.2.1, e2.2.2.2.1⟩
  · obtain ⟨e3, e4⟩ := att_eq e2 (t + 1) 1
    rw [e1] at hz
    unfold joinR at hz e3 e4
    by_cases c1 : t + 1 < 1 ∨ 16 < t + 1 ∨ x < 0 ∨ 1000000000 < x
    · rw [if_pos c1] at hz; simp at hz
    rw [if_neg c1, if_neg (by rw [hps]; simp)] at e3 e4
    have hkn1 : knB (setPs r (t + 1) (true, false, false, 0, x, ())) (t + 1) = true := by
      show knB (r.1, r.2.1.set (t + 1).toNat _, r.2.2.1, ()) (t + 1) = true
      rw [knB_set h17 (by omega) (by omega), if_pos rfl]
    have hps1 : ps (setPs r (t + 1) (true, false, false, 0, x, ())) (t + 1) = (true, false, false, 0, x, ()) := by
      show ps (r.1, r.2.1.set (t + 1).toNat _, r.2.2.1, ()) (t + 1) = _
      rw [ps_set h17 (by omega) (by omega) _ _ _ (by omega), if_pos rfl]
    unfold attR at e3 e4
    simp only [hkn1, hps1, show isC 1 = true from rfl, Bool.true_eq_false, Bool.false_eq_true, if_false] at e3 e4
    refine ⟨e3, _, e4, by simp [hq], hch, hno, fun k hk1 => ?_, fun k k1 k2 k3 => ?_⟩
    · show knB (r.1, (r.2.1.set (t + 1).toNat _).set (t + 1).toNat _, r.2.2.1, ()) k = false
      rw [List.set_set, knB_set h17 (by omega) (by omega), if_neg (by omega)]
      exact hk k (by omega)
    · have k3 : knB (r.1, (r.2.1.set (t + 1).toNat (true, false, false, 0, x, ())).set (t + 1).toNat (true, true, false, 1, x, ()), r.2.2.1, ()) k = true := k3
      show _ = (ps (r.1, (r.2.1.set (t + 1).toNat (true, false, false, 0, x, ())).set (t + 1).toNat (true, true, false, 1, x, ()), r.2.2.1, ()) k).2.2.2.2.1
      rw [List.set_set] at k3 ⊢
      rw [knB_set h17 (by omega) (by omega)] at k3
      rw [ps_set h17 (by omega) (by omega) _ _ _ k1]
      by_cases hkw : t + 1 = k
      · subst hkw
        rw [if_pos rfl, List.getD_eq_getElem?_getD, List.getElem?_set_self (by omega)]; rfl
      · rw [if_neg hkw] at k3 ⊢
        rw [List.getD_eq_getElem?_getD, List.getElem?_set_ne (by omega), ← List.getD_eq_getElem?_getD]
        exact hb k k1 k2 k3
  · have hz' := hz
    rw [e1] at hz
    unfold joinR at hz e2
    by_cases c1 : t + 1 < 1 ∨ 16 < t + 1 ∨ x < 0 ∨ 1000000000 < x
    · rw [if_pos c1] at e2
      exact ⟨r, e2, hq, hch, hno, fun k hk1 => hk k (by omega), hb⟩
    · rw [if_neg c1, if_neg (by rw [hps]; simp)] at hz; simp at hz
theorem KI_start {c : CS} {q ch : List Int} (h : KI0 16 c q ch) : KI 0 c q ch (some []) := by
  obtain ⟨r, hc, hq, hch, hno, hk, hb⟩ := h
  refine ⟨r, hc, hq, by rw [hch]; simp, rfl, by rw [hno]; simp, fun k k1 k2 => ⟨?_, hb k k1 k2⟩, fun i hi => by rw [hno] at hi; simp at hi⟩
  rw [hch, hno]
  show (List.replicate 17 (0 : Int)).getD k.toNat 0 = 0
  rw [List.getD_eq_getElem?_getD, List.getElem?_replicate]
  split <;> rfl
end Go.Spec
