/- Deeds at both cores: they answer the same, and stay side by side. -/
import Derived.Test.YtppemehkbnbjlaaM9
set_option linter.unusedVariables false
set_option linter.unusedSimpArgs false
namespace Go.Spec
open Go Go.Lift
theorem dd_eq {c : CS} {r : RC} (h : CR c r) (hl : (c.2.2.1.length : Int) ≤ big) (d : DD) : (dC c d).1 = (dR r d).1 ∧ CR (dC c d).2 (dR r d).2 := by
  unfold dC dR
  by_cases k0 : d.1 = 0
  · rw [if_pos k0, if_pos k0]
    have := join_eq h d.2.1 d.2.2.1
    exact ⟨by rw [this.1], this.2⟩
  rw [if_neg k0, if_neg k0]
  by_cases k1 : d.1 = 1
  · rw [if_pos k1, if_pos k1]
    have := att_eq h d.2.1 d.2.2.1
    exact ⟨by rw [this.1], this.2⟩
  rw [if_neg k1, if_neg k1]
  by_cases k2 : d.1 = 2
  · rw [if_pos k2, if_pos k2]
    have := lea_eq h d.2.1
    exact ⟨by rw [this.1], this.2⟩
  rw [if_neg k2, if_neg k2]
  by_cases k3 : d.1 = 3
  · rw [if_pos k3, if_pos k3]
    have := slp_eq h d.2.1
    exact ⟨by rw [this.1], this.2⟩
  rw [if_neg k3, if_neg k3]
  by_cases k4 : d.1 = 4
  · rw [if_pos k4, if_pos k4]
    have := wak_eq h d.2.1 d.2.2.1
    exact ⟨by rw [this.1], this.2⟩
  rw [if_neg k4, if_neg k4]
  by_cases k5 : d.1 = 5
  · rw [if_pos k5, if_pos k5]
    have := han_eq h d.2.1 d.2.2.1 d.2.2.2.1
    exact ⟨by rw [this.1], this.2⟩
  rw [if_neg k5, if_neg k5]
  by_cases k6 : d.1 = 6
  · rw [if_pos k6, if_pos k6]
    exact len_eq h d.2.1
  rw [if_neg k6, if_neg k6]
  have := rep_eq h d.2.2.2.2.1 hl
  exact ⟨by rw [this.1], this.2⟩
theorem lenR_len (r : RC) (w : Int) : (lenR r w).2.2.2.1.length ≤ r.2.2.1.length + 1 := by
  unfold lenR
  split
  · exact Nat.le_succ _
  · split
    · exact Nat.le_succ _
    · split
      · exact Nat.le_succ _
      · simp
theorem dR_len (r : RC) (d : DD) : (dR r d).2.2.2.1.length ≤ r.2.2.1.length + 1 := by
  unfold dR
  split
  · unfold joinR; split; · exact Nat.le_succ _
    split <;> exact Nat.le_succ _
  split
  · unfold attR; split; · exact Nat.le_succ _
    split; · exact Nat.le_succ _
    split <;> exact Nat.le_succ _
  split
  · unfold leaR; split; · exact Nat.le_succ _
    split; · exact Nat.le_succ _
    simp
  split
  · unfold slpR; split; · exact Nat.le_succ _
    split <;> exact Nat.le_succ _
  split
  · unfold wakR; split; · exact Nat.le_succ _
    split; · exact Nat.le_succ _
    split <;> exact Nat.le_succ _
  split
  · unfold hanR; split; · exact Nat.le_succ _
    split; · exact Nat.le_succ _
    split <;> exact Nat.le_succ _
  split
  · exact lenR_len _ _
  · unfold repR; split; · exact Nat.le_succ _
    split; · exact Nat.le_succ _
    split; · exact Nat.le_succ _
    split; · exact Nat.le_succ _
    split; · exact Nat.le_succ _
    simp
theorem CR_pre {c : CS} {r : RC} (h : CR c r) (hl : (r.2.2.1.length + 1) * 40 ≤ 140737488355328) : dPre c r := by
  obtain ⟨_, _, _, h4, h5, h6, _⟩ := h
  have hlen := Two.length h6
  refine ⟨h4, fun g hg => ?_, by omega, h5, hl⟩
  obtain ⟨l, who, has, tu, cl, bs, us, e, _, _, _, e5, _⟩ := Two.left h6 g hg
  subst e
  exact ⟨rfl, e5⟩
theorem new_CR {u : Int} (h : 1 ≤ u ∧ u ≤ 1000000) : CR (u, some [], [], ()) (u, List.replicate 17 ps0, [], ()) := by
  refine ⟨rfl, h.1, h.2, rfl, by simp, trivial, fun w => ?_⟩
  show knB (u, List.replicate 17 ps0, [], ()) w = false
  unfold knB
  have : ps (u, List.replicate 17 ps0, [], ()) w = ps0 := by
    show (List.replicate 17 ps0).getD w.toNat ps0 = ps0
    rw [List.getD_eq_getElem?_getD, List.getElem?_replicate]
    split <;> rfl
  rw [this]; simp [ps0]
end Go.Spec
