/- The law of a sender of blocks: both say the same. -/
import Derived.Test.YtppemehkbnbjlaaV2
import Derived.Test.YtppemehkbnbjlaaP1
import Derived.Test.YtppemehkbnbjlaaLF
set_option linter.unusedVariables false
set_option linter.unusedSimpArgs false
namespace Go.Spec
open Go Go.Lift Go.Proofs
attribute [local irreducible] Go.Lift.awp Go.Lift.LoopOK Go.Lift.SumOK
theorem hr_some {s : HS} {r : RS} (h : hr s r) : s.2.2.1.isSome = true := h.2.2.2.2.2.1
theorem hr_len {s : HS} {r : RS} (h : hr s r) : r.2.1.length = 8 := h.2.2.2.2.1
theorem hr_next {s : HS} {r : RS} (h : hr s r) (k : Int) : (0 ≤ k ∧ k ≤ 7 → ∀ b, blk s k = some b → 0 ≤ b.2.1 ∧ b.2.1 ≤ 8) ∧
    (0 ≤ k ∧ k ≤ 7 → (proc r k).1 = true → (proc r k).2.2.1 = false → 0 ≤ (proc r k).2.2.2.2.1 ∧ (proc r k).2.2.2.2.1 < 8) := by
  obtain ⟨e1, e2, e3, e4, e5, e6, e7, e8⟩ := h
  refine ⟨fun hk b hb => ?_, fun hk h1 h2 => ?_⟩
  · have := (e8 k hk.1 hk.2).2
    rw [hb] at this
    obtain ⟨_, _, _, _, f5, _, f7⟩ := this
    exact ⟨f5, by omega⟩
  · have := (e8 k hk.1 hk.2).2
    cases hb : blk s k with
    | none => rw [hb] at this; rw [this] at h1; cases h1
    | some b =>
      rw [hb] at this
      obtain ⟨_, f2, _, f4, f5, f6, _⟩ := this
      rw [f4]
      have := f6 (by rw [← f2]; exact h2)
      exact ⟨f5, by omega⟩
theorem wait_big (s : HS) : ((waitS s 0).length : Int) ≤ big := by
  have := wait_len s
  unfold big; omega
theorem l_law_HarqSends_0 : LoopOK E_law_HarqSends 0 (loopAt (bodyOf Try.f9) 0) L_law_HarqSends_0 := I_law_HarqSends_0 <| by
  intro t1 t8 r0 r1 K hp ho
  obtain ⟨hb, i1, i2, s, rfl, h⟩ := hp
  unfold B_law_HarqSends_0
  unfold o_law_HarqSends_0 at ho ⊢
  simp only [Option.getD_some]
  generalize t1.getD t8.toNat ((0 : Int), (0 : Int), (0 : Int), false, ByteArray.empty, ()) = x
  rw [condP_iff]
  refine ⟨fun hlt => ?_, fun _ => ho⟩
  have hlt := of_decide_eq_true hlt
  have hnx : ∀ (s' : HS) (r' : RS), hr s' r' → p_law_HarqSends_0 t1 (t8 + 1) (some s') r' ∧ m_law_HarqSends_0 t1 (t8 + 1) (some s') r' < m_law_HarqSends_0 t1 t8 (some s) r1 ∧ X_law_HarqSends_0_1 K :=
    fun s' r' h' => ⟨⟨hb, by omega, by omega, s', rfl, h'⟩, by unfold m_law_HarqSends_0; omega, ho⟩
  have hw : IntKind.wrap .i64 (t8 + 1) = t8 + 1 := i64w (by unfold big at hb; omega)
  obtain ⟨s1, s2⟩ := sub_eq h x.2.2.2.2.1
  obtain ⟨n1, n2⟩ := next_eq h x.2.1
  obtain ⟨a1, a2⟩ := ans_eq h x.2.1 x.2.2.2.1
  obtain ⟨q1, q2⟩ := hr_next h x.2.1
  have hw0 := wait_eq h
  have hw1 := wait_eq s2
  have hw2 := wait_eq n2
  have hw3 := wait_eq a2
  have hl := hr_len h
  have hs := hr_some h
  refine ⟨i1, hlt, ?_⟩
  rw [condP_iff]
  refine ⟨fun _ => ?_, fun _ => ?_⟩
  · simp only [s1, hw1, hw, beq_self_eq_true, if_true, Bool.not_true, Bool.not_false, condP_iff]
    have := hnx _ _ s2
    have hb1 := wait_big (subS s x.2.2.2.2.1).2
    rw [hw1] at hb1
    simp [i1, hlt, hs, hb1, this]
  · rw [condP_iff]
    refine ⟨fun _ => ?_, fun _ => ?_⟩
    · simp only [n1, hw2, hw, beq_self_eq_true, if_true, Bool.not_true, Bool.not_false, condP_iff, Bool.and_true]
      have := hnx _ _ n2
      have hb1 := wait_big (nextS s x.2.1).2
      rw [hw2] at hb1
      refine ⟨i1, hlt, rfl, q1, i1, hlt, ⟨hl, q2⟩, ?_⟩
      simp [hb1, this]
    · rw [condP_iff]
      refine ⟨fun _ => ?_, fun _ => ?_⟩
      · simp only [a1, hw3, hw, beq_self_eq_true, if_true, Bool.not_true, Bool.not_false, condP_iff, Bool.and_true]
        have := hnx _ _ a2
        have hb1 := wait_big (ansS s x.2.1 x.2.2.2.1).2
        rw [hw3] at hb1
        simp [i1, hlt, hs, hl, hb1, this]
      · have := hnx _ _ h
        have hb1 := wait_big s
        simp only [hw, condP_iff]
        rw [hw0] at hb1
        simp [hb1, this, hw0]
theorem ok_law_HarqSends : SumOK Try.prog 9 S_law_HarqSends := by
  refine whole_law_HarqSends ok_harq_NewSender ok_harq_Sender_Submit ok_R_Tries_Submit ok_harq_Sender_Next ok_R_Tries_Next ok_harq_Sender_Answer ok_R_Tries_Answer ok_harq_Sender_Waiting ok_R_Tries_Waiting ok_R_SameInts l_law_HarqSends_0 ?_
  intro a0 a1 hp
  unfold W_law_HarqSends newS
  simp only [condP_iff]
  by_cases h : 1 ≤ a0 ∧ a0 ≤ 8
  · have h1 : (if decide (a0 < 1) = true then true else decide (a0 > 8)) = false := by simp; omega
    rw [h1, if_pos h]
    exact ⟨trivial, fun h => (by cases h), fun _ => ⟨fun h => (by simp at h), fun _ => ⟨⟨hp, Int.le_refl _, by omega, _, rfl, new_hr h⟩, trivial, trivial⟩⟩⟩
  · have h1 : (if decide (a0 < 1) = true then true else decide (a0 > 8)) = true := by simp; omega
    rw [h1, if_neg h]
    exact ⟨trivial, fun _ => ⟨rfl, trivial⟩, fun h => (by cases h)⟩
theorem pre_law_HarqSends (x : dens S_law_HarqSends.par) (h : wfs S_law_HarqSends.par x) : S_law_HarqSends.pre x := by
  obtain ⟨a0, a1, ⟨⟩⟩ := x
  obtain ⟨_, ⟨h1, h2⟩, _⟩ := h
  have h1 : (List.length a1 : Int) ≤ 140737488351232 := h1
  show (List.length a1 : Int) ≤ big
  unfold big; omega
end Go.Spec
