/- The law of a core's books. -/
import Derived.Test.YtppemehkbnbjlaaV6
import Derived.Test.YtppemehkbnbjlaaP4
import Derived.Test.YtppemehkbnbjlaaM13
import Derived.Test.YtppemehkbnbjlaaLF
set_option linter.unusedVariables false
set_option linter.unusedSimpArgs false
namespace Go.Spec
open Go Go.Lift Go.Proofs
attribute [local irreducible] Go.Lift.awp Go.Lift.LoopOK Go.Lift.SumOK
theorem repC_no {c : CS} {u : UG} (h : (repC c u).1 ≠ 0) : (repC c u).2 = c := by
  unfold repC at h ⊢
  split; · rfl
  rename_i c0; rw [if_neg c0] at h
  split; · rfl
  rename_i c1; rw [if_neg c1] at h
  split; · rfl
  rename_i c2; rw [if_neg c2] at h
  split; · rfl
  rename_i c3; rw [if_neg c3] at h
  split; · rfl
  rename_i c4; rw [if_neg c4] at h
  split
  · rename_i c5; rw [if_pos c5] at h; exact (h rfl).elim
  · rename_i c5; rw [if_neg c5] at h; exact (h rfl).elim
theorem KI0_mono {n n' : Int} {c : CS} {q ch : List Int} (h : KI0 n c q ch) (hn : n ≤ n') : KI0 n' c q ch := by
  obtain ⟨r, hc, hq, hch, hno, hk, hb⟩ := h
  exact ⟨r, hc, hq, hch, hno, fun k hk1 => hk k (by omega), hb⟩
theorem l_keep_CoreKeeps_0 : LoopOK E_keep_CoreKeeps 0 (loopAt (bodyOf Try.f12) 0) L_keep_CoreKeeps_0 := I_keep_CoreKeeps_0 <| by
  intro t1 t2 t11 r0 r1 r2 K hp ho
  obtain ⟨hb, i1, i2, i3, c, rfl, h⟩ := hp
  unfold B_keep_CoreKeeps_0
  unfold o_keep_CoreKeeps_0 at ho ⊢
  simp only [Option.getD_some]
  generalize t1.getD t11.toNat 0 = x
  refine condP_iff.2 ⟨fun hlt => ?_, fun hge => ?_⟩
  · have hlt : t11 < t1.length ∧ t11 < 16 := by
      by_cases h1 : t11 < (t1.length : Int)
      · rw [decide_eq_true h1] at hlt; exact ⟨h1, of_decide_eq_true hlt⟩
      · rw [decide_eq_false h1] at hlt; cases hlt
    have hw : IntKind.wrap .i64 (t11 + 1) = t11 + 1 := i64w (by omega)
    rw [hw]
    obtain ⟨s1, s2, s3, s4⟩ := KI0_step h i1 hlt.2 x
    have v1 : (0 : Int) ≤ t11 + 1 := by omega
    have v2 : t11 + 1 < ((17 : Nat) : Int) := by omega
    refine ⟨i1, hlt.1, rfl, s3, condP_iff.2 ⟨fun hz => ?_, fun hz => ?_⟩⟩
    · obtain ⟨e1, e2⟩ := s1 (eq_of_beq hz)
      refine ⟨i1, hlt.1, v1, v2, s4, condP_iff.2 ⟨fun hx => absurd hx (by rw [e1]; simp), fun _ => ⟨⟨hb, v1, by omega, by omega, _, rfl, e2⟩, by unfold m_keep_CoreKeeps_0; omega, ho⟩⟩⟩
    · exact ⟨⟨hb, v1, by omega, by omega, _, rfl, s2 (ne_of_beq_false hz)⟩, by unfold m_keep_CoreKeeps_0; omega, ho⟩
  · exact ho c r1 r2 (KI0_mono h i2)
theorem l_keep_CoreKeeps_2 : LoopOK E_keep_CoreKeeps 2 (loopAt (bodyOf Try.f12) 2) L_keep_CoreKeeps_2 := I_keep_CoreKeeps_2 <| by
  intro t2 t13 r0 r1 r2 r3 K hp ho
  obtain ⟨hb, i1, i2, c, rfl, h⟩ := hp
  unfold B_keep_CoreKeeps_2
  unfold o_keep_CoreKeeps_2 at ho ⊢
  simp only [Option.getD_some]
  generalize t2.getD t13.toNat ((0 : Int), (0 : Int), (0 : Int), false, ()) = u
  generalize bits BinOp.and .i64 u.2.1 15 = who
  refine condP_iff.2 ⟨fun hlt => ?_, fun _ => ho⟩
  have hlt : t13 < (t2.length : Int) := of_decide_eq_true hlt
  have hb' : (t2.length : Int) * 25 ≤ 140737488351232 := hb
  have hw : IntKind.wrap .i64 (t13 + 1) = t13 + 1 := i64w (by omega)
  rw [hw]
  have leaf : ∀ (c2 : CS) (ch2 : List Int) (wh2 : Option (List (Int × Int))), KI (2 * t13 + 2) c2 r1 ch2 wh2 →
      p_keep_CoreKeeps_4 t2 t13 1 c2 r1 ch2 wh2 ∧ p_keep_CoreKeeps_2 t2 (t13 + 1) (some c2) r1 ch2 wh2 ∧ m_keep_CoreKeeps_2 t2 (t13 + 1) (some c2) r1 ch2 wh2 < m_keep_CoreKeeps_2 t2 t13 (some c) r1 r2 r3 ∧ X_keep_CoreKeeps_2_1 K := fun c2 ch2 wh2 H =>
    ⟨⟨hb, i1, hlt, by omega, by omega, H⟩, ⟨hb, by omega, by omega, _, rfl, KI_mono H (by omega)⟩, by unfold m_keep_CoreKeeps_2; omega, ho⟩
  have fin2 : ∀ (b : Bool) (c2 : CS) (ch2 : List Int) (wh2 : Option (List (Int × Int))), KI (2 * t13 + 2) c2 r1 ch2 wh2 → (0 ≤ t13) ∧ (t13 < (t2.length : Int)) ∧
      condP b ((c2.2.1.isSome = true ∧ grantsOK c2.2.1 c2.2.2.1 ∧ (c2.2.2.1.length : Int) ≤ big) ∧ ((leaC c2 who).2.2.1.isSome = true) ∧
        p_keep_CoreKeeps_4 t2 t13 1 (attC (leaC c2 who).2 who 2).2 r1 ch2 wh2 ∧ p_keep_CoreKeeps_2 t2 (t13 + 1) (some (attC (leaC c2 who).2 who 2).2) r1 ch2 wh2 ∧ m_keep_CoreKeeps_2 t2 (t13 + 1) (some (attC (leaC c2 who).2 who 2).2) r1 ch2 wh2 < m_keep_CoreKeeps_2 t2 t13 (some c) r1 r2 r3 ∧ X_keep_CoreKeeps_2_1 K)
      (p_keep_CoreKeeps_4 t2 t13 1 c2 r1 ch2 wh2 ∧ p_keep_CoreKeeps_2 t2 (t13 + 1) (some c2) r1 ch2 wh2 ∧ m_keep_CoreKeeps_2 t2 (t13 + 1) (some c2) r1 ch2 wh2 < m_keep_CoreKeeps_2 t2 t13 (some c) r1 r2 r3 ∧ X_keep_CoreKeeps_2_1 K) := fun b c2 ch2 wh2 H => by
    obtain ⟨g1, g2, g3, _⟩ := KI_grants H (by omega)
    obtain ⟨l1, _⟩ := KI_grants (KI_leave H who) (by omega)
    exact ⟨i1, hlt, condP_iff.2 ⟨fun _ => ⟨⟨g1, g2, g3⟩, l1, leaf _ _ _ (KI_attach (KI_leave H who) who 2)⟩, fun _ => leaf _ _ _ H⟩⟩
  obtain ⟨k1, k2, k3, k4, k5, k6, k7⟩ := KI_grants h (by omega)
  obtain ⟨n1, n2⟩ := KI_lend h who
  refine ⟨i1, hlt, i1, hlt, condP_iff.2 ⟨fun _ => ⟨rfl, by omega, condP_iff.2 ⟨fun hz => ⟨k5, ?_⟩, fun hz => ?_⟩⟩, fun _ => ?_⟩⟩
  · have H := n1 (eq_of_beq hz)
    obtain ⟨g1, g2, g3, g4, g5, g6, g7⟩ := KI_grants H (by omega)
    refine ⟨i1, hlt, ⟨g2, g3⟩, condP_iff.2 ⟨fun hr => ?_, fun hr => ?_⟩⟩
    · obtain ⟨w, w1, w2, w3, H2, hag⟩ := KI_report H (by omega) u (eq_of_beq hr)
      obtain ⟨a1, a2, a3, a4, a5, a6, a7⟩ := KI_grants H2 (by omega)
      rw [w1, hag]
      have v1 : (0 : Int) ≤ w := by omega
      have v2 : w < ((17 : Nat) : Int) := by omega
      refine ⟨i1, hlt, v1, v2, i1, hlt, v1, v2, i1, hlt, trivial, i1, hlt, ⟨a2, a3⟩, condP_iff.2 ⟨fun hx => absurd hx (by simp), fun _ => ⟨i1, hlt, trivial, condP_iff.2 ⟨fun hx => absurd hx (by simp), fun _ => ?_⟩⟩⟩⟩
      exact fin2 _ _ _ _ (KI_mono H2 (by omega))
    · have hr' : (repC _ u).1 ≠ 0 := ne_of_beq_false hr
      rw [repC_no hr']
      exact fin2 _ _ _ _ (KI_mono H (by omega))
  · have H : KI (2 * t13 + 1) (lenC c who).2 r1 r2 r3 := by rw [n2 (ne_of_beq_false hz)]; exact KI_mono h (by omega)
    obtain ⟨g1, g2, g3, g4, g5, g6, g7⟩ := KI_grants H (by omega)
    refine ⟨i1, hlt, ⟨g2, g3⟩, condP_iff.2 ⟨fun hr => ?_, fun hr => ?_⟩⟩
    · obtain ⟨w, w1, w2, w3, H2, hag⟩ := KI_report H (by omega) u (eq_of_beq hr)
      obtain ⟨a1, a2, a3, a4, a5, a6, a7⟩ := KI_grants H2 (by omega)
      rw [w1, hag]
      have v1 : (0 : Int) ≤ w := by omega
      have v2 : w < ((17 : Nat) : Int) := by omega
      refine ⟨i1, hlt, v1, v2, i1, hlt, v1, v2, i1, hlt, trivial, i1, hlt, ⟨a2, a3⟩, condP_iff.2 ⟨fun hx => absurd hx (by simp), fun _ => ⟨i1, hlt, trivial, condP_iff.2 ⟨fun hx => absurd hx (by simp), fun _ => ?_⟩⟩⟩⟩
      exact fin2 _ _ _ _ (KI_mono H2 (by omega))
    · have hr' : (repC _ u).1 ≠ 0 := ne_of_beq_false hr
      rw [repC_no hr']
      exact fin2 _ _ _ _ (KI_mono H (by omega))
  · have H : KI (2 * t13 + 1) c r1 r2 r3 := KI_mono h (by omega)
    obtain ⟨g1, g2, g3, g4, g5, g6, g7⟩ := KI_grants H (by omega)
    refine ⟨i1, hlt, rfl, ⟨g2, g3⟩, condP_iff.2 ⟨fun hr => ?_, fun hr => ?_⟩⟩
    · obtain ⟨w, w1, w2, w3, H2, hag⟩ := KI_report H (by omega) u (eq_of_beq hr)
      obtain ⟨a1, a2, a3, a4, a5, a6, a7⟩ := KI_grants H2 (by omega)
      rw [w1, hag]
      have v1 : (0 : Int) ≤ w := by omega
      have v2 : w < ((17 : Nat) : Int) := by omega
      refine ⟨i1, hlt, v1, v2, i1, hlt, v1, v2, i1, hlt, trivial, i1, hlt, ⟨a2, a3⟩, condP_iff.2 ⟨fun hx => absurd hx (by simp), fun _ => ⟨i1, hlt, trivial, condP_iff.2 ⟨fun hx => absurd hx (by simp), fun _ => ?_⟩⟩⟩⟩
      exact fin2 _ _ _ _ (KI_mono H2 (by omega))
    · have hr' : (repC _ u).1 ≠ 0 := ne_of_beq_false hr
      rw [repC_no hr']
      exact fin2 _ _ _ _ (KI_mono H (by omega))
theorem l_keep_CoreKeeps_4 : LoopOK E_keep_CoreKeeps 4 (loopAt (bodyOf Try.f12) 4) L_keep_CoreKeeps_4 := I_keep_CoreKeeps_4 <| by
  intro t2 t13 t22 r0 r1 r2 r3 K hp ho
  obtain ⟨hb, i1, i2, i3, i4, h⟩ := hp
  unfold B_keep_CoreKeeps_4
  unfold o_keep_CoreKeeps_4 at ho ⊢
  refine condP_iff.2 ⟨fun hlt => ?_, fun _ => ho⟩
  have hlt : t22 ≤ 16 := of_decide_eq_true hlt
  have hw : IntKind.wrap .i64 (t22 + 1) = t22 + 1 := i64w (by omega)
  have v1 : (0 : Int) ≤ t22 := by omega
  have v2 : t22 < ((17 : Nat) : Int) := by omega
  rw [hw]
  refine ⟨trivial, fun _ => v1, fun _ => v2, fun _ => v1, fun _ => v2, condP_iff.2 ⟨fun hbad => ?_, fun _ => ⟨⟨hb, i1, i2, by omega, by omega, h⟩, by unfold m_keep_CoreKeeps_4; omega, ho⟩⟩⟩
  by_cases hz : (recC r0 t22).2 = 0
  · obtain ⟨e1, e2, e3, e4⟩ := KI_books h i3 hlt hz
    have e1 : IntKind.wrap .i64 (IntKind.wrap .i64 ((recC r0 t22).1.1 + (recC r0 t22).1.2.1) + (recC r0 t22).1.2.2.1) = r1.getD t22.toNat 0 := e1
    rw [e1, hz, decide_eq_false (by omega), decide_eq_false (by omega), e2] at hbad
    simp at hbad
  · rw [show ((recC r0 t22).2 == 0) = false from beq_false_of_ne hz] at hbad
    simp at hbad
theorem ok_keep_CoreKeeps : SumOK Try.prog 12 S_keep_CoreKeeps := by
  refine whole_keep_CoreKeeps ok_core_New ok_core_Core_Join ok_core_Core_Attach ok_core_Core_Lend ok_core_Core_Report ok_core_Core_Record ok_core_Core_Leave l_keep_CoreKeeps_0 l_keep_CoreKeeps_2 l_keep_CoreKeeps_4 ?_
  intro a0 a1 a2 hp
  unfold W_keep_CoreKeeps newC
  simp only [condP_iff]
  by_cases h : 1 ≤ a0 ∧ a0 ≤ 1000000
  · rw [if_pos h]
    exact ⟨trivial, fun h => (by simp at h), fun _ => ⟨⟨hp, Int.le_refl _, by omega, by omega, _, rfl, KI0_start h⟩, fun c q ch H => ⟨⟨hp, Int.le_refl _, by omega, _, rfl, KI_start H⟩, trivial, trivial⟩⟩⟩
  · rw [if_neg h]
    exact ⟨trivial, fun _ => ⟨rfl, trivial⟩, fun h => (by simp at h)⟩
theorem pre_keep_CoreKeeps (x : dens S_keep_CoreKeeps.par) (h : wfs S_keep_CoreKeeps.par x) : S_keep_CoreKeeps.pre x := by
  obtain ⟨a0, a1, a2, ⟨⟩⟩ := x
  obtain ⟨_, _, ⟨h1, h2, h3⟩, _⟩ := h
  exact h3
end Go.Spec
