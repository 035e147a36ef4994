/- The law of what is picked. -/
import Derived.Test.YtppemehkbnbjlaaV8
import Derived.Test.YtppemehkbnbjlaaP10
import Derived.Test.YtppemehkbnbjlaaLF
set_option linter.unusedVariables false
set_option linter.unusedSimpArgs false
namespace Go.Spec
open Go Go.Lift Go.Proofs
attribute [local irreducible] Go.Lift.awp Go.Lift.LoopOK Go.Lift.SumOK
theorem l_law_MatchPicks_0 : LoopOK E_law_MatchPicks 0 (loopAt (bodyOf Try.f3) 0) L_law_MatchPicks_0 := I_law_MatchPicks_0 <| by
  intro t0 t3 t17 r0 r1 K hp ho
  obtain ⟨rfl, h2, h3, h4, h5, h6⟩ := hp
  obtain ⟨n, rfl⟩ := Int.eq_ofNat_of_zero_le h3
  unfold B_law_MatchPicks_0
  unfold o_law_MatchPicks_0 at ho ⊢
  refine condP_iff.2 ⟨fun hlt => ?_, fun _ => ho⟩
  have hlt : (n : Int) < t3 := of_decide_eq_true hlt
  have hn : n < r1.length := by omega
  have e : (r1.map fun p => t0.getD p.toNat 0).getD n 0 = t0.getD (r1.getD n 0).toNat 0 := by
    rw [List.getD_eq_getElem?_getD, List.getElem?_map, List.getElem?_eq_getElem hn, List.getD_eq_getElem?_getD (l := r1), List.getElem?_eq_getElem hn]; rfl
  have hr := h6 _ (getD_mem hn)
  rw [i64w (n := (n : Int) + 1) (by omega)]
  simp only [Int.toNat_natCast, e]
  exact ⟨h3, by simp; omega, h3, by omega, hr.1, hr.2, condP_iff.2 ⟨fun hx => absurd hx (by simp), fun _ => ⟨⟨rfl, h2, by omega, by omega, h5, h6⟩, by unfold m_law_MatchPicks_0; omega, ho⟩⟩⟩
theorem picks_tail {a0 : List Int} {a2 a3 : Int} (hp : (a0.length : Int) ≤ big ∧ ∀ y, y ∈ a0 → 0 ≤ y) : (((↑(List.length a0) : Int) ≤ big ∧ ∀ (y : Int), y ∈ a0 → (0 : Int) ≤ y) ∧
          ((↑(List.length a0) : Int) ≤ big) ∧
          (((bitsErr a0 == (0 : Int)) == true && ((↑(List.length a0) : Int) == (0 : Int)) == false) = true → True) ∧
          condP (if (bitsErr a0 == (0 : Int)) = true then if (if (if ((↑(List.length a0) : Int) == (0 : Int)) = true then true else !versionB a2) = true then true else decide (a3 < (0 : Int))) = true then true else decide (a3 > (4096 : Int)) else false)
            (condP ((1 : Int) != (0 : Int))
              (((if (pickErr a0 a2 a3 == (1 : Int)) = true then (↑(List.length (pickOf a0 a2 a3)) : Int) == (0 : Int) else false) = true) ∧
              True)
              (((1 : Int) ≤ (↑(List.length a0) : Int) ∧ (↑(List.length a0) : Int) ≤ (4096 : Int) ∧ (0 : Int) ≤ a2 ∧ a2 ≤ (3 : Int) ∧ (0 : Int) ≤ a3 ∧ a3 ≤ (4096 : Int)) ∧
              condP (if (pickErr a0 a2 a3 != (0 : Int)) = true then true else (↑(List.length (pickOf a0 a2 a3)) : Int) != a3)
                ((false = true) ∧
                True)
                ((p_law_MatchPicks_0 a0 a3 (0 : Int) (pickOf a0 a2 a3) (pickedL (↑(List.length a0) : Int) (Prod.fst (beginOf (↑(List.length a0) : Int) a2)) (Int.toNat a3))) ∧
                (true = true) ∧
                True)))
            (condP (bitsErr a0 != (0 : Int))
              (((if (pickErr a0 a2 a3 == bitsErr a0) = true then (↑(List.length (pickOf a0 a2 a3)) : Int) == (0 : Int) else false) = true) ∧
              True)
              (((1 : Int) ≤ (↑(List.length a0) : Int) ∧ (↑(List.length a0) : Int) ≤ (4096 : Int) ∧ (0 : Int) ≤ a2 ∧ a2 ≤ (3 : Int) ∧ (0 : Int) ≤ a3 ∧ a3 ≤ (4096 : Int)) ∧
              condP (if (pickErr a0 a2 a3 != (0 : Int)) = true then true else (↑(List.length (pickOf a0 a2 a3)) : Int) != a3)
                ((false = true) ∧
                True)
                ((p_law_MatchPicks_0 a0 a3 (0 : Int) (pickOf a0 a2 a3) (pickedL (↑(List.length a0) : Int) (Prod.fst (beginOf (↑(List.length a0) : Int) a2)) (Int.toNat a3))) ∧
                (true = true) ∧
                True)))) := by
  refine ⟨hp, hp.1, fun _ => trivial, condP_iff.2 ⟨fun hc => ?_, fun hc => ?_⟩⟩
  · refine condP_iff.2 ⟨fun _ => ⟨?_, trivial⟩, fun h => absurd h (by decide)⟩
    have hb : bitsErr a0 = 0 := by
      by_cases hb : bitsErr a0 = 0
      · exact hb
      · simp [hb] at hc
    have hbad : (beginOf a0.length a2).2 ≠ 0 ∨ a3 < 0 ∨ 4096 < a3 := by
      by_cases h1 : (beginOf a0.length a2).2 = 0
      · obtain ⟨b1, b2, b3, b4⟩ := begin_zero.1 h1
        have hv : versionB a2 = true := by unfold versionB; simp; omega
        have hl : ((a0.length : Int) == 0) = false := by simp; intro h; simp [h] at b1
        rw [hb, hv, hl] at hc
        by_cases h2 : a3 < 0
        · exact .inr (.inl h2)
        · simp [h2] at hc; exact .inr (.inr (by omega))
      · exact .inl h1
    have e : pickErr a0 a2 a3 = 1 := by unfold pickErr; rw [if_neg (by simpa using hb), if_pos hbad]
    have e2 : pickOf a0 a2 a3 = [] := by unfold pickOf; rw [e, if_neg (by decide)]
    rw [e, e2]; rfl
  · refine condP_iff.2 ⟨fun hb => ?_, fun hb => ?_⟩
    · have hb : bitsErr a0 ≠ 0 := by simpa using hb
      have e : pickErr a0 a2 a3 = bitsErr a0 := by unfold pickErr; rw [if_pos hb]
      have e2 : pickOf a0 a2 a3 = [] := by unfold pickOf; rw [e, if_neg hb]
      rw [e, e2]; simp
    · have hb : bitsErr a0 = 0 := by simpa using hb
      have h4096 := (bitsErr_ok hb).2
      have hr : 1 ≤ (a0.length : Int) ∧ 0 ≤ a2 ∧ a2 ≤ 3 ∧ 0 ≤ a3 ∧ a3 ≤ 4096 := by
        rw [hb] at hc
        by_cases hl : (a0.length : Int) = 0
        · simp [hl] at hc
        · have hl' : ((a0.length : Int) == 0) = false := by simpa using hl
          rw [hl'] at hc
          cases hv : versionB a2 with
          | false => simp [hv] at hc
          | true =>
            rw [hv] at hc
            have hv : 0 ≤ a2 ∧ a2 ≤ 3 := by simpa [versionB] using hv
            by_cases h2 : a3 < 0
            · simp [h2] at hc
            · simp [h2] at hc; omega
      obtain ⟨r1, r2, r3, r4, r5⟩ := hr
      obtain ⟨g0, g1, g2, g3⟩ := begin_eq (n := (a0.length : Int)) (v := a2) ⟨r1, by omega, r2, r3⟩
      have e : pickErr a0 a2 a3 = 0 := by unfold pickErr; rw [if_neg (by simpa using hb), if_neg (by omega)]
      have e2 : pickOf a0 a2 a3 = pickL a0 (beginOf a0.length a2).1 a3.toNat := by unfold pickOf; rw [e, if_pos rfl]
      rw [e, e2, pick_length]
      refine ⟨⟨r1, by omega, r2, r3, r4, r5⟩, condP_iff.2 ⟨fun hx => ?_, fun _ => ⟨⟨rfl, by rw [picked_length]; omega, Int.le_refl _, r4, r5, fun x hx => ?_⟩, rfl, trivial⟩⟩⟩
      · have : ((a3.toNat : Int) != a3) = false := by simp; omega
        rw [this] at hx; simp at hx
      · obtain ⟨i, hi, rfl⟩ := List.getElem_of_mem hx
        rw [picked_length] at hi
        have := picked_range (n := (a0.length : Int)) (a := (beginOf a0.length a2).1) (by omega) hi
        rw [List.getD_eq_getElem?_getD, List.getElem?_eq_getElem (by rw [picked_length]; exact hi), Option.getD_some] at this
        exact this
theorem picks_mid {a0 : List Int} {a1 a2 a3 : Int} (hp : (a0.length : Int) ≤ big ∧ ∀ y, y ∈ a0 → 0 ≤ y) : ((True) ∧
      ((if decide (a1 < (1 : Int)) = true then true else decide (a1 > (4096 : Int))) = false → True) ∧
      condP (if (if decide (a1 < (1 : Int)) = true then true else decide (a1 > (4096 : Int))) = true then true else !versionB a2)
        (condP (if (Prod.snd (beginOf a1 a2) != (1 : Int)) = true then true else Prod.fst (beginOf a1 a2) != (0 : Int))
          ((false = true) ∧
          True)
          (((↑(List.length a0) : Int) ≤ big ∧ ∀ (y : Int), y ∈ a0 → (0 : Int) ≤ y) ∧
          ((↑(List.length a0) : Int) ≤ big) ∧
          (((bitsErr a0 == (0 : Int)) == true && ((↑(List.length a0) : Int) == (0 : Int)) == false) = true → True) ∧
          condP (if (bitsErr a0 == (0 : Int)) = true then if (if (if ((↑(List.length a0) : Int) == (0 : Int)) = true then true else !versionB a2) = true then true else decide (a3 < (0 : Int))) = true then true else decide (a3 > (4096 : Int)) else false)
            (condP ((1 : Int) != (0 : Int))
              (((if (pickErr a0 a2 a3 == (1 : Int)) = true then (↑(List.length (pickOf a0 a2 a3)) : Int) == (0 : Int) else false) = true) ∧
              True)
              (((1 : Int) ≤ (↑(List.length a0) : Int) ∧ (↑(List.length a0) : Int) ≤ (4096 : Int) ∧ (0 : Int) ≤ a2 ∧ a2 ≤ (3 : Int) ∧ (0 : Int) ≤ a3 ∧ a3 ≤ (4096 : Int)) ∧
              condP (if (pickErr a0 a2 a3 != (0 : Int)) = true then true else (↑(List.length (pickOf a0 a2 a3)) : Int) != a3)
                ((false = true) ∧
                True)
                ((p_law_MatchPicks_0 a0 a3 (0 : Int) (pickOf a0 a2 a3) (pickedL (↑(List.length a0) : Int) (Prod.fst (beginOf (↑(List.length a0) : Int) a2)) (Int.toNat a3))) ∧
                (true = true) ∧
                True)))
            (condP (bitsErr a0 != (0 : Int))
              (((if (pickErr a0 a2 a3 == bitsErr a0) = true then (↑(List.length (pickOf a0 a2 a3)) : Int) == (0 : Int) else false) = true) ∧
              True)
              (((1 : Int) ≤ (↑(List.length a0) : Int) ∧ (↑(List.length a0) : Int) ≤ (4096 : Int) ∧ (0 : Int) ≤ a2 ∧ a2 ≤ (3 : Int) ∧ (0 : Int) ≤ a3 ∧ a3 ≤ (4096 : Int)) ∧
              condP (if (pickErr a0 a2 a3 != (0 : Int)) = true then true else (↑(List.length (pickOf a0 a2 a3)) : Int) != a3)
                ((false = true) ∧
                True)
                ((p_law_MatchPicks_0 a0 a3 (0 : Int) (pickOf a0 a2 a3) (pickedL (↑(List.length a0) : Int) (Prod.fst (beginOf (↑(List.length a0) : Int) a2)) (Int.toNat a3))) ∧
                (true = true) ∧
                True)))))
        (((Prod.snd (beginOf a1 a2) != (0 : Int)) = false → (4 : Int) ≠ (0 : Int)) ∧
        condP (if (Prod.snd (beginOf a1 a2) != (0 : Int)) = true then true else Prod.fst (beginOf a1 a2) != IntKind.wrap IntKind.i64 (Int.tdiv (IntKind.wrap IntKind.i64 (a2 * a1)) (4 : Int)))
          ((false = true) ∧
          True)
          (((↑(List.length a0) : Int) ≤ big ∧ ∀ (y : Int), y ∈ a0 → (0 : Int) ≤ y) ∧
          ((↑(List.length a0) : Int) ≤ big) ∧
          (((bitsErr a0 == (0 : Int)) == true && ((↑(List.length a0) : Int) == (0 : Int)) == false) = true → True) ∧
          condP (if (bitsErr a0 == (0 : Int)) = true then if (if (if ((↑(List.length a0) : Int) == (0 : Int)) = true then true else !versionB a2) = true then true else decide (a3 < (0 : Int))) = true then true else decide (a3 > (4096 : Int)) else false)
            (condP ((1 : Int) != (0 : Int))
              (((if (pickErr a0 a2 a3 == (1 : Int)) = true then (↑(List.length (pickOf a0 a2 a3)) : Int) == (0 : Int) else false) = true) ∧
              True)
              (((1 : Int) ≤ (↑(List.length a0) : Int) ∧ (↑(List.length a0) : Int) ≤ (4096 : Int) ∧ (0 : Int) ≤ a2 ∧ a2 ≤ (3 : Int) ∧ (0 : Int) ≤ a3 ∧ a3 ≤ (4096 : Int)) ∧
              condP (if (pickErr a0 a2 a3 != (0 : Int)) = true then true else (↑(List.length (pickOf a0 a2 a3)) : Int) != a3)
                ((false = true) ∧
                True)
                ((p_law_MatchPicks_0 a0 a3 (0 : Int) (pickOf a0 a2 a3) (pickedL (↑(List.length a0) : Int) (Prod.fst (beginOf (↑(List.length a0) : Int) a2)) (Int.toNat a3))) ∧
                (true = true) ∧
                True)))
            (condP (bitsErr a0 != (0 : Int))
              (((if (pickErr a0 a2 a3 == bitsErr a0) = true then (↑(List.length (pickOf a0 a2 a3)) : Int) == (0 : Int) else false) = true) ∧
              True)
              (((1 : Int) ≤ (↑(List.length a0) : Int) ∧ (↑(List.length a0) : Int) ≤ (4096 : Int) ∧ (0 : Int) ≤ a2 ∧ a2 ≤ (3 : Int) ∧ (0 : Int) ≤ a3 ∧ a3 ≤ (4096 : Int)) ∧
              condP (if (pickErr a0 a2 a3 != (0 : Int)) = true then true else (↑(List.length (pickOf a0 a2 a3)) : Int) != a3)
                ((false = true) ∧
                True)
                ((p_law_MatchPicks_0 a0 a3 (0 : Int) (pickOf a0 a2 a3) (pickedL (↑(List.length a0) : Int) (Prod.fst (beginOf (↑(List.length a0) : Int) a2)) (Int.toNat a3))) ∧
                (true = true) ∧
                True)))))) := by
  refine ⟨trivial, fun _ => trivial, condP_iff.2 ⟨fun hc => ?_, fun hc => ?_⟩⟩
  · have hn : ¬ (1 ≤ a1 ∧ a1 ≤ 4096 ∧ 0 ≤ a2 ∧ a2 ≤ 3) := fun h => by
      have hv : versionB a2 = true := by unfold versionB; simp; omega
      have e : (if decide (a1 < 1) = true then true else decide (a1 > 4096)) = false := by simp; omega
      rw [e, hv] at hc; simp at hc
    have e : beginOf a1 a2 = (0, 1) := by unfold beginOf; rw [if_neg hn]
    rw [e]
    exact condP_iff.2 ⟨fun hx => absurd hx (by decide), fun _ => picks_tail hp⟩
  · have hn : 1 ≤ a1 ∧ a1 ≤ 4096 ∧ 0 ≤ a2 ∧ a2 ≤ 3 := by
      by_cases h : 1 ≤ a1 ∧ a1 ≤ 4096
      · have e : (if decide (a1 < 1) = true then true else decide (a1 > 4096)) = false := by simp; omega
        rw [e] at hc
        cases hv : versionB a2 with
        | false => simp [hv] at hc
        | true => have : 0 ≤ a2 ∧ a2 ≤ 3 := by simpa [versionB] using hv
                  omega
      · have e : (if decide (a1 < 1) = true then true else decide (a1 > 4096)) = true := by simp; omega
        rw [e] at hc; simp at hc
    obtain ⟨g0, g1, g2, g3⟩ := begin_eq hn
    rw [g0, Int.mul_comm a2 a1, g3]
    exact ⟨fun _ => by decide, condP_iff.2 ⟨fun hx => absurd hx (by simp), fun _ => picks_tail hp⟩⟩
theorem ok_law_MatchPicks : SumOK Try.prog 3 S_law_MatchPicks := by
  refine whole_law_MatchPicks ok_match_Order ok_R_Order ok_R_SameInts ok_match_Begin ok_R_Version ok_match_Pick ok_R_Bits ok_R_Picked l_law_MatchPicks_0 ?_
  intro a0 a1 a2 a3 hp
  unfold W_law_MatchPicks
  by_cases h : 0 ≤ a1 ∧ a1 ≤ 4096
  · have e : (if decide (a1 < 0) = true then true else decide (a1 > 4096)) = false := by simp; omega
    have e1 : orderErr a1 = 0 := by unfold orderErr; rw [if_pos h]
    have e2 : orderOf a1 = turnL a1 := by unfold orderOf; rw [if_pos h]
    rw [e, e1, e2]
    refine ⟨trivial, condP_iff.2 ⟨fun hx => (by cases hx), fun _ => ⟨fun _ => by omega, fun _ => by rw [turnL_length h.1, big_val]; omega, condP_iff.2 ⟨fun hx => absurd hx (by simp), fun _ => picks_mid hp⟩⟩⟩⟩
  · have e : (if decide (a1 < 0) = true then true else decide (a1 > 4096)) = true := by simp; omega
    have e1 : orderErr a1 = 1 := by unfold orderErr; rw [if_neg h]
    have e2 : orderOf a1 = [] := by unfold orderOf; rw [if_neg h]
    rw [e, e1, e2]
    exact ⟨trivial, condP_iff.2 ⟨fun _ => condP_iff.2 ⟨fun hx => absurd hx (by decide), fun _ => picks_mid hp⟩, fun hx => (by cases hx)⟩⟩
theorem wfd_u8 {x : Int} (h : (Ty.int .u8).wfd x) : 0 ≤ x ∧ x ≤ 255 := by
  have h : (Lit.int .u8 x).wf = true := h
  simp [Lit.wf, IntKind.min, IntKind.max, IntKind.signed, IntKind.bits] at h
  omega
theorem pre_law_MatchPicks (x : dens S_law_MatchPicks.par) (h : wfs S_law_MatchPicks.par x) : S_law_MatchPicks.pre x := by
  obtain ⟨a0, a1, a2, a3, ⟨⟩⟩ := x
  obtain ⟨⟨h1, h2, h3⟩, _⟩ := h
  have h1 : (List.length a0 : Int) ≤ 140737488351232 := h1
  refine ⟨?_, fun y hy => (wfd_u8 (h2 y hy)).1⟩
  rw [big_val]; show (List.length a0 : Int) ≤ _; omega
end Go.Spec
