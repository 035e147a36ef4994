/- The law of all that is matched. -/
import Derived.Test.YtppemehkbnbjlaaP13
import Derived.Test.YtppemehkbnbjlaaLF
set_option linter.unusedVariables false
set_option linter.unusedSimpArgs false
namespace Go.Spec
open Go Go.Lift Go.Proofs
attribute [local irreducible] Go.Lift.awp Go.Lift.LoopOK Go.Lift.SumOK
theorem putE_len : ∀ (es : List (Int × Int)) (x y : Int), getE es x = none → (putE es x y).length = es.length + 1
  | [], _, _, _ => rfl
  | e :: es, x, y, h => by
    by_cases he : e.1 = x
    · simp [getE, he] at h
    · simp only [getE, if_neg he] at h
      simp only [putE, if_neg he, List.length_cons, putE_len es x y h]
theorem l_keep_MatchAll_0 : LoopOK E_keep_MatchAll 0 (loopAt (bodyOf Try.f5) 0) L_keep_MatchAll_0 := I_keep_MatchAll_0 <| by
  intro t1 t2 t8 t10 r0 r1 r2 K hp ho
  obtain ⟨h1, h2, h3, h4, es, rfl, h5, h6⟩ := hp
  obtain ⟨n, rfl⟩ := Int.eq_ofNat_of_zero_le h3
  unfold B_keep_MatchAll_0
  unfold o_keep_MatchAll_0 at ho ⊢
  refine condP_iff.2 ⟨fun hlt => ?_, fun hge => ?_⟩
  · have hlt : (n : Int) < (r1.length : Int) := of_decide_eq_true hlt
    have hn : n < r1.length := by omega
    have ew : IntKind.wrap .i64 ((n : Int) + 1) = ((n + 1 : Nat) : Int) := by rw [i64w (by omega)]; omega
    rw [ew]
    simp only [Int.toNat_natCast] at h6 ⊢
    have hx : r1.getD n 0 = r1[n] := by rw [List.getD_eq_getElem?_getD, List.getElem?_eq_getElem hn]; rfl
    have hnot : getE es (r1.getD n 0) = none := by
      cases he : getE es (r1.getD n 0) with
      | none => rfl
      | some v =>
        exfalso
        have hm := h6 _ (by rw [he]; rfl)
        rw [hx] at hm
        obtain ⟨i, hi, he⟩ := List.mem_iff_getElem.1 hm
        rw [List.getElem_take] at he
        rw [List.length_take] at hi
        have := (List.getElem_inj h1).1 he
        omega
    have hgoal : ∀ v : Int, p_keep_MatchAll_0 t1 t2 t8 ((n + 1 : Nat) : Int) r0 r1 (putO (some es) (r1.getD n 0) v) := fun v => by
      refine ⟨h1, h2, by omega, by omega, putE es (r1.getD n 0) v, rfl, by rw [putE_len es _ _ hnot]; omega, fun k hk => ?_⟩
      rw [getE_putE] at hk
      rw [Int.toNat_natCast, List.take_add_one, List.mem_append]
      by_cases hkk : r1.getD n 0 = k
      · right
        rw [← hkk, hx, List.getElem?_eq_getElem hn]; simp
      · rw [if_neg hkk] at hk
        exact .inl (h6 k hk)
    exact ⟨h3, hlt, rfl, hgoal _, by unfold m_keep_MatchAll_0; omega, ho⟩
  · have hge : ¬ (n : Int) < (r1.length : Int) := of_decide_eq_false hge
    exact ho es (by omega)
theorem l_keep_MatchAll_6 : LoopOK E_keep_MatchAll 6 (loopAt (bodyOf Try.f5) 6) L_keep_MatchAll_6 := I_keep_MatchAll_6 <| by
  intro t25 r0 r1 K hp ho
  obtain ⟨h1, h2, h3, h4, h5⟩ := hp
  obtain ⟨n, rfl⟩ := Int.eq_ofNat_of_zero_le h3
  unfold B_keep_MatchAll_6
  unfold o_keep_MatchAll_6 at ho ⊢
  refine condP_iff.2 ⟨fun hlt => ?_, fun _ => ho⟩
  have hlt : (n : Int) < (r1.length : Int) := of_decide_eq_true hlt
  have hlt0 : (n : Int) < (r0.length : Int) := by omega
  obtain ⟨s1, s2⟩ := h5 n (by omega)
  rw [i64w (n := (n : Int) + 1) (by omega)]
  simp only [Int.toNat_natCast]
  refine ⟨h3, hlt, fun _ => h3, fun _ => hlt0, fun _ => h3, fun _ => hlt, fun _ => h3, fun _ => hlt0, condP_iff.2 ⟨fun hbad => ?_, fun _ => ⟨⟨h1, h2, by omega, by omega, h5⟩, by unfold m_keep_MatchAll_6; omega, ho⟩⟩⟩
  exfalso
  by_cases hy : r0.getD n 0 = 1
  · have hx : ¬ r1.getD n 0 > 0 := by have := s1 hy; omega
    rw [decide_eq_false hx, hy] at hbad
    simp at hbad
  · by_cases hy0 : r0.getD n 0 = 0
    · have hx : ¬ r1.getD n 0 < 0 := by have := s2 hy0; omega
      rw [decide_eq_false hx, hy0] at hbad
      simp at hbad
    · have b1 : (r0.getD n 0 == 1) = false := by simpa using hy
      have b0 : (r0.getD n 0 == 0) = false := by simpa using hy0
      rw [b1, b0] at hbad
      simp at hbad
end Go.Spec
