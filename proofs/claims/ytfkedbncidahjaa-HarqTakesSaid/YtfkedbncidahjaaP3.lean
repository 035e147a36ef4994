/- The functions answer as told: the receiver of blocks. -/
import Derived.Test.YtfkedbncidahjaaP2
set_option linter.unusedVariables false
set_option linter.unusedSimpArgs false
namespace Go.Spec
open Go Go.Lift Go.Proofs
attribute [local irreducible] Go.Lift.awp Go.Lift.LoopOK Go.Lift.SumOK
theorem ok_harq_NewReceiver : SumOK Try.prog 16 S_harq_NewReceiver := by
  refine whole_harq_NewReceiver ?_
  intro _
  exact ⟨rfl, trivial⟩
theorem l_R_NewTakes_0 : LoopOK E_R_NewTakes 0 (loopAt (bodyOf Try.f17) 0) L_R_NewTakes_0 := I_R_NewTakes_0 <| by
  intro t2 r0 K hp ho
  obtain ⟨h1, h2, h3⟩ := hp
  obtain ⟨n, rfl⟩ := Int.eq_ofNat_of_zero_le h1
  have e : ((n : Int) + 1).toNat = n + 1 := by omega
  unfold B_R_NewTakes_0
  unfold o_R_NewTakes_0 at ho ⊢
  simp only [condP_iff, decide_eq_true_eq, decide_eq_false_iff_not, Int.toNat_natCast] at ho ⊢
  refine ⟨fun hlt => ?_, fun hge => ?_⟩
  · rw [i64w (by omega), e, fill_step (r := r0.2.1) (i := n) (fun _ => true) (by omega)]
    exact ⟨by omega, by omega, ⟨by omega, by omega, by simpa using h3⟩, by unfold m_R_NewTakes_0; omega, ho⟩
  · rw [fill_end _ _ (by omega)] at ho
    exact ho
theorem ok_R_NewTakes : SumOK Try.prog 17 S_R_NewTakes := by
  refine whole_R_NewTakes l_R_NewTakes_0 ?_
  intro _
  exact ⟨⟨by omega, by omega, rfl⟩, rfl, trivial⟩
theorem shot_cond (p v : Int) (f : Bool) (d : ByteArray) : (if (if (if decide (p < 0) = true then true else decide (p > 7)) = true then true else decide (v < 0)) = true then true else decide (v > 3)) = badShot (p, v, f, d, ()) := by
  unfold badShot
  by_cases h1 : p < 0 <;> by_cases h2 : p > 7 <;> by_cases h3 : v < 0 <;> simp [h1, h2, h3]
theorem shot_ok {x : Shot} (h : badShot x = false) : 0 ≤ x.1 ∧ x.1 < 8 := by
  simp only [badShot, Bool.or_eq_false_iff, decide_eq_false_iff_not] at h
  omega
theorem takeOf_ok {v : Bool} {r : Flags} {x : Shot} {h : Bool} (hb : badShot x = false) (hs : ¬ (x.2.2.2.1.size : Int) > 1500) : takeOf v r x h =
    (if (takeTurn v r x).2.1.getD x.1.toNat false = !v then ((⟨#[]⟩, false, true, 0), takeTurn v r x)
    else if h then ((x.2.2.2.1, true, true, 0), ((takeTurn v r x).1, (takeTurn v r x).2.1.set x.1.toNat (!v), ()))
    else ((⟨#[]⟩, false, false, 0), takeTurn v r x)) := by
  unfold takeOf
  rw [hb, if_neg (by simp), if_neg hs]
theorem takeOf_bad {v : Bool} {r : Flags} {x : Shot} {h : Bool} (hb : badShot x = true) : takeOf v r x h = ((⟨#[]⟩, false, false, 1), r) := by
  unfold takeOf
  rw [if_pos hb]
theorem takeOf_long {v : Bool} {r : Flags} {x : Shot} {h : Bool} (hb : badShot x = false) (hs : (x.2.2.2.1.size : Int) > 1500) : takeOf v r x h = ((⟨#[]⟩, false, false, 2), r) := by
  unfold takeOf
  rw [hb, if_neg (by simp), if_pos hs]
theorem ok_harq_Receiver_Take : SumOK Try.prog 18 S_harq_Receiver_Take := by
  refine whole_harq_Receiver_Take ?_
  rintro ⟨fl, op, ⟨⟩⟩ ⟨p, v, f, d, ⟨⟩⟩ h _
  unfold W_harq_Receiver_Take
  simp only [imp_self, true_and, and_true, shot_cond p v f d]
  cases hb : badShot (p, v, f, d, ())
  · have hk := shot_ok hb
    by_cases hs : (d.size : Int) > 1500
    · simp [takeOf_long hb hs, condP_iff]
      omega
    · simp only [takeOf_ok hb hs, condP_f, condP_iff, decide_eq_true_eq, decide_eq_false_iff_not, bne_iff_ne, ne_eq, bne_eq_false_iff_eq]
      refine ⟨fun h => (hs h).elim, fun _ => ⟨hk.1, hk.2, fun hf => ⟨hk.1, hk.2, hk.1, hk.2, hk.1, hk.2, fun h1 => ?_, fun h1 => ⟨fun h2 => ?_, fun h2 => ?_⟩⟩, fun hf => ⟨hk.1, hk.2, fun h1 => ?_, fun h1 => ⟨fun h2 => ?_, fun h2 => ?_⟩⟩⟩⟩
      all_goals simp_all [takeTurn]
  · simp [condP_iff, takeOf_bad hb]
theorem ver_cond (p v : Int) (f : Bool) (d : ByteArray) : (if (if decide (p < 0) = true then true else decide (p > 7)) = true then true else !versionB v) = badShot (p, v, f, d, ()) := by
  unfold badShot versionB
  by_cases h1 : p < 0 <;> by_cases h2 : p > 7 <;> by_cases h3 : v < 0 <;> by_cases h4 : v > 3 <;> simp [h1, h2, h3, h4] <;> omega
theorem ok_R_Takes_Take : SumOK Try.prog 19 S_R_Takes_Take := by
  refine whole_R_Takes_Take ok_R_Version ?_
  rintro ⟨fl, op, ⟨⟩⟩ ⟨p, v, f, d, ⟨⟩⟩ h _
  unfold W_R_Takes_Take
  simp only [imp_self, true_and, and_true, implies_true, ver_cond p v f d]
  cases hb : badShot (p, v, f, d, ())
  · have hk := shot_ok hb
    by_cases hs : (d.size : Int) > 1500
    · simp [takeOf_long hb hs, condP_iff]
      omega
    · simp only [takeOf_ok hb hs, condP_f, condP_iff, decide_eq_true_eq, decide_eq_false_iff_not, bne_iff_ne, ne_eq, bne_eq_false_iff_eq]
      refine ⟨fun h => (hs h).elim, fun _ => ⟨hk.1, hk.2, fun hf => ⟨hk.1, hk.2, hk.1, hk.2, hk.1, hk.2, fun h1 => ?_, fun h1 => ⟨fun h2 => ?_, fun h2 => ?_⟩⟩, fun hf => ⟨hk.1, hk.2, fun h1 => ?_, fun h1 => ⟨fun h2 => ?_, fun h2 => ?_⟩⟩⟩⟩
      all_goals first | (have hf2 : ¬ f = fl.getD p.toNat false := fun e => hf e.symm) | (have hf2 : f = fl.getD p.toNat false := hf.symm)
      all_goals clear hf
      all_goals simp_all [takeTurn]
  · simp [condP_iff, takeOf_bad hb]
theorem l_law_HarqTakes_0 : LoopOK E_law_HarqTakes 0 (loopAt (bodyOf Try.f4) 0) L_law_HarqTakes_0 := I_law_HarqTakes_0 <| by
  intro t0 t5 r0 r1 K hp ho
  obtain ⟨h1, h2, h3, h4, rfl⟩ := hp
  rw [big_val] at h3
  obtain ⟨n, rfl⟩ := Int.eq_ofNat_of_zero_le h1
  unfold B_law_HarqTakes_0
  unfold o_law_HarqTakes_0 at ho ⊢
  simp only [imp_self, true_and, Int.toNat_natCast, take_flip h4, bne_self_eq_false, beq_self_eq_true, Bool.not_true, Bool.false_eq_true, if_false, condP_iff, decide_eq_true_eq, decide_eq_false_iff_not]
  refine ⟨fun hlt => ?_, fun _ => ho⟩
  have e : ((n : Int) + 1).toNat = n + 1 := by omega
  rw [i64w (by omega)]
  have hl := take_length (v := true) (r := r0) (x := ((t0.getD n (0, 0, 0, false, ByteArray.empty, ())).2.1, (t0.getD n (0, 0, 0, false, ByteArray.empty, ())).2.2.1, (t0.getD n (0, 0, 0, false, ByteArray.empty, ())).2.2.2.1, (t0.getD n (0, 0, 0, false, ByteArray.empty, ())).2.2.2.2.1, ())) (heard := (t0.getD n (0, 0, 0, false, ByteArray.empty, ())).1 == 1)
  refine ⟨h1, hlt, h1, hlt, h1, hlt, h1, hlt, h1, hlt, h1, hlt, fun h => (by cases h), fun _ => ⟨⟨by omega, by omega, by rw [big_val]; omega, ?_, rfl⟩, by unfold m_law_HarqTakes_0; omega, ho⟩⟩
  exact hl.trans h4
theorem ok_law_HarqTakes : SumOK Try.prog 4 S_law_HarqTakes := by
  refine whole_law_HarqTakes ok_harq_NewReceiver ok_R_NewTakes ok_harq_Receiver_Take ok_R_Takes_Take l_law_HarqTakes_0 ?_
  intro a0 h
  unfold W_law_HarqTakes
  exact ⟨trivial, trivial, ⟨by omega, by omega, h, rfl, rfl⟩, rfl, trivial⟩
theorem pre_law_HarqTakes (x : dens S_law_HarqTakes.par) (h : wfs S_law_HarqTakes.par x) : S_law_HarqTakes.pre x := by
  obtain ⟨a0, ⟨⟩⟩ := x
  obtain ⟨⟨h1, h2⟩, _⟩ := h
  have h1 : (List.length a0 : Int) ≤ 140737488351232 := h1
  show (List.length a0 : Int) ≤ _
  rw [big_val]; omega
end Go.Spec
