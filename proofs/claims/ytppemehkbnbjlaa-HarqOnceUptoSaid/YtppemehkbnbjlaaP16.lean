/- The receiver of blocks answers as told. -/
import Derived.Test.YtppemehkbnbjlaaV10
import Derived.Test.YtppemehkbnbjlaaP2
set_option linter.unusedVariables false
set_option linter.unusedSimpArgs false
namespace Go.Spec
open Go Go.Lift Go.Proofs
attribute [local irreducible] Go.Lift.awp Go.Lift.LoopOK Go.Lift.SumOK
theorem ok_harq_NewReceiver : SumOK Try.prog 53 S_harq_NewReceiver := by
  refine whole_harq_NewReceiver ?_
  intro _
  exact ⟨rfl, trivial⟩
theorem shot_cond (p v : Int) (f : Bool) (d : ByteArray) : (if (if (if decide (p < 0) = true then true else decide (p > 7)) = true then true else decide (v < 0)) = true then true else decide (v > 3)) = badShot (p, v, f, d, ()) := by
  unfold badShot
  by_cases h1 : p < 0 <;> by_cases h2 : p > 7 <;> by_cases h3 : v < 0 <;> simp [h1, h2, h3]
theorem shot_ok {x : Shot} (h : badShot x = false) : 0 ≤ x.1 ∧ x.1 < 8 := by
  simp only [badShot, Bool.or_eq_false_iff, decide_eq_false_iff_not] at h
  omega
theorem takeOf_ok {v : Bool} {r : Flags} {x : Shot} {h : Bool} (hb : badShot x = false) (hs : ¬ (x.2.2.2.1.size : Int) > 1500) : takeOf v r x h =
    (if (takeTurn v r x).2.1.getD x.1.toNat false = !v then ((⟨#[]⟩, false, true, 0), takeTurn v r x)
    else if h then ((x.2.2.2.1, true, true, 0), ((takeTurn v r x).1, (takeTurn v r x).2.1.set x.1.toNat (!v), ()))
    else ((⟨#[]⟩, false, false, 0), takeTurn v r x)) := by
  unfold takeOf
  rw [hb, if_neg (by simp), if_neg hs]
theorem takeOf_bad {v : Bool} {r : Flags} {x : Shot} {h : Bool} (hb : badShot x = true) : takeOf v r x h = ((⟨#[]⟩, false, false, 1), r) := by
  unfold takeOf
  rw [if_pos hb]
theorem takeOf_long {v : Bool} {r : Flags} {x : Shot} {h : Bool} (hb : badShot x = false) (hs : (x.2.2.2.1.size : Int) > 1500) : takeOf v r x h = ((⟨#[]⟩, false, false, 2), r) := by
  unfold takeOf
  rw [hb, if_neg (by simp), if_pos hs]
theorem ok_harq_Receiver_Take : SumOK Try.prog 54 S_harq_Receiver_Take := by
  refine whole_harq_Receiver_Take ?_
  rintro ⟨fl, op, ⟨⟩⟩ ⟨p, v, f, d, ⟨⟩⟩ h _
  unfold W_harq_Receiver_Take
  simp only [imp_self, true_and, and_true, shot_cond p v f d]
  cases hb : badShot (p, v, f, d, ())
  · have hk := shot_ok hb
    by_cases hs : (d.size : Int) > 1500
    · simp [takeOf_long hb hs, condP_iff]
      omega
    · simp only [takeOf_ok hb hs, condP_f, condP_iff, decide_eq_true_eq, decide_eq_false_iff_not, bne_iff_ne, ne_eq, bne_eq_false_iff_eq]
      refine ⟨fun h => (hs h).elim, fun _ => ⟨hk.1, hk.2, fun hf => ⟨hk.1, hk.2, hk.1, hk.2, hk.1, hk.2, fun h1 => ?_, fun h1 => ⟨fun h2 => ?_, fun h2 => ?_⟩⟩, fun hf => ⟨hk.1, hk.2, fun h1 => ?_, fun h1 => ⟨fun h2 => ?_, fun h2 => ?_⟩⟩⟩⟩
      all_goals simp_all [takeTurn]
  · simp [condP_iff, takeOf_bad hb]
end Go.Spec
