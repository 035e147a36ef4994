/- Each place is picked once, what is heard bears its sign, and the order of adding makes no difference: the law MatchAll holds of every input (no condition). -/
import Derived.Test.YtppemehkbnbjlaaRows
import Derived.Test.YtppemehkbnbjlaaP15
import Derived.Test.YtppemehkbnbjlaaLF
import Derived.WalkKit
import Derived.ProofKit
import Derived.OpenShut
import Derived.ShutString
import Derived.ChangeOld
import Derived.Below
import Derived.SizedLaws
set_option linter.unusedVariables false
set_option linter.unusedSimpArgs false
namespace Go.Proofs.Ytppemehkbnbjlaa.matchAll
open Go Go.ChangeShapes Go.WideShapes Go.ChangeAt Go.RowKit Go.Lift
theorem own : ownKnob Try.prog.godebug = none := by kernel_rfl
theorem laidOut : laidOutB Try.prog = true := by kernel_rfl
set_option maxRecDepth 100000 in
theorem lifted (os : Os) (started : os.Started) (H : Type) (enc : TypeId × Value → H) :
    ReturnsInHanded {} Try.checked os 5 .any (Rows.matchAllSpec.pre6 enc Try.prog Try.f5 Rows.matchAllRow.domain false) (Rows.matchAllSpec.post enc Try.prog Try.f5 false true false false) := by
  refine returnsInHanded_of_change_sized (C := Try.checked) own started (by kernel_rfl) Try.func5
    (ChangeSpec.witness6 (enc := enc) (C := Try.checked) false ⟨#[], #[.slice none 0 0, .slice none 0 0, .slice none 0 0], []⟩ 8 (by kernel_rfl) (by kernel_rfl) (by kernel_rfl) (by kernel_rfl)) ?_
  intro W base args ds gs before hval0 hW hcnd hsz0 _
  have hW' := hW
  obtain ⟨p, q, hA0, hV, rfl, hfz, hnd⟩ := hW
  obtain ⟨rfl, rfl⟩ := trodVars_none hV
  have hw : ∀ m ∈ DataW.weightsEach Try.prog Try.f5.params.toList ds, m ≤ reachBytes := by
    intro m hm
    have hz := List.all_eq_true.1 hsz0 m (by
      show m ∈ DataW.weightsEach Try.prog (Try.f5.params.toList ++ []) (ds ++ [])
      rw [List.append_nil, List.append_nil]; exact hm)
    exact of_decide_eq_true hz
  have hc := law_calls Go.Spec.ok_keep_MatchAll rfl (fun _ => rfl) (enc := enc) (W := W) (ts := Try.f5.params.toList) (vs := args.toList) (by kernel_rfl) hA0 (fun j t v h1 h2 => hval0 j t v (by simpa using h1) (by simpa using h2)) hw (Go.Spec.pre_keep_MatchAll)
  rw [Array.toArray_toList] at hc
  refine hc.mono fun e W' ⟨he, bel⟩ => ?_
  subst he
  have hA := hA0
  rw [Try.params5] at hA
  obtain ⟨v0, vs0, d0, ds0, p0, q0, hargs, rfl, rfl, h0, r0⟩ := trodAll_cons hA
  obtain ⟨v1, vs1, d1, ds1, p1, q1, rfl, rfl, rfl, h1, r1⟩ := trodAll_cons r0
  obtain ⟨v2, vs2, d2, ds2, p2, q2, rfl, rfl, rfl, h2, r2⟩ := trodAll_cons r1
  obtain ⟨rfl, rfl, rfl⟩ := trodAll_nil r2
  exact ⟨_, rfl, _, _, _, [], _, [], hW', trodAll_mk1 (shut_bool Try.underlying4 _), args_stay laidOut bel Go.Spec.S_keep_MatchAll.par _ _ _ _ (by kernel_rfl) hA0, rfl, bel.frame _, fun h => by cases h⟩
theorem over : Rows.matchAllRow.holds Try.pinned (OpenSpec.ofChange Rows.matchAllSpec) :=
  OpenClaim.holds_of_wide 5 Try.f5 rfl rfl rfl rfl rfl rfl rfl ⟨rfl, rfl, rfl, rfl, rfl⟩ rfl rfl rfl rfl rfl (by kernel_rfl) Try.func5 (by kernel_rfl)
    (of_decide_eq_true (by kernel_rfl)) (by unfold Func.isWrapper; first | (rw [if_pos (by decide +kernel)]; kernel_rfl) | (rw [if_neg (by decide +kernel)]; exact ⟨rfl, rfl⟩))
    (fun os started H enc _ => lifted os started H enc)
theorem proved : Rows.MatchAllSaid := over
end Go.Proofs.Ytppemehkbnbjlaa.matchAll
namespace Go.Proofs.Ytppemehkbnbjlaa
/-- The row, under a short name, for the claim. -/
theorem matchAll_holds : Rows.MatchAllSaid := matchAll.proved
end Go.Proofs.Ytppemehkbnbjlaa
