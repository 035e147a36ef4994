/- No place is two users', and what is laid is taken as it was: the law GridOnce holds of every input (no condition). -/
import Derived.Test.YtppemehkbnbjlaaRows
import Derived.Test.YtppemehkbnbjlaaP25
import Derived.Test.YtppemehkbnbjlaaLF
import Derived.WalkKit
import Derived.ProofKit
import Derived.OpenShut
import Derived.ShutString
import Derived.ChangeOld
import Derived.Below
import Derived.SizedLaws
set_option linter.unusedVariables false
set_option linter.unusedSimpArgs false
namespace Go.Proofs.Ytppemehkbnbjlaa.gridOnce
open Go Go.ChangeShapes Go.WideShapes Go.ChangeAt Go.RowKit Go.Lift
theorem own : ownKnob Try.prog.godebug = none := by kernel_rfl
theorem laidOut : laidOutB Try.prog = true := by kernel_rfl
set_option maxRecDepth 100000 in
theorem lifted (os : Os) (started : os.Started) (H : Type) (enc : TypeId × Value → H) :
    ReturnsInHanded {} Try.checked os 7 .any (Rows.gridOnceSpec.pre6 enc Try.prog Try.f7 Rows.gridOnceRow.domain false) (Rows.gridOnceSpec.post enc Try.prog Try.f7 false true false false) := by
  refine returnsInHanded_of_change_sized (C := Try.checked) own started (by kernel_rfl) Try.func7
    (ChangeSpec.witness6 (enc := enc) (C := Try.checked) false ⟨#[], #[.agg #[.int .i64 0, .slice none 0 0], .slice none 0 0], []⟩ 8 (by kernel_rfl) (by kernel_rfl) (by kernel_rfl) (by kernel_rfl)) ?_
  intro W base args ds gs before hval0 hW hcnd hsz0 _
  have hW' := hW
  obtain ⟨p, q, hA0, hV, rfl, hfz, hnd⟩ := hW
  obtain ⟨rfl, rfl⟩ := trodVars_none hV
  have hw : ∀ m ∈ DataW.weightsEach Try.prog Try.f7.params.toList ds, m ≤ reachBytes := by
    intro m hm
    have hz := List.all_eq_true.1 hsz0 m (by
      show m ∈ DataW.weightsEach Try.prog (Try.f7.params.toList ++ []) (ds ++ [])
      rw [List.append_nil, List.append_nil]; exact hm)
    exact of_decide_eq_true hz
  have hc := law_calls Go.Spec.ok_keep_GridOnce rfl (fun _ => rfl) (enc := enc) (W := W) (ts := Try.f7.params.toList) (vs := args.toList) (by kernel_rfl) hA0 (fun j t v h1 h2 => hval0 j t v (by simpa using h1) (by simpa using h2)) hw (Go.Spec.pre_keep_GridOnce)
  rw [Array.toArray_toList] at hc
  refine hc.mono fun e W' ⟨he, bel⟩ => ?_
  subst he
  have hA := hA0
  rw [Try.params7] at hA
  obtain ⟨v0, vs0, d0, ds0, p0, q0, hargs, rfl, rfl, h0, r0⟩ := trodAll_cons hA
  obtain ⟨v1, vs1, d1, ds1, p1, q1, rfl, rfl, rfl, h1, r1⟩ := trodAll_cons r0
  obtain ⟨rfl, rfl, rfl⟩ := trodAll_nil r1
  exact ⟨_, rfl, _, _, _, [], _, [], hW', trodAll_mk1 (shut_bool Try.underlying4 _), args_stay laidOut bel Go.Spec.S_keep_GridOnce.par _ _ _ _ (by kernel_rfl) hA0, rfl, bel.frame _, fun h => by cases h⟩
theorem over : Rows.gridOnceRow.holds Try.pinned (OpenSpec.ofChange Rows.gridOnceSpec) :=
  OpenClaim.holds_of_wide 7 Try.f7 rfl rfl rfl rfl rfl rfl rfl ⟨rfl, rfl, rfl, rfl, rfl⟩ rfl rfl rfl rfl rfl (by kernel_rfl) Try.func7 (by kernel_rfl)
    (of_decide_eq_true (by kernel_rfl)) (by unfold Func.isWrapper; first | (rw [if_pos (by decide +kernel)]; kernel_rfl) | (rw [if_neg (by decide +kernel)]; exact ⟨rfl, rfl⟩))
    (fun os started H enc _ => lifted os started H enc)
theorem proved : Rows.GridOnceSaid := over
end Go.Proofs.Ytppemehkbnbjlaa.gridOnce
namespace Go.Proofs.Ytppemehkbnbjlaa
/-- The row, under a short name, for the claim. -/
theorem gridOnce_holds : Rows.GridOnceSaid := gridOnce.proved
end Go.Proofs.Ytppemehkbnbjlaa
