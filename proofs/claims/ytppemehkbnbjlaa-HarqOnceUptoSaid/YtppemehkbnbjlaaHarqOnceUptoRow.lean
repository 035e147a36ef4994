/- Each block is told at most once, and one that was answered with a yes was told: the law HarqOnce holds of every input that reads as at most 1048576 values and letters. -/
import Derived.Test.YtppemehkbnbjlaaRows
import Derived.Test.YtppemehkbnbjlaaP17
import Derived.Test.YtppemehkbnbjlaaLF
import Derived.WalkKit
import Derived.ProofKit
import Derived.OpenShut
import Derived.ShutString
import Derived.ChangeOld
import Derived.Below
import Derived.SizedLaws
import Derived.Deep.CondSized
set_option linter.unusedVariables false
set_option linter.unusedSimpArgs false
namespace Go.Proofs.Ytppemehkbnbjlaa.harqOnceUpto
open Go Go.ChangeShapes Go.WideShapes Go.ChangeAt Go.RowKit Go.Lift
theorem one_le {H : Type} (d : DataW H) : 1 ≤ Rows.uptoBulk d := by
  cases d <;> first | (simp [Rows.uptoBulk]; done) | skip
  rename_i l
  cases l <;> simp [Rows.uptoBulk]
theorem all_le {H : Type} : ∀ (l : List (DataW H)), l.length ≤ Rows.uptoBulkAll l
  | [] => Nat.zero_le _
  | x :: r => by have h1 := all_le r; have h2 := one_le x; simp only [Rows.uptoBulkAll, List.length_cons]; omega
theorem bulk_slice {H : Type} (a b : List (DataW H)) : a.length ≤ Rows.uptoBulk (.slice a b) := by
  have h := all_le a
  simp only [Rows.uptoBulk]; omega
theorem own : ownKnob Try.prog.godebug = none := by kernel_rfl
theorem laidOut : laidOutB Try.prog = true := by kernel_rfl
set_option maxRecDepth 100000 in
theorem lifted (os : Os) (started : os.Started) (H : Type) (enc : TypeId × Value → H) (F : Stop.Interp) :
    ReturnsInHanded {} Try.checked os 10 .any ((Rows.OpenSpec.upto Rows.harqOnceSpec).pre6 enc Try.prog Try.f10 Rows.harqOnceUptoRow.domain false) (((Rows.OpenSpec.upto Rows.harqOnceSpec).at F).post enc Try.prog Try.f10 false true false false) := by
  refine returnsInHanded_of_cond_sized (C := Try.checked) (s := Rows.OpenSpec.upto Rows.harqOnceSpec) (k := Rows.uptoSmall) rfl own started (by kernel_rfl) Try.func10
    (OpenSpec.witness (enc := enc) (C := Try.checked) (s := Rows.OpenSpec.upto Rows.harqOnceSpec) (k := Rows.uptoSmall) rfl false ⟨#[], #[.int .i64 0, .slice none 0 0], []⟩ 8 (by kernel_rfl) (by kernel_rfl) (by kernel_rfl)
      (x := ([.lit (.int .i64 0), .nil], [], [])) (by kernel_rfl) rfl (by kernel_rfl)) ?_
  intro W base args ds gs before hval0 hW hcnd hk0 hsz0 _
  have hW' := hW
  obtain ⟨p, q, hA0, hV, rfl, hfz, hnd⟩ := hW
  obtain ⟨rfl, rfl⟩ := trodVars_none hV
  have hw : ∀ m ∈ DataW.weightsEach Try.prog Try.f10.params.toList ds, m ≤ reachBytes := by
    intro m hm
    have hz := List.all_eq_true.1 hsz0 m (by
      show m ∈ DataW.weightsEach Try.prog (Try.f10.params.toList ++ []) (ds ++ [])
      rw [List.append_nil, List.append_nil]; exact hm)
    exact of_decide_eq_true hz
  have hpre : ∀ x ls, PsRel (okW W) (fun _ => False) W Go.Spec.S_keep_HarqOnce.par x args.toList ls → wfs Go.Spec.S_keep_HarqOnce.par x → Go.Spec.S_keep_HarqOnce.pre x := by
    intro x ls hR hwf
    have hA := hA0
    rw [Try.params10] at hA
    obtain ⟨v0, vs0, d0, ds0, p0, q0, hargs, rfl, rfl, h0, r0⟩ := trodAll_cons hA
    obtain ⟨v1, vs1, d1, ds1, p1, q1, rfl, rfl, rfl, h1, r1⟩ := trodAll_cons r0
    obtain ⟨rfl, rfl, rfl⟩ := trodAll_nil r1
    rw [hargs] at hR
    obtain ⟨w0, ws0, l0, ls0, e0, rfl, _, w1, ws1, l1, ls1, e1, rfl, hv1, _⟩ := hR
    cases e0
    cases e1
    obtain ⟨a, c, hcs⟩ := vrel_ro hv1
    have hk1 : Rows.uptoBulkAll ([d0, d1] ++ []) ≤ 1048576 := of_decide_eq_true hk0
    simp only [List.append_nil, Rows.uptoBulkAll] at hk1
    obtain ⟨fu, hf⟩ := h1
    rw [hcs] at hf
    show (List.length x.2.1 : Int) ≤ 1048576
    rcases slice_len Try.underlying23 hf with h0 | ⟨el, re, hd, hl⟩
    · omega
    · have := bulk_slice el re
      rw [← hd] at this
      omega
  have hc := law_calls_rel Go.Spec.ok_keep_HarqOnce rfl (fun _ => rfl) (enc := enc) (W := W) (ts := Try.f10.params.toList) (vs := args.toList) (by kernel_rfl) hA0 (fun j t v h1 h2 => hval0 j t v (by simpa using h1) (by simpa using h2)) hw hpre
  rw [Array.toArray_toList] at hc
  refine hc.mono fun e W' ⟨he, bel⟩ => ?_
  subst he
  have hA := hA0
  rw [Try.params10] at hA
  obtain ⟨v0, vs0, d0, ds0, p0, q0, hargs, rfl, rfl, h0, r0⟩ := trodAll_cons hA
  obtain ⟨v1, vs1, d1, ds1, p1, q1, rfl, rfl, rfl, h1, r1⟩ := trodAll_cons r0
  obtain ⟨rfl, rfl, rfl⟩ := trodAll_nil r1
  exact ⟨_, rfl, _, _, _, [], _, [], hW', trodAll_mk1 (shut_bool Try.underlying4 _), args_stay laidOut bel Go.Spec.S_keep_HarqOnce.par _ _ _ _ (by kernel_rfl) hA0, rfl, bel.frame _, fun h => by cases h⟩
theorem over : Rows.harqOnceUptoRow.holds Try.pinned (Rows.OpenSpec.upto Rows.harqOnceSpec) :=
  OpenClaim.holds_of_cond 10 Try.f10 rfl rfl rfl rfl rfl rfl rfl ⟨rfl, rfl, rfl, rfl, rfl⟩ rfl rfl rfl rfl rfl (by kernel_rfl) Try.func10 (by kernel_rfl)
    (of_decide_eq_true (by kernel_rfl)) (by unfold Func.isWrapper; first | (rw [if_pos (by decide +kernel)]; kernel_rfl) | (rw [if_neg (by decide +kernel)]; exact ⟨rfl, rfl⟩))
    (fun os started H enc _ F => lifted os started H enc F)
theorem proved : Rows.HarqOnceUptoSaid := over
end Go.Proofs.Ytppemehkbnbjlaa.harqOnceUpto
namespace Go.Proofs.Ytppemehkbnbjlaa
/-- The row, under a short name, for the claim. -/
theorem harqOnceUpto_holds : Rows.HarqOnceUptoSaid := harqOnceUpto.proved
end Go.Proofs.Ytppemehkbnbjlaa
