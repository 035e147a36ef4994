/- A core's report, and who leaves, run through. -/
import Derived.Test.YtppemehkbnbjlaaP3
set_option linter.unusedVariables false
set_option linter.unusedSimpArgs false
namespace Go.Spec
open Go Go.Lift Go.Proofs
attribute [local irreducible] Go.Lift.awp Go.Lift.LoopOK Go.Lift.SumOK
theorem set_same {α : Type} {l : List α} {i : Nat} {x d : α} (h : i < l.length) (e : l.getD i d = x) : l.set i x = l := by
  rw [List.getD_eq_getElem?_getD, List.getElem?_eq_getElem h] at e
  have e : l[i] = x := e
  rw [← e]; simp
theorem per_some {m : PMap} {k : Int} {p : PR} (h : (getO m k).getD none = some p) : getO m k ≠ none ∧ setO m k (some p) = m := by
  refine ⟨fun e => (by rw [e] at h; cases h), ?_⟩
  have := setO_getD m k
  rw [h] at this
  exact this
theorem setO_setO (m : PMap) (k : Int) (a b : Option PR) : setO (setO m k a) k b = setO m k b := by
  cases m with
  | none => rfl
  | some es => show some _ = some _; rw [setE_setE]
theorem ok_core_Core_Report : SumOK Try.prog 64 S_core_Core_Report := by
  refine whole_core_Core_Report ?_
  intro a0 a1 hp
  obtain ⟨u, m, gs, ⟨⟩⟩ := a0
  obtain ⟨gn, tn, bt, fi, ⟨⟩⟩ := a1
  obtain ⟨hg, hl⟩ := hp
  have hg : grantsOK m gs := hg
  have hl : (gs.length : Int) ≤ big := hl
  have hl2 : (gs.length : Int) ≤ 1125899906842624 := by unfold big at hl; omega
  unfold W_core_Core_Report
  rw [condP_iff]
  refine ⟨fun h => ?_, fun h => ?_⟩
  · have h' : gn < 1 ∨ (gs.length : Int) < gn := by simpa using h
    have e : repC (u, m, gs, ()) (gn, tn, bt, fi, ()) = (6, (u, m, gs, ())) := by unfold repC; rw [if_pos h']
    rw [e]; exact ⟨rfl, rfl, trivial⟩
  · have h' : ¬ (gn < 1 ∨ (gs.length : Int) < gn) := by simpa using h
    have hw : IntKind.wrap .i64 (gn - 1) = gn - 1 := i64w (by omega)
    have hi : (gn - 1).toNat < gs.length := by omega
    have i0 : 0 ≤ gn - 1 := by omega
    have i1 : gn - 1 < gs.length := by omega
    have hmem : gs.getD (gn - 1).toNat none ∈ gs := by
      rw [List.getD_eq_getElem?_getD, List.getElem?_eq_getElem hi]; exact List.getElem_mem _
    obtain ⟨e1, e2⟩ := hg _ hmem
    simp only [hw]
    refine ⟨i0, i1, i0, i1, trivial, fun v4 hv => ?_⟩
    rw [← hv] at e1 e2
    have hsame : gs.set (gn - 1).toNat v4 = gs := set_same hi hv.symm
    obtain ⟨g, rfl⟩ := Option.isSome_iff_exists.1 e1
    obtain ⟨who, has, turn, cl, ⟨⟩⟩ := g
    have e2 : (per m who).isSome = true := e2
    obtain ⟨p, hper⟩ := Option.isSome_iff_exists.1 e2
    have hq : (getO m who).getD none = some p := hper
    obtain ⟨hne, hs⟩ := per_some hq
    obtain ⟨st, ce, ⟨lf, lt, ch, ⟨⟩⟩, ⟨⟩⟩ := p
    have hga : grantAt (u, m, gs, ()) (gn, tn, bt, fi, ()) = (who, has, turn, cl, ()) := by
      show (gs.getD (gn - 1).toNat none).getD g0 = _
      rw [← hv]; rfl
    simp only [hsame, Option.getD_some, Option.isSome_some, hq, Option.isNone_some]
    refine ⟨fun _ => trivial, fun _ => trivial, ?_⟩
    rw [condP_iff]
    refine ⟨fun c => ?_, fun c => ?_⟩
    · have c' : 1 ≤ tn ∧ tn ≤ turn := by
        by_cases h9 : 1 ≤ tn
        · simp [h9] at c; exact ⟨h9, c⟩
        · simp [h9] at c
      have e : repC (u, m, gs, ()) (gn, tn, bt, fi, ()) = (10, (u, m, gs, ())) := by
        unfold repC; rw [if_neg h', hga, if_pos c']
      rw [e]; exact ⟨rfl, rfl, trivial⟩
    · have c' : ¬ (1 ≤ tn ∧ tn ≤ turn) := by
        rintro ⟨h9, h8⟩
        simp [h9, h8] at c
      refine ⟨trivial, trivial, ?_⟩
      rw [condP_iff]
      refine ⟨fun d => ?_, fun d => ?_⟩
      · have d' : tn ≠ w64 (turn + 1) := by simpa [w64] using d
        have e : repC (u, m, gs, ()) (gn, tn, bt, fi, ()) = (3, (u, m, gs, ())) := by
          unfold repC; rw [if_neg h', hga, if_neg c', if_pos d']
        rw [e]; exact ⟨rfl, rfl, trivial⟩
      · have d' : ¬ tn ≠ w64 (turn + 1) := by simpa [w64] using d
        refine ⟨trivial, ?_⟩
        rw [condP_iff]
        refine ⟨fun f => ?_, fun f => ?_⟩
        · have f' : cl = true := f
          have e : repC (u, m, gs, ()) (gn, tn, bt, fi, ()) = (9, (u, m, gs, ())) := by
            unfold repC; rw [if_neg h', hga, if_neg c', if_neg d', if_pos f']
          rw [e]; exact ⟨rfl, rfl, trivial⟩
        · have f' : ¬ cl = true := by simpa using f
          rw [condP_iff]
          refine ⟨fun k => ?_, fun k => ?_⟩
          · have k' : bt < 0 ∨ has < bt := by simpa using k
            have e : repC (u, m, gs, ()) (gn, tn, bt, fi, ()) = (11, (u, m, gs, ())) := by
              unfold repC; rw [if_neg h', hga, if_neg c', if_neg d', if_neg f', if_pos k']
            rw [e]; exact ⟨rfl, rfl, trivial⟩
          · have k' : ¬ (bt < 0 ∨ has < bt) := by simpa using k
            refine ⟨trivial, fun hx => absurd (Option.isNone_iff_eq_none.1 hx) hne, fun v13 hv13 => ?_⟩
            subst hv13
            simp only [Option.getD_some, Option.isSome_some, Option.map_some, Option.isNone_some]
            refine ⟨trivial, trivial, trivial, trivial, trivial, trivial, trivial, trivial, ?_⟩
            rw [condP_iff]
            refine ⟨fun z => ?_, fun z => ?_⟩
            · have z' : fi = true := z
              have e : repC (u, m, gs, ()) (gn, tn, bt, fi, ()) = (0, (u, shutP (repP m who bt) (repG (who, has, turn, cl, ()) bt), gs.set (gn - 1).toNat (some (shutG (repG (who, has, turn, cl, ()) bt))), ())) := by
                unfold repC; rw [if_neg h', hga, if_neg c', if_neg d', if_neg f', if_neg k', if_pos z']
              have hp1 : per (setO m who (some (st, ce, (lf, IntKind.i64.wrap (lt - bt), IntKind.i64.wrap (ch + bt), ()), ()))) who = some (st, ce, (lf, IntKind.i64.wrap (lt - bt), IntKind.i64.wrap (ch + bt), ()), ()) := by
                rw [per_setO _ _ _ _ e2, if_pos rfl]
              have hq1 : (getO (setO m who (some (st, ce, (lf, IntKind.i64.wrap (lt - bt), IntKind.i64.wrap (ch + bt), ()), ()))) who).getD none = some (st, ce, (lf, IntKind.i64.wrap (lt - bt), IntKind.i64.wrap (ch + bt), ()), ()) := hp1
              refine ⟨trivial, fun hx => absurd (Option.isNone_iff_eq_none.1 hx) (per_some hq1).1, fun v16 hv16 => ?_⟩
              rw [hq1] at hv16
              subst hv16
              simp only [Option.getD_some, Option.isSome_some, Option.map_some, Option.isNone_some]
              rw [e]
              refine ⟨trivial, trivial, trivial, trivial, trivial, trivial, trivial, trivial, rfl, ?_, trivial⟩
              have hr : repP m who bt = setO m who (some (st, ce, (lf, w64 (lt - bt), w64 (ch + bt), ()), ())) := by unfold repP; rw [hper]; rfl
              have hp1' : per (setO m who (some (st, ce, (lf, w64 (lt - bt), w64 (ch + bt), ()), ()))) who = some (st, ce, (lf, w64 (lt - bt), w64 (ch + bt), ()), ()) := hp1
              unfold shutP
              rw [hr]
              simp only [repG, hp1', setO_setO, Option.getD_some]
              rfl
            · have z' : ¬ fi = true := by have z : fi = false := z; simp [z]
              have e : repC (u, m, gs, ()) (gn, tn, bt, fi, ()) = (0, (u, repP m who bt, gs.set (gn - 1).toNat (some (repG (who, has, turn, cl, ()) bt)), ())) := by
                unfold repC; rw [if_neg h', hga, if_neg c', if_neg d', if_neg f', if_neg k', if_neg z']
              rw [e]
              refine ⟨rfl, ?_, trivial⟩
              unfold repP repG w64
              rw [hper]
              rfl
theorem l_core_Core_Leave_0 : LoopOK E_core_Core_Leave 0 (loopAt (bodyOf Try.f65) 0) L_core_Core_Leave_0 := I_core_Core_Leave_0 <| by
  intro t1 t18 t19 r0 r1 K hp ho
  obtain ⟨rfl, h2, h3, h4, h5⟩ := hp
  obtain ⟨u, m, gs, ⟨⟩⟩ := r0
  have h5 : grantsOK m (r1.drop t19.toNat) := h5
  unfold B_core_Core_Leave_0
  unfold o_core_Core_Leave_0 at ho ⊢
  rw [condP_iff]
  refine ⟨fun hlt => ?_, fun hge => ?_⟩
  · have hlt := of_decide_eq_true hlt
    have hi : t19.toNat < r1.length := by omega
    have e19 : (t19 + 1).toNat = t19.toNat + 1 := by omega
    have hd : r1.drop t19.toNat = r1.getD t19.toNat none :: r1.drop (t19.toNat + 1) := by
      rw [List.drop_eq_getElem_cons hi, List.getD_eq_getElem?_getD, List.getElem?_eq_getElem hi]; rfl
    refine ⟨h2, hlt, h2, hlt, rfl, fun v4 hv => ?_⟩
    rw [hd, ← hv] at ho
    obtain ⟨e1, e2⟩ := h5 v4 (by rw [hd, ← hv]; exact List.mem_cons_self ..)
    have h6 : grantsOK m (r1.drop (t19.toNat + 1)) := fun g hg => h5 g (by rw [hd]; exact List.mem_cons_of_mem _ hg)
    obtain ⟨g, rfl⟩ := Option.isSome_iff_exists.1 e1
    obtain ⟨who, has, turn, cl, ⟨⟩⟩ := g
    have e2 : (per m who).isSome = true := e2
    obtain ⟨p, hper⟩ := Option.isSome_iff_exists.1 e2
    have hq : (getO m who).getD none = some p := hper
    obtain ⟨hne, hs⟩ := per_some hq
    obtain ⟨st, ce, ⟨lf, lt, ch, ⟨⟩⟩, ⟨⟩⟩ := p
    simp only [Option.getD_some, Option.isSome_some, hq, Option.isNone_some]
    rw [i64w (n := t19 + 1) (by omega)]
    refine ⟨trivial, ?_⟩
    rw [condP_iff]
    have htake : ∀ x, (r1.set t19.toNat x).take (t19.toNat + 1) = r1.take t19.toNat ++ [x] := fun x => by
      rw [List.take_add_one, List.take_set_of_le (Nat.le_refl _), List.getElem?_set_self hi]; rfl
    have hdrop : ∀ x, (r1.set t19.toNat x).drop (t19.toNat + 1) = r1.drop (t19.toNat + 1) := fun x => by
      rw [List.drop_set_of_lt (by omega)]
    refine ⟨fun c => ?_, fun c => ?_⟩
    · have c' : who = t1 := by simpa using c
      refine ⟨trivial, fun hx => absurd (Option.isNone_iff_eq_none.1 hx) hne, fun v7 hv7 => ?_⟩
      subst hv7
      simp only [Option.getD_some, Option.isSome_some, Option.map_some, Option.isNone_some]
      have hsp : shutP m (who, has, turn, cl, ()) = setO m who (some (st, ce, (w64 (lf + has), w64 (lt - has), ch, ()), ())) := by
        unfold shutP; rw [hper]; rfl
      have hok : grantsOK (shutP m (who, has, turn, cl, ())) (r1.drop (t19.toNat + 1)) := by
        intro g hg
        obtain ⟨k1, k2⟩ := h6 g hg
        refine ⟨k1, ?_⟩
        rw [hsp, per_setO _ _ _ _ e2]
        split
        · rfl
        · exact k2
      refine ⟨trivial, trivial, trivial, trivial, trivial, trivial, trivial, trivial, ⟨by simp, by omega, by omega, by simp; omega, ?_⟩, by unfold m_core_Core_Leave_0; omega, ?_⟩
      · rw [e19, hdrop]
        rw [hsp] at hok
        exact hok
      · rw [e19, hdrop, htake]
        have hl : shutL t1 (some (who, has, turn, cl, ()) :: r1.drop (t19.toNat + 1)) m = ((shutL t1 (r1.drop (t19.toNat + 1)) (shutP m (who, has, turn, cl, ()))).1, some (shutG (who, has, turn, cl, ())) :: (shutL t1 (r1.drop (t19.toNat + 1)) (shutP m (who, has, turn, cl, ()))).2) := by
          simp [shutL, c']
        rw [hl] at ho
        simp only [hsp] at ho
        simpa [w64, shutG] using ho
    · have c' : ¬ who = t1 := by simpa using c
      refine ⟨⟨by simp, by omega, by omega, by simp; omega, by rw [e19, hdrop]; exact h6⟩, by unfold m_core_Core_Leave_0; omega, ?_⟩
      rw [e19, hdrop, htake]
      have hl : shutL t1 (some (who, has, turn, cl, ()) :: r1.drop (t19.toNat + 1)) m = ((shutL t1 (r1.drop (t19.toNat + 1)) m).1, some (who, has, turn, cl, ()) :: (shutL t1 (r1.drop (t19.toNat + 1)) m).2) := by
        simp [shutL, c']
      rw [hl] at ho
      simpa using ho
  · have hge := of_decide_eq_false hge
    have hd : r1.drop t19.toNat = [] := List.drop_eq_nil_of_le (by omega)
    have ht : r1.take t19.toNat = r1 := List.take_of_length_le (by omega)
    rw [hd, ht] at ho
    simpa [shutL] using ho
theorem ok_core_Core_Leave : SumOK Try.prog 65 S_core_Core_Leave := by
  refine whole_core_Core_Leave ok_core_isCell l_core_Core_Leave_0 ?_
  intro a0 a1 hp
  obtain ⟨u, m, gs, ⟨⟩⟩ := a0
  obtain ⟨h1, h2, h3⟩ := hp
  have h2 : grantsOK m gs := h2
  have h3 : (gs.length : Int) ≤ big := h3
  have h3' : (gs.length : Int) ≤ 9223372036854775806 := by unfold big at h3; omega
  have h0 := big0
  unfold W_core_Core_Leave
  refine ⟨rfl, fun h => (by rw [Option.isNone_iff_eq_none.1 h]; rfl), fun v2 hv => ?_⟩
  have hs0 : setO m a1 v2 = m := by rw [hv]; exact setO_getD m a1
  have hpv : per m a1 = v2 := hv.symm
  cases v2 with
  | none =>
    have e : leaC (u, m, gs, ()) a1 = (12, (u, m, gs, ())) := by
      have hm : moveC (u, m, gs, ()) a1 [] (fun p => p.1 != 0) 0 0 = (12, (u, m, gs, ())) := by unfold moveC; simp only [hpv]
      unfold leaC; rw [hm]; rfl
    rw [e, condP_iff]
    refine ⟨fun _ => ?_, fun h => (by cases h)⟩
    rw [condP_iff]
    refine ⟨fun _ => ⟨rfl, ?_, trivial⟩, fun h => (by simp at h)⟩
    show (u, setO m a1 none, gs, ()) = (u, m, gs, ())
    rw [hs0]
  | some p =>
    obtain ⟨st, ce, rc, ⟨⟩⟩ := p
    rw [condP_iff]
    refine ⟨fun h => (by cases h), fun _ => ⟨h0, ?_⟩⟩
    rw [condP_iff]
    refine ⟨fun h => (by simp at h), fun _ => ⟨rfl, ?_⟩⟩
    simp only [Option.getD_some]
    rw [condP_iff]
    by_cases hst : st = 0
    · have e : leaC (u, m, gs, ()) a1 = (9, (u, m, gs, ())) := by
        have hm : moveC (u, m, gs, ()) a1 [] (fun p => p.1 != 0) 0 0 = (9, (u, m, gs, ())) := by unfold moveC; simp [hpv, hst]
        unfold leaC; rw [hm]; rfl
      rw [e]
      refine ⟨fun _ => ?_, fun h => (by simp [hst] at h)⟩
      rw [condP_iff]
      refine ⟨fun _ => ⟨rfl, ?_, trivial⟩, fun h => (by simp at h)⟩
      show (u, setO m a1 (some (st, ce, rc, ())), gs, ()) = (u, m, gs, ())
      rw [hs0]
    · refine ⟨fun h => (by simp [hst] at h), fun _ => ?_⟩
      rw [condP_iff]
      refine ⟨fun h => (by simp at h), fun _ => ?_⟩
      have hsome : (per m a1).isSome = true := by rw [hpv]; rfl
      have hm : moveC (u, m, gs, ()) a1 [] (fun p => p.1 != 0) 0 0 = (0, (u, setO m a1 (some (0, 0, rc, ())), gs, ())) := by unfold moveC; simp [hpv, hst]
      have e : leaC (u, m, gs, ()) a1 = (0, (u, (shutL a1 gs (setO m a1 (some (0, 0, rc, ())))).1, (shutL a1 gs (setO m a1 (some (0, 0, rc, ())))).2, ())) := by
        unfold leaC; rw [hm]; rfl
      rw [e]
      refine ⟨⟨rfl, Int.le_refl _, by omega, h3', ?_⟩, rfl, rfl, trivial⟩
      intro g hg
      obtain ⟨k1, k2⟩ := h2 g (List.mem_of_mem_drop hg)
      refine ⟨k1, ?_⟩
      show (per (setO m a1 (some (0, 0, rc, ()))) _).isSome = true
      rw [per_setO _ _ _ _ hsome]
      split
      · rfl
      · exact k2
end Go.Spec
