/- Both cores stay side by side: who leaves, what is lent, what is reported. -/
import Derived.Test.YtppemehkbnbjlaaM6
set_option linter.unusedVariables false
set_option linter.unusedSimpArgs false
namespace Go.Spec
open Go Go.Lift
theorem lentOf_shut (w j : Int) (l : LN) : lentOf j (shutR w l) = if j = w then 0 else lentOf j l := by
  unfold shutR
  by_cases h : l.1 = w
  · rw [if_pos h]
    by_cases hj : j = w
    · simp [hj, lentOf]
    · rw [if_neg hj]
      have : ¬ l.1 = j := fun e => hj (e.symm.trans h)
      simp [lentOf, this]
  · rw [if_neg h]
    by_cases hj : j = w
    · subst hj; simp [lentOf, h]
    · rw [if_neg hj]
theorem usedOf_shut (w j : Int) (l : LN) : usedOf j (shutR w l) = usedOf j l := by
  unfold shutR; split <;> rfl
theorem lentS_shut (w j : Int) : ∀ ls : List LN, lentS j (ls.map (shutR w)) = if j = w then 0 else lentS j ls
  | [] => by simp [lentS]
  | l :: ls => by
    simp only [List.map_cons, lentS, lentOf_shut, lentS_shut w j ls]
    split <;> simp
theorem usedS_shut (w j : Int) : ∀ ls : List LN, usedS j (ls.map (shutR w)) = usedS j ls
  | [] => rfl
  | l :: ls => by simp only [List.map_cons, usedS, usedOf_shut, usedS_shut w j ls]
/-- All that somebody was lent is shut. -/
theorem shutL_eq (w : Int) : ∀ {gs : List (Option GR)} {ls : List LN} {m : PMap} {st ce lf lt ch : Int}, Two (gl m) gs ls → per m w = some (st, ce, (lf, lt, ch, ()), ()) → 0 ≤ lf → lf + lentS w ls ≤ 1000000000000 → lentS w ls ≤ lt → lt ≤ 1000000000000 →
    (∀ j, per (shutL w gs m).1 j = if j = w then some (st, ce, (lf + lentS w ls, lt - lentS w ls, ch, ()), ()) else per m j) ∧ (shutL w gs m).1.isSome = m.isSome ∧ Two (gl (shutL w gs m).1) (shutL w gs m).2 (ls.map (shutR w))
  | [], [], m, st, ce, lf, lt, ch, _, hp, _, _, _, _ => by
    refine ⟨fun j => ?_, rfl, trivial⟩
    show per m j = _
    by_cases hj : j = w
    · subst hj; rw [if_pos rfl, hp]; simp [lentS]
    · rw [if_neg hj]
  | g :: gs, l :: ls, m, st, ce, lf, lt, ch, h, hp, h1, h2, h3, h4 => by
    obtain ⟨hg, ht⟩ := h
    have hg' := hg
    obtain ⟨who, has, tu, cl, bs, us, rfl, rfl, k1, k2, k3, k4, k5, k6, k7, k8⟩ := hg
    obtain ⟨n1, _⟩ := sums_nonneg w ht
    have hsome : (per m w).isSome = true := by rw [hp]; rfl
    by_cases hw : who = w
    · subst hw
      have hhas : has = lentOf who (who, bs, us, tu, cl, ()) := by
        cases cl with
        | true => rw [k7 rfl]; simp [lentOf]
        | false => rw [k8 rfl]; simp [lentOf]
      have hh0 : 0 ≤ has := by rw [hhas]; exact (gl_nonneg hg' who).1
      simp only [lentS] at h2 h3
      rw [← hhas] at h2 h3
      have e1 : w64 (lf + has) = lf + has := w64_id (by omega)
      have e2 : w64 (lt - has) = lt - has := w64_id (by omega)
      have hsp : shutP m (who, has, tu, cl, ()) = setO m who (some (st, ce, (lf + has, lt - has, ch, ()), ())) := by
        unfold shutP
        simp only [hp, Option.getD_some, e1, e2]
      have hp1 : per (shutP m (who, has, tu, cl, ())) who = some (st, ce, (lf + has, lt - has, ch, ()), ()) := by
        rw [hsp, per_setO _ _ _ _ hsome, if_pos rfl]
      have ht1 : Two (gl (shutP m (who, has, tu, cl, ()))) gs ls := Two.mono (gl_mono fun j hj => by
        rw [hsp, per_setO _ _ _ _ hsome]
        split
        · rfl
        · exact hj) ht
      obtain ⟨i1, i2, i3⟩ := shutL_eq who ht1 hp1 (by omega) (by omega) (by omega) (by omega)
      have hL : shutL who (some (who, has, tu, cl, ()) :: gs) m = ((shutL who gs (shutP m (who, has, tu, cl, ()))).1, some (who, 0, tu, true, ()) :: (shutL who gs (shutP m (who, has, tu, cl, ()))).2) := by
        simp [shutL, shutG]
      rw [hL]
      refine ⟨fun j => ?_, ?_, ?_, i3⟩
      · rw [i1 j]
        by_cases hj : j = who
        · rw [if_pos hj, if_pos hj]
          simp only [lentS, ← hhas]
          congr 1
          simp only [Prod.mk.injEq, true_and, and_true]
          omega
        · rw [if_neg hj, if_neg hj, hsp, per_setO _ _ _ _ hsome, if_neg (Ne.symm hj)]
      · rw [i2, hsp]; cases m <;> rfl
      · have hsr : shutR who (who, bs, us, tu, cl, ()) = (who, bs, us, tu, true, ()) := by simp [shutR]
        rw [hsr]
        refine ⟨who, 0, tu, true, bs, us, rfl, rfl, k1, k2, ?_, k4, k5, k6, fun _ => rfl, fun h => (by cases h)⟩
        rw [i1 who, if_pos rfl]; rfl
    · have hz : lentOf w (who, bs, us, tu, cl, ()) = 0 := by simp [lentOf, hw]
      simp only [lentS, hz] at h2 h3
      obtain ⟨i1, i2, i3⟩ := shutL_eq w ht hp h1 (by omega) (by omega) h4
      have hL : shutL w (some (who, has, tu, cl, ()) :: gs) m = ((shutL w gs m).1, some (who, has, tu, cl, ()) :: (shutL w gs m).2) := by
        simp [shutL, hw]
      rw [hL]
      refine ⟨fun j => ?_, i2, ?_, i3⟩
      · rw [i1 j]
        simp only [lentS, hz]
        split
        · congr 1
          simp only [Prod.mk.injEq, true_and, and_true]
          omega
        · rfl
      · have hsr : shutR w (who, bs, us, tu, cl, ()) = (who, bs, us, tu, cl, ()) := by simp [shutR, hw]
        rw [hsr]
        refine ⟨who, has, tu, cl, bs, us, rfl, rfl, k1, k2, ?_, k4, k5, k6, k7, k8⟩
        rw [i1 who]
        split
        · rfl
        · exact k3
  | [], _ :: _, _, _, _, _, _, _, h, _, _, _, _, _ => h.elim
  | _ :: _, [], _, _, _, _, _, _, h, _, _, _, _, _ => h.elim
theorem lea_eq {c : CS} {r : RC} (h : CR c r) (w : Int) : (leaC c w).1 = (leaR r w).1 ∧ CR (leaC c w).2 (leaR r w).2 := by
  have hk := kn_iff h w
  have h' := h
  obtain ⟨u, m, gs, ⟨⟩⟩ := c
  obtain ⟨u', P, ls, ⟨⟩⟩ := r
  obtain ⟨e1, e2, e3, e4, e5, e6, e7⟩ := h
  have hw := e7 w
  cases hp : per m w with
  | none =>
    rw [show per (Prod.fst (Prod.snd (u, m, gs, ()))) w = none from hp] at hk
    have hm : moveC (u, m, gs, ()) w [] (fun p => p.1 != 0) 0 0 = (12, (u, m, gs, ())) := by unfold moveC; simp only [hp]
    have h1 : leaC (u, m, gs, ()) w = (12, (u, m, gs, ())) := by unfold leaC; rw [hm]; rfl
    have h2 : leaR (u', P, ls, ()) w = (12, (u', P, ls, ())) := by unfold leaR; rw [hk]; rfl
    rw [h1, h2]; exact ⟨rfl, h'⟩
  | some p =>
    rw [show per (Prod.fst (Prod.snd (u, m, gs, ()))) w = some p from hp] at hk hw
    obtain ⟨k1, k2, k3, k4, k5, k6, k7, k8⟩ := hw
    obtain ⟨st, ce, ⟨lf, lt, ch, ⟨⟩⟩, ⟨⟩⟩ := p
    by_cases hst : st = 0
    · have hm : moveC (u, m, gs, ()) w [] (fun p => p.1 != 0) 0 0 = (9, (u, m, gs, ())) := by unfold moveC; simp [hp, hst]
      have h1 : leaC (u, m, gs, ()) w = (9, (u, m, gs, ())) := by unfold leaC; rw [hm]; rfl
      have hh : (ps (u', P, ls, ()) w).2.1 = false := by rw [k2]; simp [hst]
      have h2 : leaR (u', P, ls, ()) w = (9, (u', P, ls, ())) := by unfold leaR; rw [k1, hh]; rfl
      rw [h1, h2]; exact ⟨rfl, h'⟩
    · have hm : moveC (u, m, gs, ()) w [] (fun p => p.1 != 0) 0 0 = (0, (u, setO m w (some (0, 0, (lf, lt, ch, ()), ())), gs, ())) := by unfold moveC; simp [hp, hst]
      have hh : (ps (u', P, ls, ()) w).2.1 = true := by rw [k2]; simp [hst]
      have ht := turn_ok h' (w := w) hp 0 0 false (ps (u', P, ls, ()) w).2.2.1 (ps (u', P, ls, ()) w).2.2.2.1 rfl (.inl rfl) (fun hx => (hx rfl).elim)
      have hsome : (per m w).isSome = true := by rw [hp]; rfl
      obtain ⟨f1, f2, f3, f4, f5, f6, f7⟩ := ht
      have f6 : Two (gl (setO m w (some (0, 0, (lf, lt, ch, ()), ())))) gs ls := f6
      have hp1 : per (setO m w (some (0, 0, (lf, lt, ch, ()), ()))) w = some (0, 0, (lf, lt, ch, ()), ()) := by rw [per_setO _ _ _ _ hsome, if_pos rfl]
      have k7 : (lf, lt, ch, ()) = ((ps (u', P, ls, ()) w).2.2.2.2.1 - lentS w ls - usedS w ls, lentS w ls, usedS w ls, ()) := k7
      simp only [Prod.mk.injEq, and_true] at k7
      obtain ⟨q1, q2, q3⟩ := k7
      have k8 : 0 ≤ lf := k8
      have k6 : (ps (u', P, ls, ()) w).2.2.2.2.1 ≤ 1000000000 := k6
      obtain ⟨n1, n2⟩ := sums_nonneg w f6
      obtain ⟨i1, i2, i3⟩ := shutL_eq w f6 hp1 k8 (by omega) (by omega) (by omega)
      have h1 : leaC (u, m, gs, ()) w = (0, (u, (shutL w gs (setO m w (some (0, 0, (lf, lt, ch, ()), ())))).1, (shutL w gs (setO m w (some (0, 0, (lf, lt, ch, ()), ())))).2, ())) := by
        unfold leaC; rw [hm]; rfl
      have h2 : leaR (u', P, ls, ()) w = (0, (u', P.set w.toNat ((ps (u', P, ls, ()) w).1, false, (ps (u', P, ls, ()) w).2.2), ls.map (shutR w), ())) := by
        unfold leaR; rw [k1, hh]; rfl
      rw [h1, h2]
      refine ⟨rfl, e1, e2, e3, ?_, f5, i3, fun j => ?_⟩
      · show (shutL w gs (setO m w (some (0, 0, (lf, lt, ch, ()), ())))).1.isSome = true
        rw [i2]; exact f4
      · have f7j := f7 j
        show match per (shutL w gs (setO m w (some (0, 0, (lf, lt, ch, ()), ())))).1 j with
          | none => knB (u', P.set w.toNat ((ps (u', P, ls, ()) w).1, false, (ps (u', P, ls, ()) w).2.2), ls.map (shutR w), ()) j = false
          | some p => pOK (u', P.set w.toNat ((ps (u', P, ls, ()) w).1, false, (ps (u', P, ls, ()) w).2.2), ls.map (shutR w), ()) j p
        have f7j : match per (setO m w (some (0, 0, (lf, lt, ch, ()), ()))) j with
          | none => knB (u', P.set w.toNat ((ps (u', P, ls, ()) w).1, false, (ps (u', P, ls, ()) w).2.2), ls, ()) j = false
          | some p => pOK (u', P.set w.toNat ((ps (u', P, ls, ()) w).1, false, (ps (u', P, ls, ()) w).2.2), ls, ()) j p := f7j
        rw [i1 j]
        by_cases hj : j = w
        · subst hj
          rw [hp1] at f7j
          rw [if_pos rfl]
          obtain ⟨g1, g2, g3, g4, g5, g6, g7, g8⟩ := f7j
          refine ⟨g1, g2, g3, g4, g5, g6, ?_, ?_⟩
          · show (lf + lentS j ls, lt - lentS j ls, ch, ()) = (_ - lentS j (ls.map (shutR j)) - usedS j (ls.map (shutR j)), lentS j (ls.map (shutR j)), usedS j (ls.map (shutR j)), ())
            rw [lentS_shut, usedS_shut, if_pos rfl]
            have g7 : (lf, lt, ch, ()) = (_ - lentS j ls - usedS j ls, lentS j ls, usedS j ls, ()) := g7
            simp only [Prod.mk.injEq, and_true] at g7 ⊢
            refine ⟨?_, by omega, by omega⟩
            have g71 := g7.1
            show lf + lentS j ls = (ps (u', P.set j.toNat ((ps (u', P, ls, ()) j).1, false, (ps (u', P, ls, ()) j).2.2), ls, ()) j).2.2.2.2.1 - 0 - usedS j ls
            omega
          · show 0 ≤ lf + lentS j ls; omega
        · rw [if_neg hj]
          cases hpj : per (setO m w (some (0, 0, (lf, lt, ch, ()), ()))) j with
          | none => rw [hpj] at f7j; exact f7j
          | some q =>
            rw [hpj] at f7j
            obtain ⟨g1, g2, g3, g4, g5, g6, g7, g8⟩ := f7j
            refine ⟨g1, g2, g3, g4, g5, g6, ?_, g8⟩
            show q.2.2.1 = (_ - lentS j (ls.map (shutR w)) - usedS j (ls.map (shutR w)), lentS j (ls.map (shutR w)), usedS j (ls.map (shutR w)), ())
            rw [lentS_shut, usedS_shut, if_neg hj]
            exact g7
end Go.Spec
