/- Both cores stay side by side: what is lent, what is reported. -/
import Derived.Test.YtppemehkbnbjlaaM8
set_option linter.unusedVariables false
set_option linter.unusedSimpArgs false
namespace Go.Spec
open Go Go.Lift
theorem gl_change {m m' : PMap} (h : ∀ j, (per m j).isSome = true → (per m' j).isSome = true) {gs : List (Option GR)} {ls : List LN} (ht : Two (gl m) gs ls) : Two (gl m') gs ls := Two.mono (gl_mono h) ht
theorem set_some {m : PMap} {w : Int} {p : PR} (hs : (per m w).isSome = true) (j : Int) (hj : (per m j).isSome = true) : (per (setO m w (some p)) j).isSome = true := by
  rw [per_setO _ _ _ _ hs]
  split
  · rfl
  · exact hj
theorem setO_some (m : PMap) (w : Int) (p : Option PR) : (setO m w p).isSome = m.isSome := by cases m <;> rfl
/-- The books of one person turn, and the loans. -/
theorem books {c : CS} {r : RC} (h : CR c r) {w : Int} {st ce : Int} {e e' : RE} (hp : per c.2.1 w = some (st, ce, e, ())) {m' : PMap} {gs' : List (Option GR)} {ls' : List LN}
    (hm : ∀ j, per m' j = if j = w then some (st, ce, e', ()) else per c.2.1 j) (hms : m'.isSome = true) (ht : Two (gl m') gs' ls')
    (ho : ∀ j, j ≠ w → lentS j ls' = lentS j r.2.2.1 ∧ usedS j ls' = usedS j r.2.2.1)
    (he : e' = ((ps r w).2.2.2.2.1 - lentS w ls' - usedS w ls', lentS w ls', usedS w ls', ())) (h0 : 0 ≤ e'.1) : CR (c.1, m', gs', ()) (r.1, r.2.1, ls', ()) := by
  obtain ⟨e1, e2, e3, e4, e5, e6, e7⟩ := h
  refine ⟨e1, e2, e3, hms, e5, ht, fun j => ?_⟩
  have hj := e7 j
  show match per m' j with
    | none => knB (r.1, r.2.1, ls', ()) j = false
    | some p => pOK (r.1, r.2.1, ls', ()) j p
  rw [hm j]
  by_cases hjw : j = w
  · subst hjw
    rw [hp] at hj
    rw [if_pos rfl]
    obtain ⟨g1, g2, g3, g4, g5, g6, g7, g8⟩ := hj
    exact ⟨g1, g2, g3, g4, g5, g6, he, h0⟩
  · rw [if_neg hjw]
    obtain ⟨o1, o2⟩ := ho j hjw
    cases hpj : per c.2.1 j with
    | none => rw [hpj] at hj; exact hj
    | some q =>
      rw [hpj] at hj
      obtain ⟨g1, g2, g3, g4, g5, g6, g7, g8⟩ := hj
      refine ⟨g1, g2, g3, g4, g5, g6, ?_, g8⟩
      show q.2.2.1 = (_ - lentS j ls' - usedS j ls', lentS j ls', usedS j ls', ())
      rw [o1, o2]; exact g7
theorem len_eq {c : CS} {r : RC} (h : CR c r) (w : Int) : (lenC c w).1 = (lenR r w).1 ∧ CR (lenC c w).2 (lenR r w).2 := by
  have hrec := rec_eq h w
  have h' := h
  obtain ⟨u, m, gs, ⟨⟩⟩ := c
  obtain ⟨u', P, ls, ⟨⟩⟩ := r
  obtain ⟨e1, e2, e3, e4, e5, e6, e7⟩ := h
  have e1 : u = u' := e1
  have e2 : 1 ≤ u := e2
  have e3 : u ≤ 1000000 := e3
  subst e1
  have e6 : Two (gl m) gs ls := e6
  have hw := e7 w
  have hlen := Two.length e6
  cases hp : per m w with
  | none =>
    have hr : recR (u, P, ls, ()) w = ((0, 0, 0, ()), 12) := by rw [← hrec]; unfold recC; rw [show per (Prod.fst (Prod.snd (u, m, gs, ()))) w = none from hp]
    have h1 : lenC (u, m, gs, ()) w = ((0, 0, 12), (u, m, gs, ())) := by unfold lenC; rw [show per (Prod.fst (Prod.snd (u, m, gs, ()))) w = none from hp]
    have h2 : lenR (u, P, ls, ()) w = ((0, 0, 12), (u, P, ls, ())) := by unfold lenR; rw [hr]; rfl
    rw [h1, h2]; exact ⟨rfl, h'⟩
  | some p =>
    rw [show per (Prod.fst (Prod.snd (u, m, gs, ()))) w = some p from hp] at hw
    obtain ⟨k1, k2, k3, k4, k5, k6, k7, k8⟩ := hw
    obtain ⟨st, ce, ⟨lf, lt, ch, ⟨⟩⟩, ⟨⟩⟩ := p
    have hr : recR (u, P, ls, ()) w = ((lf, lt, ch, ()), 0) := by rw [← hrec]; unfold recC; rw [show per (Prod.fst (Prod.snd (u, m, gs, ()))) w = _ from hp]
    have k2 : (ps (u, P, ls, ()) w).2.1 = !(st == 0) := k2
    have k3 : st = 0 ∨ st = 1 ∨ st = 2 := k3
    have k4 : st ≠ 0 → (ps (u, P, ls, ()) w).2.2.1 = (st == 2) ∧ _ ∧ _ := k4
    by_cases hst : st = 1
    · have hh : (ps (u, P, ls, ()) w).2.1 = true := by rw [k2, hst]; rfl
      have hsl : (ps (u, P, ls, ()) w).2.2.1 = false := by rw [(k4 (by omega)).1, hst]; rfl
      have hno : ¬ ((ps (u, P, ls, ()) w).2.1 = false ∨ (ps (u, P, ls, ()) w).2.2.1 = true) := by rw [hh, hsl]; simp
      by_cases hz : lf = 0
      · have h1 : lenC (u, m, gs, ()) w = ((0, 0, 11), (u, m, gs, ())) := by
          unfold lenC; simp only [hp]
          rw [if_neg (by simp [hst]), if_pos hz]
        have h2 : lenR (u, P, ls, ()) w = ((0, 0, 11), (u, P, ls, ())) := by
          unfold lenR; rw [hr, if_neg (by simp), if_neg hno, if_pos hz]
        rw [h1, h2]; exact ⟨rfl, h'⟩
      · have k8 : 0 ≤ lf := k8
        have k7 : (lf, lt, ch, ()) = ((ps (u, P, ls, ()) w).2.2.2.2.1 - lentS w ls - usedS w ls, lentS w ls, usedS w ls, ()) := k7
        have k7' := k7
        simp only [Prod.mk.injEq, and_true] at k7
        obtain ⟨q1, q2, q3⟩ := k7
        have k6 : (ps (u, P, ls, ()) w).2.2.2.2.1 ≤ 1000000000 := k6
        obtain ⟨n1, n2⟩ := sums_nonneg w e6
        have hsome : (per m w).isSome = true := by rw [hp]; rfl
        have hr16 : 1 ≤ w ∧ w ≤ 16 := by
          have k1 : knB (u, P, ls, ()) w = true := k1
          unfold knB at k1; simp at k1; exact ⟨k1.1.1, k1.1.2⟩
        obtain ⟨n, hn⟩ : ∃ n, n = if lf < u then lf else u := ⟨_, rfl⟩
        have hn1 : 0 ≤ n ∧ n ≤ lf ∧ n ≤ 1000000 := by rw [hn]; split <;> omega
        have w1 : w64 (lf - n) = lf - n := w64_id (by omega)
        have w2 : w64 (lt + n) = lt + n := w64_id (by omega)
        have h1 : lenC (u, m, gs, ()) w = (((gs.length : Int) + 1, n, 0), (u, setO m w (some (st, ce, (lf - n, lt + n, ch, ()), ())), gs ++ [some (w, n, 0, false, ())], ())) := by
          have hln : lendN (u, m, gs, ()) (st, ce, (lf, lt, ch, ()), ()) = n := hn.symm
          unfold lenC; simp only [hp]
          rw [if_neg (by simp [hst]), if_neg hz, hln, w1, w2]
        have h2 : lenR (u, P, ls, ()) w = (((ls.length : Int) + 1, n, 0), (u, P, ls ++ [(w, n, 0, 0, false, ())], ())) := by
          have hlm : lendM (u, P, ls, ()) w = n := by unfold lendM; rw [hr]; exact hn.symm
          unfold lenR; rw [hr, if_neg (by simp), if_neg hno, if_neg hz, hlm]
        rw [h1, h2]
        have hl1 : lentOf w (w, n, 0, 0, false, ()) = n := by simp [lentOf]
        have hu1 : usedOf w (w, n, 0, 0, false, ()) = 0 := by simp [usedOf]
        have hset : ∀ j, per (setO m w (some (st, ce, (lf - n, lt + n, ch, ()), ()))) j = if j = w then some (st, ce, (lf - n, lt + n, ch, ()), ()) else per m j := fun j => by
          rw [per_setO _ _ _ _ hsome]
          by_cases hj : w = j
          · rw [if_pos hj, if_pos hj.symm]
          · rw [if_neg hj, if_neg (Ne.symm hj)]
        refine ⟨by simp [hlen], books h' hp hset (by rw [setO_some]; exact e4) ?_ (fun j hj => ?_) ?_ (by show 0 ≤ lf - n; omega)⟩
        · refine Two.snoc ?_ (gl_change (set_some hsome) e6)
          exact ⟨w, n, 0, false, n, 0, rfl, rfl, hr16.1, hr16.2, set_some hsome w hsome, Int.le_refl _, hn1.1, hn1.2.2, fun h => (by cases h), fun _ => by omega⟩
        · rw [lentS_app, usedS_app]
          have a1 : lentOf j (w, n, 0, 0, false, ()) = 0 := by simp [lentOf, Ne.symm hj]
          have a2 : usedOf j (w, n, 0, 0, false, ()) = 0 := by simp [usedOf, Ne.symm hj]
          simp only [lentS, usedS, a1, a2]
          exact ⟨by simp, by simp⟩
        · rw [lentS_app, usedS_app]
          simp only [lentS, usedS, hl1, hu1, Prod.mk.injEq, and_true]
          refine ⟨?_, by omega, by omega⟩
          show lf - n = (ps (u, P, ls, ()) w).2.2.2.2.1 - _ - _
          omega
    · have h1 : lenC (u, m, gs, ()) w = ((0, 0, 9), (u, m, gs, ())) := by
        unfold lenC; simp only [hp]
        rw [if_pos (by simp [hst])]
      have hyes : (ps (u, P, ls, ()) w).2.1 = false ∨ (ps (u, P, ls, ()) w).2.2.1 = true := by
        rcases k3 with k3 | k3 | k3
        · left; rw [k2, k3]; rfl
        · exact (hst k3).elim
        · right; rw [(k4 (by omega)).1, k3]; rfl
      have h2 : lenR (u, P, ls, ()) w = ((0, 0, 9), (u, P, ls, ())) := by
        unfold lenR; rw [hr, if_neg (by simp), if_pos hyes]
      rw [h1, h2]; exact ⟨rfl, h'⟩
theorem rep_eq {c : CS} {r : RC} (h : CR c r) (q : UG) (hlen0 : (c.2.2.1.length : Int) ≤ big) : (repC c q).1 = (repR r q).1 ∧ CR (repC c q).2 (repR r q).2 := by
  have h' := h
  obtain ⟨u, m, gs, ⟨⟩⟩ := c
  obtain ⟨u', P, ls, ⟨⟩⟩ := r
  obtain ⟨gn, tn, bt, fi, ⟨⟩⟩ := q
  obtain ⟨e1, e2, e3, e4, e5, e6, e7⟩ := h
  have e1 : u = u' := e1
  subst e1
  have e6 : Two (gl m) gs ls := e6
  have hlen := Two.length e6
  by_cases hr : gn < 1 ∨ (gs.length : Int) < gn
  · have h1 : repC (u, m, gs, ()) (gn, tn, bt, fi, ()) = (6, (u, m, gs, ())) := by unfold repC; rw [if_pos hr]
    have h2 : repR (u, P, ls, ()) (gn, tn, bt, fi, ()) = (6, (u, P, ls, ())) := by unfold repR; rw [if_pos (by rw [hlen] at hr; exact hr)]
    rw [h1, h2]; exact ⟨rfl, h'⟩
  · have hr2 : ¬ (gn < 1 ∨ (ls.length : Int) < gn) := by rw [hlen] at hr; exact hr
    have hi : (gn - 1).toNat < gs.length := by omega
    have hi' : (gn - 1).toNat < ls.length := by omega
    have hgl := Two.get e6 _ hi hi'
    obtain ⟨who, has, tu, cl, bs, us, hg, hl, k1, k2, k3, k4, k5, k6, k7, k8⟩ := hgl
    have hga : grantAt (u, m, gs, ()) (gn, tn, bt, fi, ()) = (who, has, tu, cl, ()) := by
      show (gs.getD (gn - 1).toNat none).getD g0 = _
      rw [List.getD_eq_getElem?_getD, List.getElem?_eq_getElem hi, hg]; rfl
    have hla : loanAt (u, P, ls, ()) (gn, tn, bt, fi, ()) = (who, bs, us, tu, cl, ()) := by
      show ls.getD (gn - 1).toNat l0 = _
      rw [List.getD_eq_getElem?_getD, List.getElem?_eq_getElem hi', hl]; rfl
    by_cases c1 : 1 ≤ tn ∧ tn ≤ tu
    · have h1 : repC (u, m, gs, ()) (gn, tn, bt, fi, ()) = (10, (u, m, gs, ())) := by unfold repC; rw [if_neg hr, hga, if_pos c1]
      have h2 : repR (u, P, ls, ()) (gn, tn, bt, fi, ()) = (10, (u, P, ls, ())) := by unfold repR; rw [if_neg hr2, hla, if_pos (by show 0 < tn ∧ tn ≤ tu; omega)]
      rw [h1, h2]; exact ⟨rfl, h'⟩
    · have c1' : ¬ (0 < tn ∧ tn ≤ tu) := by omega
      by_cases c2 : tn = w64 (tu + 1)
      · by_cases c3 : cl = true
        · have h1 : repC (u, m, gs, ()) (gn, tn, bt, fi, ()) = (9, (u, m, gs, ())) := by unfold repC; rw [if_neg hr, hga, if_neg c1, if_neg (fun h => h c2), if_pos c3]
          have h2 : repR (u, P, ls, ()) (gn, tn, bt, fi, ()) = (9, (u, P, ls, ())) := by unfold repR; rw [if_neg hr2, hla, if_neg c1', if_neg (fun h => h c2), if_pos c3]
          rw [h1, h2]; exact ⟨rfl, h'⟩
        · have c3' : cl = false := by simpa using c3
          have hhas := k8 c3'
          have wb : w64 (bs - us) = bs - us := w64_id (by omega)
          by_cases c4 : bt < 0 ∨ has < bt
          · have h1 : repC (u, m, gs, ()) (gn, tn, bt, fi, ()) = (11, (u, m, gs, ())) := by unfold repC; rw [if_neg hr, hga, if_neg c1, if_neg (fun h => h c2), if_neg c3, if_pos c4]
            have h2 : repR (u, P, ls, ()) (gn, tn, bt, fi, ()) = (11, (u, P, ls, ())) := by unfold repR; rw [if_neg hr2, hla, if_neg c1', if_neg (fun h => h c2), if_neg c3, if_pos (by rw [wb, ← hhas]; exact c4)]
            rw [h1, h2]; exact ⟨rfl, h'⟩
          · have c4' : ¬ (bt < 0 ∨ w64 (bs - us) < bt) := by rw [wb, ← hhas]; exact c4
            obtain ⟨p, hp⟩ := Option.isSome_iff_exists.1 k3
            have hw := e7 who
            rw [show per (Prod.fst (Prod.snd (u, m, gs, ()))) who = some p from hp] at hw
            obtain ⟨g1, g2, g3, g4, g5, g6, g7, g8⟩ := hw
            obtain ⟨st, ce, ⟨lf, lt, ch, ⟨⟩⟩, ⟨⟩⟩ := p
            have g8 : 0 ≤ lf := g8
            have g7 : (lf, lt, ch, ()) = ((ps (u, P, ls, ()) who).2.2.2.2.1 - lentS who ls - usedS who ls, lentS who ls, usedS who ls, ()) := g7
            simp only [Prod.mk.injEq, and_true] at g7
            obtain ⟨q1, q2, q3⟩ := g7
            have g6 : (ps (u, P, ls, ()) who).2.2.2.2.1 ≤ 1000000000 := g6
            obtain ⟨n1, n2⟩ := sums_nonneg who e6
            obtain ⟨s1, s2⟩ := sum_at who e6 _ hi'
            rw [hl] at s1 s2
            have o1 : lentOf who (who, bs, us, tu, cl, ()) = bs - us := by simp [lentOf, c3']
            have o2 : usedOf who (who, bs, us, tu, cl, ()) = us := by simp [usedOf]
            rw [o1] at s1
            rw [o2] at s2
            have w1 : w64 (lt - bt) = lt - bt := w64_id (by omega)
            have w2 : w64 (ch + bt) = ch + bt := w64_id (by omega)
            have w3 : w64 (us + bt) = us + bt := w64_id (by omega)
            have w4 : w64 (has - bt) = has - bt := w64_id (by omega)
            have w5 : w64 (lf + (has - bt)) = lf + (has - bt) := w64_id (by omega)
            have w6 : w64 (lt - bt - (has - bt)) = lt - bt - (has - bt) := w64_id (by omega)
            have hsome : (per m who).isSome = true := k3
            have hrp : repP m who bt = setO m who (some (st, ce, (lf, lt - bt, ch + bt, ()), ())) := by
              unfold repP; simp only [hp, Option.getD_some, w1, w2]
            have hper1 : ∀ j, per (repP m who bt) j = if j = who then some (st, ce, (lf, lt - bt, ch + bt, ()), ()) else per m j := fun j => by
              rw [hrp, per_setO _ _ _ _ hsome]
              by_cases hj : who = j
              · rw [if_pos hj, if_pos hj.symm]
              · rw [if_neg hj, if_neg (Ne.symm hj)]
            have hls : ∀ (l : LN) (j : Int), lentS j (ls.set (gn - 1).toNat l) = lentS j ls - lentOf j (who, bs, us, tu, cl, ()) + lentOf j l ∧ usedS j (ls.set (gn - 1).toNat l) = usedS j ls - usedOf j (who, bs, us, tu, cl, ()) + usedOf j l := fun l j => by
              have a1 := lentS_set j ls _ hi' l
              have a2 := usedS_set j ls _ hi' l
              rw [hl] at a1 a2
              exact ⟨a1, a2⟩
            have hoth : ∀ (l : LN), l.1 = who → ∀ j, j ≠ who → lentS j (ls.set (gn - 1).toNat l) = lentS j ls ∧ usedS j (ls.set (gn - 1).toNat l) = usedS j ls := fun l hl1 j hj => by
              obtain ⟨a1, a2⟩ := hls l j
              have b1 : lentOf j (who, bs, us, tu, cl, ()) = 0 := by simp [lentOf, Ne.symm hj]
              have b2 : usedOf j (who, bs, us, tu, cl, ()) = 0 := by simp [usedOf, Ne.symm hj]
              have b3 : lentOf j l = 0 := by unfold lentOf; rw [if_neg (fun h => hj (h.1.symm.trans hl1))]
              have b4 : usedOf j l = 0 := by unfold usedOf; rw [if_neg (fun h => hj (h.symm.trans hl1))]
              rw [a1, a2, b1, b2, b3, b4]; simp
            have h2 : repR (u, P, ls, ()) (gn, tn, bt, fi, ()) = (0, (u, P, ls.set (gn - 1).toNat (who, bs, us + bt, tn, fi, ()), ())) := by
              unfold repR; rw [if_neg hr2, hla, if_neg c1', if_neg (fun h => h c2), if_neg c3, if_neg c4', w3]
            rw [h2]
            cases fi with
            | false =>
              have h1 : repC (u, m, gs, ()) (gn, tn, bt, false, ()) = (0, (u, repP m who bt, gs.set (gn - 1).toNat (some (who, has - bt, tn, cl, ())), ())) := by
                unfold repC; rw [if_neg hr, hga, if_neg c1, if_neg (fun h => h c2), if_neg c3, if_neg c4, if_neg (by simp)]
                simp only [repG, w4, ← c2]
              rw [h1]
              refine ⟨rfl, books h' hp hper1 (by rw [hrp, setO_some]; exact e4) ?_ (hoth _ rfl) ?_ g8⟩
              · refine Two.set ?_ (gl_change (fun j hj => by rw [hper1]; split; rfl; exact hj) e6) _
                exact ⟨who, has - bt, tn, false, bs, us + bt, by rw [c3'], rfl, k1, k2, by rw [hper1, if_pos rfl]; rfl, by omega, by omega, k6, fun h => (by cases h), fun _ => by omega⟩
              · obtain ⟨a1, a2⟩ := hls (who, bs, us + bt, tn, false, ()) who
                have b3 : lentOf who (who, bs, us + bt, tn, false, ()) = bs - (us + bt) := by simp [lentOf]
                have b4 : usedOf who (who, bs, us + bt, tn, false, ()) = us + bt := by simp [usedOf]
                rw [a1, a2, o1, o2, b3, b4]
                simp only [Prod.mk.injEq, and_true]
                refine ⟨?_, by omega, by omega⟩
                show lf = (ps (u, P, ls, ()) who).2.2.2.2.1 - _ - _
                omega
            | true =>
              have hper1w : per (repP m who bt) who = some (st, ce, (lf, lt - bt, ch + bt, ()), ()) := by rw [hper1, if_pos rfl]
              have hsome1 : (per (repP m who bt) who).isSome = true := by rw [hper1w]; rfl
              have hsp : shutP (repP m who bt) (who, has - bt, tn, cl, ()) = setO (repP m who bt) who (some (st, ce, (lf + (has - bt), lt - bt - (has - bt), ch + bt, ()), ())) := by
                unfold shutP; simp only [hper1w, Option.getD_some, w5, w6]
              have h1 : repC (u, m, gs, ()) (gn, tn, bt, true, ()) = (0, (u, shutP (repP m who bt) (who, has - bt, tn, cl, ()), gs.set (gn - 1).toNat (some (who, 0, tn, true, ())), ())) := by
                unfold repC; rw [if_neg hr, hga, if_neg c1, if_neg (fun h => h c2), if_neg c3, if_neg c4, if_pos rfl]
                simp only [repG, shutG, w4, ← c2]
              rw [h1, hsp]
              have hper2 : ∀ j, per (setO (repP m who bt) who (some (st, ce, (lf + (has - bt), lt - bt - (has - bt), ch + bt, ()), ()))) j = if j = who then some (st, ce, (lf + (has - bt), lt - bt - (has - bt), ch + bt, ()), ()) else per m j := fun j => by
                rw [per_setO _ _ _ _ hsome1]
                by_cases hj : who = j
                · rw [if_pos hj, if_pos hj.symm]
                · rw [if_neg hj, if_neg (Ne.symm hj), hper1, if_neg (Ne.symm hj)]
              refine ⟨rfl, books h' hp hper2 (by rw [setO_some, hrp, setO_some]; exact e4) ?_ (hoth _ rfl) ?_ (by show 0 ≤ lf + (has - bt); omega)⟩
              · refine Two.set ?_ (gl_change (fun j hj => by rw [hper2]; split; rfl; exact hj) e6) _
                exact ⟨who, 0, tn, true, bs, us + bt, rfl, rfl, k1, k2, by rw [hper2, if_pos rfl]; rfl, by omega, by omega, k6, fun _ => rfl, fun h => (by cases h)⟩
              · obtain ⟨a1, a2⟩ := hls (who, bs, us + bt, tn, true, ()) who
                have b3 : lentOf who (who, bs, us + bt, tn, true, ()) = 0 := by simp [lentOf]
                have b4 : usedOf who (who, bs, us + bt, tn, true, ()) = us + bt := by simp [usedOf]
                rw [a1, a2, o1, o2, b3, b4]
                simp only [Prod.mk.injEq, and_true]
                refine ⟨?_, by omega, by omega⟩
                show lf + (has - bt) = (ps (u, P, ls, ()) who).2.2.2.2.1 - _ - _
                omega
      · have h1 : repC (u, m, gs, ()) (gn, tn, bt, fi, ()) = (3, (u, m, gs, ())) := by unfold repC; rw [if_neg hr, hga, if_neg c1, if_pos c2]
        have h2 : repR (u, P, ls, ()) (gn, tn, bt, fi, ()) = (3, (u, P, ls, ())) := by unfold repR; rw [if_neg hr2, hla, if_neg c1', if_pos c2]
        rw [h1, h2]; exact ⟨rfl, h'⟩
end Go.Spec
