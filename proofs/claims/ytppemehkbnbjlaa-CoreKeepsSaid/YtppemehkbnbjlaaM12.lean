/- A core's books are kept by whatever is done. -/
import Derived.Test.YtppemehkbnbjlaaM11
set_option linter.unusedVariables false
set_option linter.unusedSimpArgs false
namespace Go.Spec
open Go Go.Lift
theorem rep_ok {c : CS} {r : RC} (h : CR c r) (u : UG) (hl : (c.2.2.1.length : Int) ≤ big) (hok : (repC c u).1 = 0) :
    1 ≤ u.1 ∧ u.1 ≤ r.2.2.1.length ∧ ∃ (hi : (u.1 - 1).toNat < r.2.2.1.length), (repR r u).2 = (r.1, r.2.1, r.2.2.1.set (u.1 - 1).toNat (r.2.2.1[(u.1 - 1).toNat].1, r.2.2.1[(u.1 - 1).toNat].2.1, w64 (r.2.2.1[(u.1 - 1).toNat].2.2.1 + u.2.2.1), u.2.1, u.2.2.2.1, r.2.2.1[(u.1 - 1).toNat].2.2.2.2.2), r.2.2.2) ∧
      u.2.1 = w64 (r.2.2.1[(u.1 - 1).toNat].2.2.2.1 + 1) ∧ 0 ≤ u.2.2.1 ∧ u.2.2.1 ≤ 1000000 := by
  have hr : (repR r u).1 = 0 := by rw [← (rep_eq h u hl).1]; exact hok
  have ht := h.2.2.2.2.2.1
  unfold repR at hr
  by_cases c0 : u.1 < 1 ∨ (r.2.2.1.length : Int) < u.1
  · rw [if_pos c0] at hr; simp at hr
  · rw [if_neg c0] at hr
    have hi : (u.1 - 1).toNat < r.2.2.1.length := by omega
    have hla : loanAt r u = r.2.2.1[(u.1 - 1).toNat] := by
      unfold loanAt; rw [List.getD_eq_getElem?_getD, List.getElem?_eq_getElem hi]; rfl
    by_cases c1 : 0 < u.2.1 ∧ u.2.1 ≤ (loanAt r u).2.2.2.1
    · rw [if_pos c1] at hr; simp at hr
    · rw [if_neg c1] at hr
      by_cases c2 : u.2.1 ≠ w64 ((loanAt r u).2.2.2.1 + 1)
      · rw [if_pos c2] at hr; simp at hr
      · rw [if_neg c2] at hr
        by_cases c3 : (loanAt r u).2.2.2.2.1 = true
        · rw [if_pos c3] at hr; simp at hr
        · rw [if_neg c3] at hr
          by_cases c4 : u.2.2.1 < 0 ∨ w64 ((loanAt r u).2.1 - (loanAt r u).2.2.1) < u.2.2.1
          · rw [if_pos c4] at hr; simp at hr
          · refine ⟨by omega, by omega, hi, ?_, ?_, by omega, ?_⟩
            · unfold repR
              rw [if_neg c0, if_neg c1, if_neg c2, if_neg c3, if_neg c4, hla]
            · rw [← hla]; simpa using c2
            · obtain ⟨who, has, tu, cl, bs, us, _, e2, _, _, _, k4, k5, k6, _⟩ := Two.get ht _ (by rw [Two.length ht]; exact hi) hi
              rw [hla, e2] at c4
              have c4 : ¬ (u.2.2.1 < 0 ∨ w64 (bs - us) < u.2.2.1) := c4
              rw [w64_id (by omega)] at c4
              omega
theorem big_len {c : CS} {r : RC} (h : CR c r) (hn : (r.2.2.1.length : Int) ≤ 1000000000000000) : (c.2.2.1.length : Int) ≤ big := by
  rw [Two.length h.2.2.2.2.2.1]; unfold big; omega
/-- A report that is taken. -/
theorem KI_report {n : Int} {c : CS} {q ch : List Int} {wh : Option (List (Int × Int))} (h : KI n c q ch wh) (hn : n ≤ 100000000000000) (u : UG) (hok : (repC c u).1 = 0) :
    ∃ w, getO wh u.1 = some w ∧ 1 ≤ w ∧ w ≤ 16 ∧ KI (n + 1) (repC c u).2 q (ch.set w.toNat (w64 (ch.getD w.toNat 0 + u.2.2.1))) wh ∧ repC (repC c u).2 u = (10, (repC c u).2) := by
  obtain ⟨r, hc, hq, hch, hwh, hl, hk, hg⟩ := h
  have hb := big_len hc (by omega)
  obtain ⟨u1, u2, hi, hr, ht, hb0, hb1⟩ := rep_ok hc u hb hok
  obtain ⟨_, hc2⟩ := rep_eq hc u hb
  have htwo := hc.2.2.2.2.2.1
  obtain ⟨who, has, tu, cl, bs, us, e1, e2, k1, k2, k3, k4, k5, k6, _⟩ := Two.get htwo _ (by rw [Two.length htwo]; exact hi) hi
  obtain ⟨g1, g2, g3⟩ := hg _ hi
  have ei : (((u.1 - 1).toNat : Nat) : Int) + 1 = u.1 := by omega
  rw [ei, e2] at g1
  rw [e2] at g2 g3 ht hr
  have g1 : getO wh u.1 = some who := g1
  have g2 : 0 ≤ tu := g2
  have g3 : tu ≤ n := g3
  have ht : u.2.1 = w64 (tu + 1) := ht
  rw [w64_id (by omega)] at ht
  -- what is charged stays small
  have hper : ∃ p, per c.2.1 who = some p := Option.isSome_iff_exists.1 k3
  obtain ⟨p, hp⟩ := hper
  have hpo := hc.2.2.2.2.2.2 who
  rw [hp] at hpo
  obtain ⟨_, _, _, _, q5, q6, q7, q8⟩ := hpo
  rw [q7] at q8
  have q8 : 0 ≤ (ps r who).2.2.2.2.1 - lentS who r.2.2.1 - usedS who r.2.2.1 := q8
  obtain ⟨n1, n2⟩ := sums_nonneg who htwo
  have hus : usedS who r.2.2.1 ≤ 1000000000 := by omega
  have wus : w64 (us + u.2.2.1) = us + u.2.2.1 := w64_id (by omega)
  have hchw := (hk who k1 k2).1
  have wch : w64 (ch.getD who.toNat 0 + u.2.2.1) = usedS who r.2.2.1 + u.2.2.1 := by rw [hchw]; exact w64_id (by omega)
  have hr : (repR r u).2 = (r.1, r.2.1, r.2.2.1.set (u.1 - 1).toNat (who, bs, us + u.2.2.1, u.2.1, u.2.2.2.1, ()), r.2.2.2) := by rw [hr]; show _ = _; rw [wus]
  rw [hr] at hc2
  refine ⟨who, g1, k1, k2, ⟨_, hc2, hq, by simp [hch], hwh, by show ((r.2.2.1.set _ _).length : Int) ≤ n + 1; simp; omega, fun k h1 h2 => ?_, fun i hi2 => ?_⟩, ?_⟩
  · refine ⟨?_, (hk k h1 h2).2⟩
    show _ = usedS k (r.2.2.1.set (u.1 - 1).toNat (who, bs, us + u.2.2.1, u.2.1, u.2.2.2.1, ()))
    rw [usedS_set k _ _ hi, e2, wch]
    by_cases hkw : k = who
    · subst hkw
      rw [List.getD_eq_getElem?_getD, List.getElem?_set_self (by omega)]
      simp [usedOf]; omega
    · rw [List.getD_eq_getElem?_getD, List.getElem?_set_ne (by omega), ← List.getD_eq_getElem?_getD, (hk k h1 h2).1]
      simp [usedOf, Ne.symm hkw]
  · have hi3 : i < r.2.2.1.length := by simpa using hi2
    obtain ⟨j1, j2, j3⟩ := hg i hi3
    show getO wh ((i : Int) + 1) = some (r.2.2.1.set (u.1 - 1).toNat (who, bs, us + u.2.2.1, u.2.1, u.2.2.2.1, ()))[i].1 ∧ _
    by_cases hii : (u.1 - 1).toNat = i
    · subst hii
      simp only [List.getElem_set_self]
      rw [e2] at j1
      refine ⟨j1, ?_, ?_⟩
      · show 0 ≤ u.2.1; omega
      · show u.2.1 ≤ n + 1; omega
    · simp only [List.getElem_set_ne hii]
      exact ⟨j1, j2, by omega⟩
  · -- the same report again
    obtain ⟨gn, tn, bt, fi, ⟨⟩⟩ := u
    obtain ⟨u0, m, gs, ⟨⟩⟩ := c
    have hlen := Two.length htwo
    have hlen : gs.length = r.2.2.1.length := hlen
    have hrng : ¬ (gn < 1 ∨ (gs.length : Int) < gn) := by
      have u1 : 1 ≤ gn := u1
      have u2 : gn ≤ r.2.2.1.length := u2
      omega
    have hi' : (gn - 1).toNat < gs.length := by
      have hi : (gn - 1).toNat < r.2.2.1.length := hi
      omega
    have e1 : gs[(gn - 1).toNat] = some (who, has, tu, cl, ()) := e1
    have hga : grantAt (u0, m, gs, ()) (gn, tn, bt, fi, ()) = (who, has, tu, cl, ()) := by
      show (gs.getD (gn - 1).toNat none).getD g0 = _
      rw [List.getD_eq_getElem?_getD, List.getElem?_eq_getElem hi', e1]; rfl
    have ht : tn = tu + 1 := ht
    have hok' := hok
    have wtu : w64 (tu + 1) = tu + 1 := w64_id (by omega)
    unfold repC at hok'
    rw [if_neg hrng, hga] at hok'
    have hform : ∃ m1 g1, (repC (u0, m, gs, ()) (gn, tn, bt, fi, ())).2 = (u0, m1, gs.set (gn - 1).toNat (some g1), ()) ∧ g1.2.2.1 = tu + 1 := by
      unfold repC
      rw [if_neg hrng, hga]
      by_cases c1 : 1 ≤ tn ∧ tn ≤ tu
      · rw [if_pos c1] at hok'; simp at hok'
      · rw [if_neg c1] at hok'
        by_cases c2 : tn ≠ w64 (tu + 1)
        · rw [if_pos c2] at hok'; simp at hok'
        · rw [if_neg c2] at hok'
          by_cases c3 : cl = true
          · rw [if_pos c3] at hok'; simp at hok'
          · rw [if_neg c3] at hok'
            by_cases c4 : bt < 0 ∨ has < bt
            · rw [if_pos c4] at hok'; simp at hok'
            · rw [if_neg c1, if_neg c2, if_neg c3, if_neg c4]
              cases fi with
              | true => exact ⟨_, _, rfl, wtu⟩
              | false => exact ⟨_, _, rfl, wtu⟩
    obtain ⟨m1, g1, hf, hg1⟩ := hform
    rw [hf]
    have hga2 : grantAt (u0, m1, gs.set (gn - 1).toNat (some g1), ()) (gn, tn, bt, fi, ()) = g1 := by
      show ((gs.set (gn - 1).toNat (some g1)).getD (gn - 1).toNat none).getD g0 = _
      rw [List.getD_eq_getElem?_getD, List.getElem?_set_self hi']; rfl
    unfold repC
    rw [if_neg (by show ¬ (gn < 1 ∨ ((gs.set (gn - 1).toNat (some g1)).length : Int) < gn); simpa using hrng), hga2, if_pos (by rw [hg1]; show 1 ≤ tn ∧ tn ≤ tu + 1; omega)]
theorem usedS_leaR (r : RC) (hl : r.2.1.length = 17) (w k : Int) : usedS k (leaR r w).2.2.2.1 = usedS k r.2.2.1 ∧ (leaR r w).2.2.2.1.length = r.2.2.1.length ∧ (∀ i (h : i < (leaR r w).2.2.2.1.length) (h' : i < r.2.2.1.length), (leaR r w).2.2.2.1[i].1 = r.2.2.1[i].1 ∧ (leaR r w).2.2.2.1[i].2.2.2.1 = r.2.2.1[i].2.2.2.1) ∧
    (1 ≤ k → knB (leaR r w).2 k = true → (ps (leaR r w).2 k).2.2.2.2.1 = (ps r k).2.2.2.2.1 ∧ knB r k = true) := by
  have triv : usedS k r.2.2.1 = usedS k r.2.2.1 ∧ r.2.2.1.length = r.2.2.1.length ∧ (∀ i (_ : i < r.2.2.1.length) (h' : i < r.2.2.1.length), r.2.2.1[i].1 = r.2.2.1[i].1 ∧ r.2.2.1[i].2.2.2.1 = r.2.2.1[i].2.2.2.1) ∧ (1 ≤ k → knB r k = true → (ps r k).2.2.2.2.1 = (ps r k).2.2.2.2.1 ∧ knB r k = true) :=
    ⟨rfl, rfl, fun _ _ _ => ⟨rfl, rfl⟩, fun _ h => ⟨rfl, h⟩⟩
  unfold leaR
  by_cases hk : knB r w = false
  · rw [if_pos hk]; exact triv
  · rw [if_neg hk]
    by_cases hh : (ps r w).2.1 = false
    · rw [if_pos hh]; exact triv
    · rw [if_neg hh]
      have hk : knB r w = true := by simpa using hk
      have hw : 1 ≤ w ∧ w ≤ 16 := by unfold knB at hk; simp at hk; exact ⟨hk.1.1, hk.1.2⟩
      refine ⟨usedS_shut w k _, by simp, fun i h h' => ?_, fun h1 h2 => ?_⟩
      · simp only [List.getElem_map, shutR]
        split <;> exact ⟨rfl, rfl⟩
      · have h2 : knB (r.1, r.2.1.set w.toNat ((ps r w).1, false, (ps r w).2.2), r.2.2.1.map (shutR w), ()) k = true := h2
        show (ps (r.1, r.2.1.set w.toNat ((ps r w).1, false, (ps r w).2.2), r.2.2.1.map (shutR w), ()) k).2.2.2.2.1 = _ ∧ _
        rw [knB_set hl hw.1 hw.2] at h2
        rw [ps_set hl hw.1 hw.2 _ _ _ h1]
        by_cases hwk : w = k
        · subst hwk; rw [if_pos rfl]; exact ⟨rfl, hk⟩
        · rw [if_neg hwk] at h2 ⊢; exact ⟨rfl, h2⟩
theorem attR_keeps (r : RC) (hl : r.2.1.length = 17) (w cell k : Int) : (attR r w cell).2.2.2.1 = r.2.2.1 ∧ (1 ≤ k → knB (attR r w cell).2 k = true → (ps (attR r w cell).2 k).2.2.2.2.1 = (ps r k).2.2.2.2.1 ∧ knB r k = true) := by
  unfold attR
  by_cases hk : knB r w = false
  · rw [if_pos hk]; exact ⟨rfl, fun _ h => ⟨rfl, h⟩⟩
  rw [if_neg hk]
  have hk : knB r w = true := by simpa using hk
  have hw : 1 ≤ w ∧ w ≤ 16 := by unfold knB at hk; simp at hk; exact ⟨hk.1.1, hk.1.2⟩
  by_cases hc : isC cell = false
  · rw [if_pos hc]; exact ⟨rfl, fun _ h => ⟨rfl, h⟩⟩
  rw [if_neg hc]
  by_cases hh : (ps r w).2.1 = true
  · rw [if_pos hh]; exact ⟨rfl, fun _ h => ⟨rfl, h⟩⟩
  rw [if_neg hh]
  refine ⟨rfl, fun h1 h2 => ?_⟩
  have h2 : knB (r.1, r.2.1.set w.toNat ((ps r w).1, true, false, cell, (ps r w).2.2.2.2), r.2.2.1, ()) k = true := h2
  show (ps (r.1, r.2.1.set w.toNat ((ps r w).1, true, false, cell, (ps r w).2.2.2.2), r.2.2.1, ()) k).2.2.2.2.1 = _ ∧ _
  rw [knB_set hl hw.1 hw.2] at h2
  rw [ps_set hl hw.1 hw.2 _ _ _ h1]
  by_cases hwk : w = k
  · subst hwk; rw [if_pos rfl]; exact ⟨rfl, hk⟩
  · rw [if_neg hwk] at h2 ⊢; exact ⟨rfl, h2⟩
theorem KI_mono {n n' : Int} {c : CS} {q ch : List Int} {wh : Option (List (Int × Int))} (h : KI n c q ch wh) (hn : n ≤ n') : KI n' c q ch wh := by
  obtain ⟨r, hc, hq, hch, hwh, hl, hk, hg⟩ := h
  exact ⟨r, hc, hq, hch, hwh, by omega, hk, fun i hi => ⟨(hg i hi).1, (hg i hi).2.1, by have := (hg i hi).2.2; omega⟩⟩
theorem KI_leave {n : Int} {c : CS} {q ch : List Int} {wh : Option (List (Int × Int))} (h : KI n c q ch wh) (w : Int) : KI n (leaC c w).2 q ch wh := by
  obtain ⟨r, hc, hq, hch, hwh, hl, hk, hg⟩ := h
  obtain ⟨_, hc2⟩ := lea_eq hc w
  have h17 := hc.2.2.2.2.1
  refine ⟨_, hc2, hq, hch, hwh, by rw [(usedS_leaR r h17 w 0).2.1]; exact hl, fun k h1 h2 => ?_, fun i hi => ?_⟩
  · obtain ⟨a1, a2, a3, a4⟩ := usedS_leaR r h17 w k
    refine ⟨by rw [a1]; exact (hk k h1 h2).1, fun h3 => ?_⟩
    obtain ⟨b1, b2⟩ := a4 h1 h3
    rw [b1]; exact (hk k h1 h2).2 b2
  · obtain ⟨a1, a2, a3, a4⟩ := usedS_leaR r h17 w 0
    have hi' : i < r.2.2.1.length := by rw [← a2]; exact hi
    obtain ⟨b1, b2⟩ := a3 i hi hi'
    rw [b1, b2]; exact hg i hi'
theorem KI_attach {n : Int} {c : CS} {q ch : List Int} {wh : Option (List (Int × Int))} (h : KI n c q ch wh) (w cell : Int) : KI n (attC c w cell).2 q ch wh := by
  obtain ⟨r, hc, hq, hch, hwh, hl, hk, hg⟩ := h
  obtain ⟨_, hc2⟩ := att_eq hc w cell
  have h17 := hc.2.2.2.2.1
  have e := (attR_keeps r h17 w cell 0).1
  refine ⟨_, hc2, hq, hch, hwh, by rw [e]; exact hl, fun k h1 h2 => ?_, fun i hi => ?_⟩
  · obtain ⟨a1, a2⟩ := attR_keeps r h17 w cell k
    refine ⟨by rw [a1]; exact (hk k h1 h2).1, fun h3 => ?_⟩
    obtain ⟨b1, b2⟩ := a2 h1 h3
    rw [b1]; exact (hk k h1 h2).2 b2
  · have hi' : i < r.2.2.1.length := by rw [← e]; exact hi
    have : (attR r w cell).2.2.2.1[i] = r.2.2.1[i] := by
      congr 1
    rw [this]; exact hg i hi'
/-- Somebody is lent something, or is not. -/
theorem KI_lend {n : Int} {c : CS} {q ch : List Int} {wh : Option (List (Int × Int))} (h : KI n c q ch wh) (w : Int) :
    ((lenC c w).1.2.2 = 0 → KI (n + 1) (lenC c w).2 q ch (putO wh (lenC c w).1.1 w)) ∧ ((lenC c w).1.2.2 ≠ 0 → (lenC c w).2 = c) := by
  obtain ⟨r, hc, hq, hch, hwh, hl, hk, hg⟩ := h
  obtain ⟨e1, hc2⟩ := len_eq hc w
  have hrec := rec_eq hc w
  refine ⟨fun h0 => ?_, fun h0 => ?_⟩
  · rw [e1] at h0 ⊢
    unfold lenR at h0 hc2 ⊢
    by_cases k0 : (recR r w).2 ≠ 0
    · rw [if_pos k0] at h0; exact (k0 h0).elim
    rw [if_neg k0] at h0 hc2 ⊢
    by_cases k1 : (ps r w).2.1 = false ∨ (ps r w).2.2.1 = true
    · rw [if_pos k1] at h0; simp at h0
    rw [if_neg k1] at h0 hc2 ⊢
    by_cases k2 : (recR r w).1.1 = 0
    · rw [if_pos k2] at h0; simp at h0
    rw [if_neg k2] at hc2 ⊢
    refine ⟨_, hc2, hq, hch, ?_, by show ((r.2.2.1 ++ _).length : Int) ≤ n + 1; simp; omega, fun k h1 h2 => ⟨?_, (hk k h1 h2).2⟩, fun i hi => ?_⟩
    · cases wh with
      | none => cases hwh
      | some es => rfl
    · show _ = usedS k (r.2.2.1 ++ [(w, lendM r w, 0, 0, false, ())])
      rw [usedS_app, (hk k h1 h2).1]
      simp [usedS, usedOf]
    · have hi' : i < r.2.2.1.length + 1 := by simpa using hi
      show getO (putO wh ((r.2.2.1.length : Int) + 1) w) ((i : Int) + 1) = some (r.2.2.1 ++ [(w, lendM r w, 0, 0, false, ())])[i].1 ∧ 0 ≤ (r.2.2.1 ++ [(w, lendM r w, 0, 0, false, ())])[i].2.2.2.1 ∧ (r.2.2.1 ++ [(w, lendM r w, 0, 0, false, ())])[i].2.2.2.1 ≤ n + 1
      have hput : getO (putO wh ((r.2.2.1.length : Int) + 1) w) ((i : Int) + 1) = if (r.2.2.1.length : Int) + 1 = (i : Int) + 1 then some w else getO wh ((i : Int) + 1) := by
        cases wh with
        | none => cases hwh
        | some es => exact getE_putE es _ _ _
      rw [hput]
      by_cases hii : i < r.2.2.1.length
      · rw [if_neg (by omega)]
        simp only [List.getElem_append_left hii]
        obtain ⟨j1, j2, j3⟩ := hg i hii
        exact ⟨j1, j2, by omega⟩
      · have hie : i = r.2.2.1.length := by omega
        subst hie
        simp
        omega
  · unfold lenC at h0 ⊢
    cases hp : per c.2.1 w with
    | none => rfl
    | some p =>
      simp only [hp] at h0 ⊢
      by_cases k0 : p.1 ≠ 1
      · rw [if_pos k0]
      rw [if_neg k0] at h0 ⊢
      by_cases k1 : p.2.2.1.1 = 0
      · rw [if_pos k1]
      rw [if_neg k1] at h0
      exact (h0 rfl).elim
theorem KI_grants {n : Int} {c : CS} {q ch : List Int} {wh : Option (List (Int × Int))} (h : KI n c q ch wh) (hn : n ≤ 100000000000000) : c.2.1.isSome = true ∧ grantsOK c.2.1 c.2.2.1 ∧ (c.2.2.1.length : Int) ≤ big ∧ (c.2.2.1.length : Int) ≤ n ∧ wh.isSome = true ∧ q.length = 17 ∧ ch.length = 17 := by
  obtain ⟨r, hc, hq, hch, hwh, hl, hk, hg⟩ := h
  have hlen := Two.length hc.2.2.2.2.2.1
  have h1 := hc.2.2.2.1
  have h2 : grantsOK c.2.1 c.2.2.1 := fun g hg => by
    obtain ⟨l, who, has, tu, cl, bs, us, e, _, _, _, e5, _⟩ := Two.left hc.2.2.2.2.2.1 g hg
    subst e
    exact ⟨rfl, e5⟩
  exact ⟨h1, h2, big_len hc (by omega), by omega, hwh, hq, hch⟩
/-- The books are right. -/
theorem KI_books {n : Int} {c : CS} {q ch : List Int} {wh : Option (List (Int × Int))} (h : KI n c q ch wh) {k : Int} (h1 : 1 ≤ k) (h2 : k ≤ 16) (h3 : (recC c k).2 = 0) :
    w64 (w64 ((recC c k).1.1 + (recC c k).1.2.1) + (recC c k).1.2.2.1) = q.getD k.toNat 0 ∧ (recC c k).1.2.2.1 = ch.getD k.toNat 0 ∧ 0 ≤ (recC c k).1.1 ∧ 0 ≤ (recC c k).1.2.1 := by
  obtain ⟨r, hc, hq, hch, hwh, hl, hk, hg⟩ := h
  obtain ⟨b1, b2⟩ := hk k h1 h2
  have hpo := hc.2.2.2.2.2.2 k
  unfold recC at h3 ⊢
  cases hp : per c.2.1 k with
  | none => simp only [hp] at h3; simp at h3
  | some p =>
    rw [hp] at hpo
    obtain ⟨q1, q2, q3, q4, q5, q6, q7, q8⟩ := hpo
    have b2 := b2 q1
    obtain ⟨n1, n2⟩ := sums_nonneg k hc.2.2.2.2.2.1
    have q8' := q8
    rw [q7] at q8'
    have q8' : 0 ≤ (ps r k).2.2.2.2.1 - lentS k r.2.2.1 - usedS k r.2.2.1 := q8'
    simp only [q7]
    rw [w64_id (n := _ + lentS k r.2.2.1) (by omega), w64_id (by omega), b1, b2]
    exact ⟨by omega, rfl, q8', n1⟩
end Go.Spec
