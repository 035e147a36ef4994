/- The document's core, run through. -/
import Derived.Test.YtppemehkbnbjlaaP4
set_option linter.unusedVariables false
set_option linter.unusedSimpArgs false
namespace Go.Spec
open Go Go.Lift Go.Proofs
attribute [local irreducible] Go.Lift.awp Go.Lift.LoopOK Go.Lift.SumOK
theorem ok_core_Core_Leave : SumOK Try.prog 65 S_core_Core_Leave := by
  refine whole_core_Core_Leave ok_core_isCell l_core_Core_Leave_0 ?_
  intro a0 a1 hp
  obtain ⟨u, m, gs, ⟨⟩⟩ := a0
  obtain ⟨h1, h2, h3⟩ := hp
  have h2 : grantsOK m gs := h2
  have h3 : (gs.length : Int) ≤ big := h3
  have h3' : (gs.length : Int) ≤ 9223372036854775806 := by unfold big at h3; omega
  have h0 := big0
  unfold W_core_Core_Leave
  refine ⟨rfl, fun h => (by rw [Option.isNone_iff_eq_none.1 h]; rfl), fun v2 hv => ?_⟩
  have hs0 : setO m a1 v2 = m := by rw [hv]; exact setO_getD m a1
  have hpv : per m a1 = v2 := hv.symm
  cases v2 with
  | none =>
    have e : leaC (u, m, gs, ()) a1 = (12, (u, m, gs, ())) := by
      have hm : moveC (u, m, gs, ()) a1 [] (fun p => p.1 != 0) 0 0 = (12, (u, m, gs, ())) := by unfold moveC; simp only [hpv]
      unfold leaC; rw [hm]; rfl
    rw [e, condP_iff]
    refine ⟨fun _ => ?_, fun h => (by cases h)⟩
    rw [condP_iff]
    refine ⟨fun _ => ⟨rfl, ?_, trivial⟩, fun h => (by simp at h)⟩
    show (u, setO m a1 none, gs, ()) = (u, m, gs, ())
    rw [hs0]
  | some p =>
    obtain ⟨st, ce, rc, ⟨⟩⟩ := p
    rw [condP_iff]
    refine ⟨fun h => (by cases h), fun _ => ⟨h0, ?_⟩⟩
    rw [condP_iff]
    refine ⟨fun h => (by simp at h), fun _ => ⟨rfl, ?_⟩⟩
    simp only [Option.getD_some]
    rw [condP_iff]
    by_cases hst : st = 0
    · have e : leaC (u, m, gs, ()) a1 = (9, (u, m, gs, ())) := by
        have hm : moveC (u, m, gs, ()) a1 [] (fun p => p.1 != 0) 0 0 = (9, (u, m, gs, ())) := by unfold moveC; simp [hpv, hst]
        unfold leaC; rw [hm]; rfl
      rw [e]
      refine ⟨fun _ => ?_, fun h => (by simp [hst] at h)⟩
      rw [condP_iff]
      refine ⟨fun _ => ⟨rfl, ?_, trivial⟩, fun h => (by simp at h)⟩
      show (u, setO m a1 (some (st, ce, rc, ())), gs, ()) = (u, m, gs, ())
      rw [hs0]
    · refine ⟨fun h => (by simp [hst] at h), fun _ => ?_⟩
      rw [condP_iff]
      refine ⟨fun h => (by simp at h), fun _ => ?_⟩
      have hsome : (per m a1).isSome = true := by rw [hpv]; rfl
      have hm : moveC (u, m, gs, ()) a1 [] (fun p => p.1 != 0) 0 0 = (0, (u, setO m a1 (some (0, 0, rc, ())), gs, ())) := by unfold moveC; simp [hpv, hst]
      have e : leaC (u, m, gs, ()) a1 = (0, (u, (shutL a1 gs (setO m a1 (some (0, 0, rc, ())))).1, (shutL a1 gs (setO m a1 (some (0, 0, rc, ())))).2, ())) := by
        unfold leaC; rw [hm]; rfl
      rw [e]
      refine ⟨⟨rfl, Int.le_refl _, by omega, h3', ?_⟩, rfl, rfl, trivial⟩
      intro g hg
      obtain ⟨k1, k2⟩ := h2 g (List.mem_of_mem_drop hg)
      refine ⟨k1, ?_⟩
      show (per (setO m a1 (some (0, 0, rc, ()))) _).isSome = true
      rw [per_setO _ _ _ _ hsome]
      split
      · rfl
      · exact k2
theorem getD_lt {α : Type} {l : List α} {i : Nat} (h : i < l.length) (d : α) : l.drop i = l.getD i d :: l.drop (i + 1) := by
  rw [List.drop_eq_getElem_cons h, List.getD_eq_getElem?_getD, List.getElem?_eq_getElem h]; rfl
theorem knB_range {r : RC} {w : Int} (h : knB r w = true) : 1 ≤ w ∧ w ≤ 16 := by
  unfold knB at h; simp at h; exact ⟨h.1.1, h.1.2⟩
theorem l_R_Core_Record_0 : LoopOK E_R_Core_Record 0 (loopAt (bodyOf Try.f58) 0) L_R_Core_Record_0 := I_R_Core_Record_0 <| by
  intro t1 t7 r0 r1 r2 K hp ho
  obtain ⟨h1, h2, h3⟩ := hp
  obtain ⟨u, P, ls, ⟨⟩⟩ := r0
  have h2 : t7 ≤ ls.length := h2
  have h3 : (ls.length : Int) ≤ big := h3
  have h3' : (ls.length : Int) ≤ 1125899906842624 := by unfold big at h3; omega
  unfold B_R_Core_Record_0
  unfold o_R_Core_Record_0 at ho ⊢
  rw [condP_iff]
  refine ⟨fun hlt => ?_, fun hge => ?_⟩
  · have hlt := of_decide_eq_true hlt
    have hlt : t7 < ls.length := hlt
    have e7 : (t7 + 1).toNat = t7.toNat + 1 := by omega
    rw [i64w (n := t7 + 1) (by omega)]
    have hd := getD_lt (l := ls) (i := t7.toNat) (by omega) l0
    rw [show ((u, P, ls, ()) : RC).2.2.1 = ls from rfl, hd] at ho
    refine ⟨h1, hlt, ?_⟩
    generalize hL : List.getD (Prod.fst (Prod.snd (Prod.snd (u, P, ls, ())))) t7.toNat ((0 : Int), (0 : Int), (0 : Int), (0 : Int), false, ()) = L
    have hL' : ls.getD t7.toNat l0 = L := hL
    rw [hL'] at ho
    obtain ⟨w, by_, us, tu, sh, ⟨⟩⟩ := L
    have hnx : ∀ r1 e, p_R_Core_Record_0 t1 (t7 + 1) (u, P, ls, ()) r1 e ∧ m_R_Core_Record_0 t1 (t7 + 1) (u, P, ls, ()) r1 e < m_R_Core_Record_0 t1 t7 (u, P, ls, ()) r1 r2 := fun r1 e =>
      ⟨⟨by omega, by show t7 + 1 ≤ ls.length; omega, h3⟩, by unfold m_R_Core_Record_0; show (ls.length - (t7 + 1)).toNat < (ls.length - t7).toNat; omega⟩
    rw [condP_iff]
    refine ⟨fun c => ?_, fun c => ?_⟩
    · have c' : w ≠ t1 := by simpa using c
      refine ⟨(hnx _ _).1, (hnx _ _).2, ?_⟩
      rw [e7]
      simpa [recL, c'] using ho
    · have c' : w = t1 := by simpa using c
      rw [condP_iff]
      refine ⟨fun d => ?_, fun d => ?_⟩
      · have d' : sh = false := by simpa using d
        refine ⟨(hnx _ _).1, (hnx _ _).2, ?_⟩
        rw [e7]
        simpa [recL, c', d', w64] using ho
      · have d' : sh = true := by simpa using d
        refine ⟨(hnx _ _).1, (hnx _ _).2, ?_⟩
        rw [e7]
        simpa [recL, c', d', w64] using ho
  · have hge := of_decide_eq_false hge
    have hge : ¬ t7 < ls.length := hge
    have hd : ls.drop t7.toNat = [] := List.drop_eq_nil_of_le (by omega)
    rw [show ((u, P, ls, ()) : RC).2.2.1 = ls from rfl, hd] at ho
    exact ho
theorem ok_R_Core_Record : SumOK Try.prog 58 S_R_Core_Record := by
  refine whole_R_Core_Record ok_R_Core_Knows l_R_Core_Record_0 ?_
  intro a0 a1 hp
  obtain ⟨u, P, ls, ⟨⟩⟩ := a0
  have hp : (ls.length : Int) ≤ big := hp
  unfold W_R_Core_Record p_R_Core_Record_0 recR recE
  simp only [condP_iff]
  cases hk : knB (u, P, ls, ()) a1 with
  | false => simp
  | true =>
    obtain ⟨k1, k2⟩ := knB_range hk
    simp [hp, w64, ps, ps0]
    omega
theorem l_R_Core_Page_0 : LoopOK E_R_Core_Page 0 (loopAt (bodyOf Try.f60) 0) L_R_Core_Page_0 := I_R_Core_Page_0 <| by
  intro t8 r0 r1 r2 K hp ho
  obtain ⟨h1, h2, h3⟩ := hp
  unfold B_R_Core_Page_0
  unfold o_R_Core_Page_0 at ho ⊢
  rw [condP_iff]
  refine ⟨fun hlt => ?_, fun hge => ?_⟩
  · have hlt := of_decide_eq_true hlt
    have e : (101 - t8).toNat = (101 - (t8 + 1)).toNat + 1 := by omega
    rw [e] at ho
    simp only [pgR] at ho
    refine ⟨by decide, by decide, ?_⟩
    rw [i64w (n := t8 + 1) (by omega), condP_iff]
    refine ⟨fun c => ?_, fun c => ?_⟩
    · have c' : same8 t8 r1.2.2.2.1 = true := c
      rw [if_pos c', ← List.append_assoc] at ho
      exact ⟨by simp; omega, ⟨by omega, by omega, by simp; omega⟩, by unfold m_R_Core_Page_0; omega, ho⟩
    · have c' : ¬ same8 t8 r1.2.2.2.1 = true := by
        have c : same8 t8 r1.2.2.2.1 = false := c
        simp [c]
      rw [if_neg c', List.nil_append] at ho
      exact ⟨⟨by omega, by omega, by omega⟩, by unfold m_R_Core_Page_0; omega, ho⟩
  · have hge := of_decide_eq_false hge
    have e : (101 - t8).toNat = 0 := by omega
    rw [e] at ho
    simpa [pgR] using ho
theorem ok_R_Core_Page : SumOK Try.prog 60 S_R_Core_Page := by
  refine whole_R_Core_Page ok_R_Core_Knows l_R_Core_Page_0 ?_
  intro a0 a1 _
  obtain ⟨u, P, ls, ⟨⟩⟩ := a0
  unfold W_R_Core_Page p_R_Core_Page_0 pagR
  simp only [condP_iff]
  cases hk : knB (u, P, ls, ()) a1 with
  | false => simp
  | true =>
    obtain ⟨k1, k2⟩ := knB_range hk
    have hP : P.getD a1.toNat (false, false, false, 0, 0, ()) = ps (u, P, ls, ()) a1 := rfl
    simp only [hP]
    generalize ps (u, P, ls, ()) a1 = q
    obtain ⟨jo, he, sl, ce, qu, ⟨⟩⟩ := q
    cases he <;> cases sl <;> simp <;> omega
theorem ok_R_Core_Join : SumOK Try.prog 98 S_R_Core_Join := by
  refine whole_R_Core_Join ?_
  intro a0 a1 a2 _
  obtain ⟨u, P, ls, ⟨⟩⟩ := a0
  unfold W_R_Core_Join joinR setPs
  have hr : (if (if (if decide (a1 < 1) = true then true else decide (a1 > 16)) = true then true else decide (a2 < 0)) = true then true else decide (a2 > 1000000000)) = decide (a1 < 1 ∨ 16 < a1 ∨ a2 < 0 ∨ 1000000000 < a2) := by
    by_cases h1 : a1 < 1 <;> by_cases h2 : 16 < a1 <;> by_cases h3 : a2 < 0 <;> simp [h1, h2, h3]
  have hP : P.getD a1.toNat (false, false, false, 0, 0, ()) = ps (u, P, ls, ()) a1 := rfl
  simp only [condP_iff, hr, hP]
  by_cases h : a1 < 1 ∨ 16 < a1 ∨ a2 < 0 ∨ 1000000000 < a2
  · simp [h]
  · generalize ps (u, P, ls, ()) a1 = q
    obtain ⟨jo, he, sl, ce, qu, ⟨⟩⟩ := q
    cases jo <;> simp [h] <;> omega
theorem knB_cases {r : RC} {w : Int} (h : knB r w = true) : 0 ≤ w ∧ w < 17 := by
  obtain ⟨h1, h2⟩ := knB_range h; omega
theorem getD_set17 {l : List PS} {w : Int} (hw : w.toNat < l.length) (t d : PS) : (l.set w.toNat t).getD w.toNat d = t := by
  rw [List.getD_eq_getElem?_getD, List.getElem?_set_self hw]; rfl
theorem ok_R_Core_Report : SumOK Try.prog 108 S_R_Core_Report := by
  refine whole_R_Core_Report ?_
  intro a0 a1 hp
  obtain ⟨u, P, ls, ⟨⟩⟩ := a0
  obtain ⟨gn, tn, bt, fi, ⟨⟩⟩ := a1
  have hl : (ls.length : Int) ≤ big := hp
  have hl2 : (ls.length : Int) ≤ 1125899906842624 := by unfold big at hl; omega
  unfold W_R_Core_Report
  rw [condP_iff]
  refine ⟨fun h => ?_, fun h => ?_⟩
  · have h' : gn < 1 ∨ (ls.length : Int) < gn := by simpa using h
    have e : repR (u, P, ls, ()) (gn, tn, bt, fi, ()) = (6, (u, P, ls, ())) := by unfold repR; rw [if_pos h']
    rw [e]; exact ⟨rfl, rfl, trivial⟩
  · have h' : ¬ (gn < 1 ∨ (ls.length : Int) < gn) := by simpa using h
    have hw : IntKind.wrap .i64 (gn - 1) = gn - 1 := i64w (by omega)
    have hi : (gn - 1).toNat < ls.length := by omega
    have i0 : 0 ≤ gn - 1 := by omega
    have i1 : gn - 1 < ls.length := by omega
    simp only [hw]
    have hla : loanAt (u, P, ls, ()) (gn, tn, bt, fi, ()) = ls.getD (gn - 1).toNat (0, 0, 0, 0, false, ()) := rfl
    have hset : ∀ t : LN, (ls.set (gn - 1).toNat t)[(gn - 1).toNat]? = some t := fun t => List.getElem?_set_self hi
    have hset2 : ∀ t d : LN, (ls.set (gn - 1).toNat t).getD (gn - 1).toNat d = t := fun t d => by rw [List.getD_eq_getElem?_getD, hset]; rfl
    simp only [hset2, List.set_set]
    generalize hL : ls.getD (gn - 1).toNat (0, 0, 0, 0, false, ()) = L at hla ⊢
    obtain ⟨who, bs, us, tu, sh, ⟨⟩⟩ := L
    have hla : loanAt (u, P, ls, ()) (gn, tn, bt, fi, ()) = (who, bs, us, tu, sh, ()) := hla
    refine ⟨i0, i1, ?_⟩
    rw [condP_iff]
    refine ⟨fun c => ?_, fun c => ?_⟩
    · have c' : 0 < tn ∧ tn ≤ tu := by
        by_cases h9 : 0 < tn
        · simp [h9] at c; exact ⟨h9, c⟩
        · simp [h9] at c
      have e : repR (u, P, ls, ()) (gn, tn, bt, fi, ()) = (10, (u, P, ls, ())) := by
        unfold repR; rw [if_neg h', hla, if_pos c']
      rw [e]; exact ⟨rfl, rfl, trivial⟩
    · have c' : ¬ (0 < tn ∧ tn ≤ tu) := by
        rintro ⟨h9, h8⟩
        simp [h9, h8] at c
      rw [condP_iff]
      refine ⟨fun d => ?_, fun d => ?_⟩
      · have d' : tn ≠ w64 (tu + 1) := by simpa [w64] using d
        have e : repR (u, P, ls, ()) (gn, tn, bt, fi, ()) = (3, (u, P, ls, ())) := by
          unfold repR; rw [if_neg h', hla, if_neg c', if_pos d']
        rw [e]; exact ⟨rfl, rfl, trivial⟩
      · have d' : ¬ tn ≠ w64 (tu + 1) := by simpa [w64] using d
        rw [condP_iff]
        refine ⟨fun f => ?_, fun f => ?_⟩
        · have f' : sh = true := f
          have e : repR (u, P, ls, ()) (gn, tn, bt, fi, ()) = (9, (u, P, ls, ())) := by
            unfold repR; rw [if_neg h', hla, if_neg c', if_neg d', if_pos f']
          rw [e]; exact ⟨rfl, rfl, trivial⟩
        · have f' : ¬ sh = true := by simpa using f
          rw [condP_iff]
          refine ⟨fun k => ?_, fun k => ?_⟩
          · have k' : bt < 0 ∨ w64 (bs - us) < bt := by simpa [w64] using k
            have e : repR (u, P, ls, ()) (gn, tn, bt, fi, ()) = (11, (u, P, ls, ())) := by
              unfold repR; rw [if_neg h', hla, if_neg c', if_neg d', if_neg f', if_pos k']
            rw [e]; exact ⟨rfl, rfl, trivial⟩
          · have k' : ¬ (bt < 0 ∨ w64 (bs - us) < bt) := by simpa [w64] using k
            have e : repR (u, P, ls, ()) (gn, tn, bt, fi, ()) = (0, (u, P, ls.set (gn - 1).toNat (who, bs, w64 (us + bt), tn, fi, ()), ())) := by
              unfold repR; rw [if_neg h', hla, if_neg c', if_neg d', if_neg f', if_neg k']
            rw [e]
            exact ⟨rfl, rfl, trivial⟩
theorem ok_R_Core_Lend : SumOK Try.prog 107 S_R_Core_Lend := by
  refine whole_R_Core_Lend ok_R_Core_Record ?_
  intro a0 a1 hp
  obtain ⟨u, P, ls, ⟨⟩⟩ := a0
  have hp : (ls.length + 1) * 40 ≤ 140737488355328 := hp
  have hb : (ls.length : Int) ≤ big := by unfold big; omega
  unfold W_R_Core_Lend lenR lendM
  have hP : P.getD a1.toNat (false, false, false, 0, 0, ()) = ps (u, P, ls, ()) a1 := rfl
  cases hk : knB (u, P, ls, ()) a1 with
  | false =>
    have e : recR (u, P, ls, ()) a1 = ((0, 0, 0, ()), 12) := by unfold recR; rw [hk]; rfl
    simp [condP_iff, e, hb]
  | true =>
    obtain ⟨k1, k2⟩ := knB_cases hk
    have e : (recR (u, P, ls, ()) a1).2 = 0 := by unfold recR; rw [hk]; rfl
    simp only [condP_iff, e, hP]
    generalize recR (u, P, ls, ()) a1 = q
    obtain ⟨⟨lf, lt, ch, ⟨⟩⟩, er⟩ := q
    generalize ps (u, P, ls, ()) a1 = z
    obtain ⟨jo, he, sl, ce, qu, ⟨⟩⟩ := z
    have k2' : a1 < ((17 : Nat) : Int) := k2
    by_cases h0 : lf = 0
    · cases he <;> cases sl <;> simp [h0, hb, k1, k2'] <;> omega
    · by_cases h1 : lf < u
      · cases he <;> cases sl <;> simp [h0, h1, hb, k1, k2'] <;> omega
      · cases he <;> cases sl <;> simp [h0, h1, hb, k1, k2'] <;> omega
theorem set17 {l : List PS} (hl : l.length = 17) {w : Int} (h0 : 0 ≤ w) (h1 : w < 17) : (∀ t d, (l.set w.toNat t).getD w.toNat d = t) ∧ ∀ t, (l.set w.toNat t)[w.toNat]? = some t := by
  have h2 : ∀ t, (l.set w.toNat t)[w.toNat]? = some t := fun t => List.getElem?_set_self (by omega)
  exact ⟨fun t d => by rw [List.getD_eq_getElem?_getD, h2]; rfl, h2⟩
theorem ok_R_Core_Attach : SumOK Try.prog 99 S_R_Core_Attach := by
  refine whole_R_Core_Attach ok_R_Core_Knows ok_R_Cell ?_
  intro a0 a1 a2 hl
  obtain ⟨u, P, ls, ⟨⟩⟩ := a0
  have hl : P.length = 17 := hl
  unfold W_R_Core_Attach attR setPs
  have hP : P.getD a1.toNat (false, false, false, 0, 0, ()) = ps (u, P, ls, ()) a1 := rfl
  cases hk : knB (u, P, ls, ()) a1 with
  | false => simp [condP_iff]
  | true =>
    obtain ⟨k1, k2⟩ := knB_cases hk
    obtain ⟨s1, s2⟩ := set17 hl k1 k2
    have k2' : a1 < ((17 : Nat) : Int) := k2
    simp only [condP_iff, s1, List.set_set, hP]
    generalize ps (u, P, ls, ()) a1 = z
    obtain ⟨jo, he, sl, ce, qu, ⟨⟩⟩ := z
    cases isC a2 <;> cases he <;> simp [k1, k2, k2']
theorem ok_R_Core_Wake : SumOK Try.prog 104 S_R_Core_Wake := by
  refine whole_R_Core_Wake ok_R_Core_Knows ok_R_Cell ?_
  intro a0 a1 a2 hl
  obtain ⟨u, P, ls, ⟨⟩⟩ := a0
  have hl : P.length = 17 := hl
  unfold W_R_Core_Wake wakR setPs
  have hP : P.getD a1.toNat (false, false, false, 0, 0, ()) = ps (u, P, ls, ()) a1 := rfl
  cases hk : knB (u, P, ls, ()) a1 with
  | false => simp [condP_iff]
  | true =>
    obtain ⟨k1, k2⟩ := knB_cases hk
    obtain ⟨s1, s2⟩ := set17 hl k1 k2
    have k2' : a1 < ((17 : Nat) : Int) := k2
    simp only [condP_iff, s1, List.set_set, hP]
    generalize ps (u, P, ls, ()) a1 = z
    obtain ⟨jo, he, sl, ce, qu, ⟨⟩⟩ := z
    cases isC a2 <;> cases he <;> cases sl <;> simp [k1, k2, k2']
theorem ok_R_Core_Sleep : SumOK Try.prog 102 S_R_Core_Sleep := by
  refine whole_R_Core_Sleep ok_R_Core_Knows ?_
  intro a0 a1 hl
  obtain ⟨u, P, ls, ⟨⟩⟩ := a0
  have hl : P.length = 17 := hl
  unfold W_R_Core_Sleep slpR setPs
  have hP : P.getD a1.toNat (false, false, false, 0, 0, ()) = ps (u, P, ls, ()) a1 := rfl
  cases hk : knB (u, P, ls, ()) a1 with
  | false => simp [condP_iff]
  | true =>
    obtain ⟨k1, k2⟩ := knB_cases hk
    obtain ⟨s1, s2⟩ := set17 hl k1 k2
    have k2' : a1 < ((17 : Nat) : Int) := k2
    simp only [condP_iff, s1, List.set_set, hP]
    generalize ps (u, P, ls, ()) a1 = z
    obtain ⟨jo, he, sl, ce, qu, ⟨⟩⟩ := z
    cases he <;> cases sl <;> simp [k1, k2, k2']
theorem ok_R_Core_Hand : SumOK Try.prog 106 S_R_Core_Hand := by
  refine whole_R_Core_Hand ok_R_Core_Knows ok_R_Cell ?_
  intro a0 a1 a2 a3 hl
  obtain ⟨u, P, ls, ⟨⟩⟩ := a0
  have hl : P.length = 17 := hl
  unfold W_R_Core_Hand hanR setPs
  have hP : P.getD a1.toNat (false, false, false, 0, 0, ()) = ps (u, P, ls, ()) a1 := rfl
  cases hk : knB (u, P, ls, ()) a1 with
  | false => simp [condP_iff]
  | true =>
    obtain ⟨k1, k2⟩ := knB_cases hk
    obtain ⟨s1, s2⟩ := set17 hl k1 k2
    have k2' : a1 < ((17 : Nat) : Int) := k2
    simp only [condP_iff, s1, List.set_set, hP]
    generalize ps (u, P, ls, ()) a1 = z
    obtain ⟨jo, he, sl, ce, qu, ⟨⟩⟩ := z
    by_cases hc : ce = a2
    · cases isC a2 <;> cases isC a3 <;> cases he <;> cases sl <;> simp [k1, k2, k2', hc]
    · cases isC a2 <;> cases isC a3 <;> cases he <;> cases sl <;> simp [k1, k2, k2', hc]
theorem l_R_Core_Leave_0 : LoopOK E_R_Core_Leave 0 (loopAt (bodyOf Try.f100) 0) L_R_Core_Leave_0 := I_R_Core_Leave_0 <| by
  intro t1 t5 r0 K hp ho
  obtain ⟨h1, h2, h3⟩ := hp
  obtain ⟨u, P, ls, ⟨⟩⟩ := r0
  have h2 : t5 ≤ ls.length := h2
  have h3 : (ls.length : Int) ≤ big := h3
  have h3' : (ls.length : Int) ≤ 1125899906842624 := by unfold big at h3; omega
  unfold B_R_Core_Leave_0
  unfold o_R_Core_Leave_0 at ho ⊢
  rw [condP_iff]
  refine ⟨fun hlt => ?_, fun hge => ?_⟩
  · have hlt := of_decide_eq_true hlt
    have hlt : t5 < ls.length := hlt
    have hi : t5.toNat < ls.length := by omega
    have e5 : (t5 + 1).toNat = t5.toNat + 1 := by omega
    rw [i64w (n := t5 + 1) (by omega)]
    have hd := getD_lt (l := ls) (i := t5.toNat) hi l0
    have htake : ∀ x, (ls.set t5.toNat x).take (t5.toNat + 1) = ls.take t5.toNat ++ [x] := fun x => by
      rw [List.take_add_one, List.take_set_of_le (Nat.le_refl _), List.getElem?_set_self hi]; rfl
    have hdrop : ∀ x, (ls.set t5.toNat x).drop (t5.toNat + 1) = ls.drop (t5.toNat + 1) := fun x => by
      rw [List.drop_set_of_lt (by omega)]
    rw [show ((u, P, ls, ()) : RC).2.2.1 = ls from rfl, hd] at ho
    simp only [List.map_cons] at ho
    refine ⟨h1, hlt, ?_⟩
    generalize hL : List.getD (Prod.fst (Prod.snd (Prod.snd (u, P, ls, ())))) t5.toNat ((0 : Int), (0 : Int), (0 : Int), (0 : Int), false, ()) = L
    have hL' : ls.getD t5.toNat l0 = L := hL
    rw [hL'] at ho
    have hsame : ls.set t5.toNat L = ls := set_same hi hL'
    obtain ⟨w, by_, us, tu, sh, ⟨⟩⟩ := L
    rw [condP_iff]
    refine ⟨fun c => ?_, fun c => ?_⟩
    · have c' : w = t1 := by simpa using c
      refine ⟨h1, hlt, ⟨by omega, by simp; omega, by simpa using h3⟩, by unfold m_R_Core_Leave_0; simp; omega, ?_⟩
      show X_R_Core_Leave_0_0 (u, P, (ls.set t5.toNat (w, by_, us, tu, true, ())).take (t5 + 1).toNat ++ ((ls.set t5.toNat (w, by_, us, tu, true, ())).drop (t5 + 1).toNat).map (shutR t1), ()) K
      rw [e5, htake, hdrop]
      simpa [shutR, c'] using ho
    · have c' : ¬ w = t1 := by simpa using c
      refine ⟨⟨by omega, by show t5 + 1 ≤ ls.length; omega, h3⟩, by unfold m_R_Core_Leave_0; show (ls.length - (t5 + 1)).toNat < (ls.length - t5).toNat; omega, ?_⟩
      show X_R_Core_Leave_0_0 (u, P, ls.take (t5 + 1).toNat ++ (ls.drop (t5 + 1).toNat).map (shutR t1), ()) K
      have ht : ls.take (t5.toNat + 1) = ls.take t5.toNat ++ [(w, by_, us, tu, sh, ())] := by
        have := htake (w, by_, us, tu, sh, ())
        rwa [hsame] at this
      rw [e5, ht]
      simpa [shutR, c'] using ho
  · have hge := of_decide_eq_false hge
    have hge : ¬ t5 < ls.length := hge
    have hd : ls.drop t5.toNat = [] := List.drop_eq_nil_of_le (by omega)
    have ht : ls.take t5.toNat = ls := List.take_of_length_le (by omega)
    rw [show ((u, P, ls, ()) : RC).2.2.1 = ls from rfl, hd, ht] at ho
    simpa using ho
theorem ok_R_Core_Leave : SumOK Try.prog 100 S_R_Core_Leave := by
  refine whole_R_Core_Leave ok_R_Core_Knows l_R_Core_Leave_0 ?_
  intro a0 a1 hl
  obtain ⟨u, P, ls, ⟨⟩⟩ := a0
  obtain ⟨hl, hb⟩ := hl
  have hl : P.length = 17 := hl
  have hb : (ls.length : Int) ≤ big := hb
  unfold W_R_Core_Leave leaR p_R_Core_Leave_0
  have hP : P.getD a1.toNat (false, false, false, 0, 0, ()) = ps (u, P, ls, ()) a1 := rfl
  cases hk : knB (u, P, ls, ()) a1 with
  | false => simp [condP_iff]
  | true =>
    obtain ⟨k1, k2⟩ := knB_cases hk
    have k2' : a1 < ((17 : Nat) : Int) := k2
    simp only [condP_iff, hP]
    generalize ps (u, P, ls, ()) a1 = z
    obtain ⟨jo, he, sl, ce, qu, ⟨⟩⟩ := z
    cases he <;> simp [k1, k2, k2', hb]
end Go.Spec
