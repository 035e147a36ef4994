/- Both cores stay side by side. -/
import Derived.Test.YtppemehkbnbjlaaM5
import Derived.Test.YtppemehkbnbjlaaM7
set_option linter.unusedVariables false
set_option linter.unusedSimpArgs false
namespace Go.Spec
open Go Go.Lift
theorem per_putO (m : PMap) (k j : Int) (y : Option PR) (h : m.isSome = true) : per (putO m k y) j = if k = j then y else per m j := by
  unfold per
  cases m with
  | none => cases h
  | some es =>
    show (getE (putE es k y) j).getD none = if k = j then y else (getE es j).getD none
    rw [getE_putE]
    split <;> rfl
theorem ps_set {r : RC} (hl : r.2.1.length = 17) {w : Int} (h0 : 1 ≤ w) (h1 : w ≤ 16) (p : PS) (ls : List LN) (j : Int) : 1 ≤ j → ps (r.1, r.2.1.set w.toNat p, ls, ()) j = if w = j then p else ps r j := by
  intro hj
  unfold ps
  by_cases h : w = j
  · subst h
    rw [if_pos rfl]
    show (r.2.1.set w.toNat p).getD w.toNat ps0 = p
    rw [List.getD_eq_getElem?_getD, List.getElem?_set_self (by omega)]; rfl
  · rw [if_neg h]
    show (r.2.1.set w.toNat p).getD j.toNat ps0 = r.2.1.getD j.toNat ps0
    rw [List.getD_eq_getElem?_getD, List.getElem?_set_ne (by omega), ← List.getD_eq_getElem?_getD]
theorem knB_set {r : RC} (hl : r.2.1.length = 17) {w : Int} (h0 : 1 ≤ w) (h1 : w ≤ 16) (p : PS) (ls : List LN) (j : Int) : knB (r.1, r.2.1.set w.toNat p, ls, ()) j = if w = j then p.1 else knB r j := by
  unfold knB
  by_cases hj : 1 ≤ j
  · rw [ps_set hl h0 h1 p ls j hj]
    by_cases h : w = j
    · subst h; simp [h0, h1]
    · simp [h]
  · have hne : ¬ w = j := by omega
    simp [hj, hne]
theorem gl_mono {m m' : PMap} (h : ∀ w, (per m w).isSome = true → (per m' w).isSome = true) (g : Option GR) (l : LN) (hg : gl m g l) : gl m' g l := by
  obtain ⟨who, has, tu, cl, bs, us, h1, h2, h3, h4, h5, h6⟩ := hg
  exact ⟨who, has, tu, cl, bs, us, h1, h2, h3, h4, h _ h5, h6⟩
theorem kn_iff {c : CS} {r : RC} (h : CR c r) (w : Int) : knB r w = (per c.2.1 w).isSome := by
  have := h.2.2.2.2.2.2 w
  cases hp : per c.2.1 w with
  | none => rw [hp] at this; exact this
  | some p => rw [hp] at this; exact this.1
theorem join_eq {c : CS} {r : RC} (h : CR c r) (w q : Int) : (joinC c w q).1 = (joinR r w q).1 ∧ CR (joinC c w q).2 (joinR r w q).2 := by
  unfold joinC joinR
  split
  · exact ⟨rfl, h⟩
  · rename_i hr
    have h0 : 1 ≤ w := by omega
    have h1 : w ≤ 16 := by omega
    have hk := kn_iff h w
    have hk' : knB r w = (ps r w).1 := by unfold knB; simp [h0, h1]
    rw [← hk, hk']
    split
    · exact ⟨rfl, h⟩
    · rename_i hj
      have hnone : per c.2.1 w = none := by
        cases hp : per c.2.1 w with
        | none => rfl
        | some p => rw [hp] at hk; rw [← hk', hk] at hj; exact (hj rfl).elim
      obtain ⟨e1, e2, e3, e4, e5, e6, e7⟩ := h
      refine ⟨rfl, e1, e2, e3, ?_, by simp [setPs, e5], ?_, fun j => ?_⟩
      · show (putO c.2.1 w _).isSome = true
        cases hm : c.2.1 with
        | none => rw [hm] at e4; cases e4
        | some es => rfl
      · refine Two.mono (gl_mono fun j hj => ?_) e6
        show (per (putO c.2.1 w _) j).isSome = true
        rw [per_putO _ _ _ _ e4]
        split
        · rfl
        · exact hj
      · show match per (putO c.2.1 w _) j with
          | none => knB (r.1, r.2.1.set w.toNat (true, false, false, 0, q, ()), r.2.2.1, ()) j = false
          | some p => pOK (r.1, r.2.1.set w.toNat (true, false, false, 0, q, ()), r.2.2.1, ()) j p
        rw [per_putO _ _ _ _ e4]
        by_cases hwj : w = j
        · subst hwj
          obtain ⟨z1, z2⟩ := sums_none hnone e6
          rw [if_pos rfl]
          refine ⟨by rw [knB_set e5 h0 h1, if_pos rfl], by rw [ps_set e5 h0 h1 _ _ _ h0, if_pos rfl]; rfl, .inl rfl, fun hx => (hx rfl).elim, ?_, ?_, ?_, ?_⟩
          · rw [ps_set e5 h0 h1 _ _ _ h0, if_pos rfl]; show 0 ≤ q; omega
          · rw [ps_set e5 h0 h1 _ _ _ h0, if_pos rfl]; show q ≤ 1000000000; omega
          · rw [ps_set e5 h0 h1 _ _ _ h0, if_pos rfl]
            show (q, 0, 0, ()) = (q - lentS w r.2.2.1 - usedS w r.2.2.1, lentS w r.2.2.1, usedS w r.2.2.1, ())
            rw [z1, z2]; simp
          · show 0 ≤ q; omega
        · rw [if_neg hwj]
          have := e7 j
          cases hp : per c.2.1 j with
          | none => rw [hp] at this; simp only; rw [knB_set e5 h0 h1, if_neg hwj]; exact this
          | some p =>
            rw [hp] at this
            obtain ⟨k1, k2⟩ := this
            have hj1 : 1 ≤ j := by unfold knB at k1; simp at k1; exact k1.1.1
            refine ⟨by rw [knB_set e5 h0 h1, if_neg hwj]; exact k1, ?_⟩
            rw [ps_set e5 h0 h1 _ _ _ hj1, if_neg hwj]
            exact k2
/-- Somebody who is there turns: state, cell; the document's two signs, cell. -/
theorem turn_ok {c : CS} {r : RC} (h : CR c r) {w : Int} {p : PR} (hp : per c.2.1 w = some p) (st ce : Int) (he sl : Bool) (cr : Int) (h1 : he = !(st == 0)) (h2 : st = 0 ∨ st = 1 ∨ st = 2) (h3 : st ≠ 0 → sl = (st == 2) ∧ cr = ce ∧ isC ce = true) :
    CR (c.1, setO c.2.1 w (some (st, ce, p.2.2)), c.2.2) (setPs r w ((ps r w).1, he, sl, cr, (ps r w).2.2.2.2)) := by
  obtain ⟨e1, e2, e3, e4, e5, e6, e7⟩ := h
  have hw := e7 w
  rw [hp] at hw
  obtain ⟨k1, k2, k3, k4, k5, k6, k7, k8⟩ := hw
  have hs : (per c.2.1 w).isSome = true := by rw [hp]; rfl
  have hr : 1 ≤ w ∧ w ≤ 16 ∧ (ps r w).1 = true := by unfold knB at k1; simp at k1; exact ⟨k1.1.1, k1.1.2, k1.2⟩
  obtain ⟨h0, h9, hj⟩ := hr
  refine ⟨e1, e2, e3, ?_, by simp [setPs, e5], ?_, fun j => ?_⟩
  · show (setO c.2.1 w _).isSome = true
    cases hm : c.2.1 with
    | none => rw [hm] at e4; cases e4
    | some es => rfl
  · refine Two.mono (gl_mono fun j hj => ?_) e6
    show (per (setO c.2.1 w _) j).isSome = true
    rw [per_setO _ _ _ _ hs]
    split
    · rfl
    · exact hj
  · show match per (setO c.2.1 w (some (st, ce, p.2.2))) j with
      | none => knB (r.1, r.2.1.set w.toNat ((ps r w).1, he, sl, cr, (ps r w).2.2.2.2), r.2.2.1, ()) j = false
      | some p => pOK (r.1, r.2.1.set w.toNat ((ps r w).1, he, sl, cr, (ps r w).2.2.2.2), r.2.2.1, ()) j p
    rw [per_setO _ _ _ _ hs]
    by_cases hwj : w = j
    · subst hwj
      rw [if_pos rfl]
      refine ⟨by rw [knB_set e5 h0 h9, if_pos rfl]; exact hj, ?_⟩
      rw [ps_set e5 h0 h9 _ _ _ h0, if_pos rfl]
      exact ⟨h1, h2, h3, k5, k6, k7, k8⟩
    · rw [if_neg hwj]
      have := e7 j
      cases hp : per c.2.1 j with
      | none => rw [hp] at this; simp only; rw [knB_set e5 h0 h9, if_neg hwj]; exact this
      | some p =>
        rw [hp] at this
        obtain ⟨k1, k2⟩ := this
        have hj1 : 1 ≤ j := by unfold knB at k1; simp at k1; exact k1.1.1
        refine ⟨by rw [knB_set e5 h0 h9, if_neg hwj]; exact k1, ?_⟩
        rw [ps_set e5 h0 h9 _ _ _ hj1, if_neg hwj]
        exact k2
theorem att_eq {c : CS} {r : RC} (h : CR c r) (w cell : Int) : (attC c w cell).1 = (attR r w cell).1 ∧ CR (attC c w cell).2 (attR r w cell).2 := by
  have hk := kn_iff h w
  unfold attC moveC attR
  cases hp : per c.2.1 w with
  | none => rw [hp] at hk; simp only [hk, Option.isSome_none, if_true]; exact ⟨trivial, h⟩
  | some p =>
    have hw := h.2.2.2.2.2.2 w
    rw [hp] at hw hk
    obtain ⟨k1, k2, k3, k4, k5⟩ := hw
    simp only [hk, Option.isSome_some, Bool.true_eq_false, if_false, List.all_cons, List.all_nil, Bool.and_true, k2]
    cases hc : isC cell with
    | false => simp only [if_true]; exact ⟨trivial, h⟩
    | true =>
      by_cases hz : p.1 = 0
      · simp only [hz, beq_self_eq_true, Bool.true_eq_false, Bool.not_true, Bool.false_eq_true, if_false]
        exact ⟨trivial, turn_ok h hp 1 cell true false cell rfl (.inr (.inl rfl)) fun _ => ⟨rfl, rfl, hc⟩⟩
      · have hz' : (p.1 == 0) = false := by simpa using hz
        simp only [hz', Bool.true_eq_false, if_false, if_true, Bool.not_false]
        exact ⟨trivial, h⟩
theorem wak_eq {c : CS} {r : RC} (h : CR c r) (w cell : Int) : (wakC c w cell).1 = (wakR r w cell).1 ∧ CR (wakC c w cell).2 (wakR r w cell).2 := by
  have hk := kn_iff h w
  unfold wakC moveC wakR
  cases hp : per c.2.1 w with
  | none => rw [hp] at hk; simp only [hk, Option.isSome_none, if_true]; exact ⟨trivial, h⟩
  | some p =>
    have hw := h.2.2.2.2.2.2 w
    rw [hp] at hw hk
    obtain ⟨k1, k2, k3, k4, k5⟩ := hw
    simp only [hk, Option.isSome_some, Bool.true_eq_false, if_false, List.all_cons, List.all_nil, Bool.and_true, k2]
    cases hc : isC cell with
    | false => simp only [if_true]; exact ⟨trivial, h⟩
    | true =>
      rcases k3 with k3 | k3 | k3
      · simp [k3]; exact h
      · obtain ⟨j1, _⟩ := k4 (by omega)
        simp [k3, j1]; exact h
      · obtain ⟨j1, _⟩ := k4 (by omega)
        rw [k3] at j1
        have he : (ps r w).2.1 = true := by rw [k2, k3]; rfl
        have := turn_ok h hp 1 cell true false cell rfl (.inr (.inl rfl)) fun _ => ⟨rfl, rfl, hc⟩
        rw [← he] at this
        simpa [k3, j1, he] using this
theorem slp_eq {c : CS} {r : RC} (h : CR c r) (w : Int) : (slpC c w).1 = (slpR r w).1 ∧ CR (slpC c w).2 (slpR r w).2 := by
  have hk := kn_iff h w
  unfold slpC moveC slpR
  cases hp : per c.2.1 w with
  | none => rw [hp] at hk; simp only [hk, Option.isSome_none, if_true]; exact ⟨trivial, h⟩
  | some p =>
    have hw := h.2.2.2.2.2.2 w
    rw [hp] at hw hk
    obtain ⟨k1, k2, k3, k4, k5⟩ := hw
    simp only [hk, Option.isSome_some, Bool.true_eq_false, if_false, List.all_nil, k2]
    rcases k3 with k3 | k3 | k3
    · simp [k3]; exact h
    · obtain ⟨j1, j2, j3⟩ := k4 (by omega)
      rw [k3] at j1
      have he : (ps r w).2.1 = true := by rw [k2, k3]; rfl
      have := turn_ok h hp 2 p.2.1 true true (ps r w).2.2.2.1 rfl (.inr (.inr rfl)) fun _ => ⟨rfl, j2, j3⟩
      rw [← he] at this
      simpa [k3, j1, he] using this
    · obtain ⟨j1, _⟩ := k4 (by omega)
      simp [k3, j1]; exact h
theorem han_eq {c : CS} {r : RC} (h : CR c r) (w fr to : Int) : (hanC c w fr to).1 = (hanR r w fr to).1 ∧ CR (hanC c w fr to).2 (hanR r w fr to).2 := by
  have hk := kn_iff h w
  unfold hanC moveC hanR
  cases hp : per c.2.1 w with
  | none => rw [hp] at hk; simp only [hk, Option.isSome_none, if_true]; exact ⟨trivial, h⟩
  | some p =>
    have hw := h.2.2.2.2.2.2 w
    rw [hp] at hw hk
    obtain ⟨k1, k2, k3, k4, k5⟩ := hw
    simp only [hk, Option.isSome_some, Bool.true_eq_false, if_false, List.all_cons, List.all_nil, Bool.and_true, k2]
    cases hc : isC fr with
    | false => simp; exact h
    | true =>
      cases hc2 : isC to with
      | false => simp; exact h
      | true =>
        rcases k3 with k3 | k3 | k3
        · simp [k3]; exact h
        · obtain ⟨j1, j2, j3⟩ := k4 (by omega)
          rw [k3] at j1
          by_cases hf : p.2.1 = fr
          · have he : (ps r w).2.1 = true := by rw [k2, k3]; rfl
            have hsl : (ps r w).2.2.1 = false := by rw [j1]; rfl
            have := turn_ok h hp 1 to true false to rfl (.inr (.inl rfl)) fun _ => ⟨rfl, rfl, hc2⟩
            rw [← he, ← hsl] at this
            rw [he] at this
            simpa [k3, hsl, j2, hf, he] using this
          · simp [k3, j1, j2, hf]; exact h
        · obtain ⟨j1, _⟩ := k4 (by omega)
          simp [k3, j1]; exact h
end Go.Spec
