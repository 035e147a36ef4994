/- Lines for the functions of this seat; merged from texts of their own. -/
import Derived.Test.YtefajmghpgiekaaV13
import Derived.Test.YtefajmghpgiekaaP1
import Derived.Test.YtefajmghpgiekaaV14
import Derived.Test.YtefajmghpgiekaaEC
import Derived.Test.YtefajmghpgiekaaV16
import Derived.Test.YtefajmghpgiekaaLF
set_option linter.unusedVariables false
set_option linter.unusedSimpArgs false
/- Whose turn it is: the walks. -/
namespace Go.Spec
open Go Go.Lift Go.Proofs
attribute [local irreducible] Go.Lift.awp Go.Lift.LoopOK Go.Lift.SumOK
theorem ok_turns_New : SumOK Try.prog 25 S_turns_New := by
  refine whole_turns_New ?_
  intro a0 _
  unfold W_turns_New
  rw [condP_iff]
  simp only [Bool.if_true_left, Bool.or_eq_true, Bool.or_eq_false_iff, decide_eq_true_eq, decide_eq_false_iff_not]
  refine ⟨fun h => ?_, fun h => ?_⟩
  · rw [if_neg (by omega), if_neg (by omega)]; exact ⟨rfl, rfl, trivial⟩
  · rw [if_pos (by omega), if_pos (by omega)]; exact ⟨rfl, rfl, trivial⟩
theorem wcnt_set {r : List UU} {k : Nat} {v : UU} (hk : k < r.length) : wcnt (r.set k v) + (if waits (r.getD k u0) = true then 1 else 0) = wcnt r + (if waits v = true then 1 else 0) := by
  have hg : r.getD k u0 = r[k] := by rw [List.getD_eq_getElem?_getD, List.getElem?_eq_getElem hk]; rfl
  have hpos : waits r[k] = true → 0 < r.countP waits := fun h => List.countP_pos_iff.2 ⟨_, List.getElem_mem hk, h⟩
  unfold wcnt
  rw [List.countP_set hk, hg]
  by_cases h : waits r[k] = true
  · have := hpos h
    simp only [h, if_true]; omega
  · simp only [h, Bool.false_eq_true, if_false]; omega
theorem wcnt_le (r : List UU) : wcnt r ≤ r.length := List.countP_le_length
theorem vis_go {t2 t14 q w : Int} {o : Bool} {cr : List Int} {r1 : List UU} {r2 : List Int} (ha : 0 ≤ t14) (hl : w.toNat < cr.length) (hr : w.toNat < r1.length)
    (hg : t14 < t2 ∧ (r1.getD w.toNat u0).2.1 > 0 ∧ cr.getD w.toNat 0 ≥ (r1.getD w.toNat u0).2.2.1) :
    vis t2 (t14 + 1) (q, w, o, cr.set w.toNat (cr.getD w.toNat 0 - (r1.getD w.toNat u0).2.2.1), ()) (r1.set w.toNat ((r1.getD w.toNat u0).1, lesser true ((r1.getD w.toNat u0).2.1 - (r1.getD w.toNat u0).2.2.1) 0, (r1.getD w.toNat u0).2.2)) (r2.set t14.toNat w)
      = vis t2 t14 (q, w, o, cr, ()) r1 r2 := by
  have e : (t14 + 1).toNat = t14.toNat + 1 := by omega
  unfold vis
  simp only [gset' hl, gset' hr, if_pos, List.set_set, e]
  rw [giveW_go (a := t14.toNat) ⟨by omega, hg.2⟩]
theorem vis_end {t2 t14 q w : Int} {o : Bool} {cr : List Int} {r1 : List UU} {r2 : List Int} (ha : 0 ≤ t14) (hl : w.toNat < cr.length) (hr : w.toNat < r1.length)
    (hg : ¬ (t14 < t2 ∧ (r1.getD w.toNat u0).2.1 > 0 ∧ cr.getD w.toNat 0 ≥ (r1.getD w.toNat u0).2.2.1)) :
    vis t2 t14 (q, w, o, cr, ()) r1 r2 = ((q, w, o, cr, ()), r1, r2, t14.toNat) := by
  unfold vis
  simp only
  rw [giveW_end (by intro h; exact hg ⟨by omega, h.2⟩)]
  have h1 : cr.set w.toNat (cr.getD w.toNat 0) = cr := by
    rw [List.getD_eq_getElem?_getD, List.getElem?_eq_getElem hl]; exact List.set_getElem_self hl
  have h2 : r1.set w.toNat ((r1.getD w.toNat u0).1, (r1.getD w.toNat u0).2.1, (r1.getD w.toNat u0).2.2.1, ()) = r1 := by
    show r1.set w.toNat (r1.getD w.toNat u0) = r1
    rw [List.getD_eq_getElem?_getD, List.getElem?_eq_getElem hr]; exact List.set_getElem_self hr
  simp only [h1, h2]
theorem l_turns_Turns_Slot_4 : LoopOK E_turns_Turns_Slot 4 (loopAt (bodyOf Try.f26) 4) L_turns_Turns_Slot_4 := I_turns_Turns_Slot_4 <| by
  intro t2 t9 t14 t16 t17 r0 r1 r2 K hp ho
  obtain ⟨q, w, op, cr, un⟩ := r0
  obtain rfl : un = () := rfl
  obtain ⟨a1, a2, b1, b2, e1, e2, l1, l2, cl, rl, ol, u1, u2, f1, f2, c1, c2⟩ := hp
  simp only at e1 e2 l1 l2 cl u1 u2 f1 f2 c1 c2
  subst e1
  subst e2
  have hl : t17.toNat < cr.length := by omega
  have hr : t17.toNat < r1.length := by omega
  unfold B_turns_Turns_Slot_4
  unfold o_turns_Turns_Slot_4 vA vT vU vO at ho ⊢
  simp only [hide_eq] at ho ⊢
  change condP (if (if decide (t14 < t2) = true then decide (Prod.fst (Prod.snd (List.getD r1 (Int.toNat t17) u0)) > (0 : Int)) else false) = true then decide (List.getD cr (Int.toNat t17) (0 : Int) ≥ Prod.fst (Prod.snd (Prod.snd (List.getD r1 (Int.toNat t17) u0)))) else false) _ _
  rw [condP_iff]
  refine ⟨fun hg => ?_, fun hg => ?_⟩
  · have hg' : t14 < t2 ∧ (r1.getD t17.toNat u0).2.1 > 0 ∧ cr.getD t17.toNat 0 ≥ (r1.getD t17.toNat u0).2.2.1 := by
      simpa [and_assoc] using hg
    rw [← vis_go b1 hl hr hg'] at ho
    have hu0 : (((0 : Int), (0 : Int), (0 : Int), ()) : UU) = u0 := rfl
    simp only [hu0, gset' hr, if_pos]
    have hls : 0 ≤ lesser true ((r1.getD t17.toNat u0).2.1 - (r1.getD t17.toNat u0).2.2.1) 0 ∧ lesser true ((r1.getD t17.toNat u0).2.1 - (r1.getD t17.toNat u0).2.2.1) 0 ≤ (r1.getD t17.toNat u0).2.1 := by rw [lesser_t]; split <;> omega
    rw [i64w (n := t14 + 1) (by omega), i64w (n := (r1.getD t17.toNat u0).2.1 - (r1.getD t17.toNat u0).2.2.1) (by omega), i64w (n := cr.getD t17.toNat 0 - (r1.getD t17.toNat u0).2.2.1) (by omega)]
    refine ⟨b1, by omega, ?_, by unfold m_turns_Turns_Slot_4; omega, ho⟩
    refine ⟨a1, a2, by omega, by omega, rfl, rfl, l1, l2, by simp only [List.length_set]; exact cl, by simp only [List.length_set]; exact rl, by simp only [List.length_set]; exact ol, ?_, ?_, ?_, ?_, ?_, ?_⟩
    all_goals simp only [gset' hr, gset' hl, if_pos]
    all_goals omega
  · have hg' : ¬ (t14 < t2 ∧ (r1.getD t17.toNat u0).2.1 > 0 ∧ cr.getD t17.toNat 0 ≥ (r1.getD t17.toNat u0).2.2.1) := by
      intro h
      rw [decide_eq_true h.1, decide_eq_true h.2.1, decide_eq_true h.2.2] at hg
      cases hg
    rw [vis_end b1 hl hr hg'] at ho
    simp only [Int.toNat_of_nonneg b1] at ho
    exact ho
theorem ok_turns_Turns_Credit : SumOK Try.prog 28 S_turns_Turns_Credit := by
  refine whole_turns_Turns_Credit ?_
  intro a0 a1 _
  unfold W_turns_Turns_Credit
  rw [condP_iff]
  simp only [Bool.if_true_left, Bool.or_eq_true, Bool.or_eq_false_iff, decide_eq_true_eq, decide_eq_false_iff_not]
  refine ⟨fun h => ?_, fun h => ?_⟩
  · rw [if_neg (by omega)]; exact ⟨rfl, trivial, trivial⟩
  · rw [if_pos (by omega)]; exact ⟨by omega, by omega, rfl, trivial, trivial⟩
theorem hu0 : (((0 : Int), (0 : Int), (0 : Int), ()) : UU) = u0 := rfl
/-- a visit's outcome -/
theorem vis_at {t2 t14 q w : Int} {cr : List Int} {c : Int} {r1 : List UU} {r2 : List Int} (hl : w.toNat < cr.length) :
    vis t2 t14 (q, w, false, cr.set w.toNat c, ()) r1 r2 = ((q, w, false, cr.set w.toNat (giveW t2.toNat w (r1.getD w.toNat u0).2.2.1 t14.toNat (r1.getD w.toNat u0).2.1 c r2).2.2.1, ()),
      r1.set w.toNat ((r1.getD w.toNat u0).1, (giveW t2.toNat w (r1.getD w.toNat u0).2.2.1 t14.toNat (r1.getD w.toNat u0).2.1 c r2).2.1, (r1.getD w.toNat u0).2.2.1, ()),
      (giveW t2.toNat w (r1.getD w.toNat u0).2.2.1 t14.toNat (r1.getD w.toNat u0).2.1 c r2).2.2.2, (giveW t2.toNat w (r1.getD w.toNat u0).2.2.1 t14.toNat (r1.getD w.toNat u0).2.1 c r2).1) := by
  unfold vis
  simp only [gset' hl, if_pos, List.set_set]
theorem nx {t2 t9 t14 t9' a' : Int} {r0 r0' : TT} {r1 r1' : List UU} {r2 r2' : List Int} {K : AExit → St → Prop} (hp : p_turns_Turns_Slot_2 t2 t9 t14 r0 r1 r2) (hlt : t14 < t2) (h0 : t9 > 0)
    (ho : o_turns_Turns_Slot_2 t2 t9 t14 r0 r1 r2 K) (hs : stepT t2.toNat (r0, r1, r2, t14.toNat) = (r0', r1', r2', a'.toNat)) (ha : 0 ≤ a') (h9 : t9' = wcnt r1') :
    p_turns_Turns_Slot_2 t2 t9' a' r0' r1' r2' ∧ m_turns_Turns_Slot_2 t2 t9' a' r0' r1' r2' < m_turns_Turns_Slot_2 t2 t9 t14 r0 r1 r2 ∧ o_turns_Turns_Slot_2 t2 t9' a' r0' r1' r2' K := by
  obtain ⟨a1, a2, b1, hI, hw⟩ := hp
  have hg : goes t2.toNat (r0, r1, r2, t14.toNat) = true := by
    unfold goes
    simp only [Bool.and_eq_true, decide_eq_true_eq]
    omega
  have h1 := stepT_ok hI hg
  have h2 := stepT_less hI hg
  rw [hs] at h1 h2
  refine ⟨⟨a1, a2, ha, h1, h9⟩, h2, ?_⟩
  unfold o_turns_Turns_Slot_2 at ho ⊢
  rw [hide_eq] at ho ⊢
  rw [slotEnd_step hI hg, hs] at ho
  exact ho
theorem l_turns_Turns_Slot_2 : LoopOK E_turns_Turns_Slot 2 (loopAt (bodyOf Try.f26) 2) L_turns_Turns_Slot_2 := I_turns_Turns_Slot_2 <| by
  intro t2 t9 t14 r0 r1 r2 K hp ho
  obtain ⟨q, w, op, cr, un⟩ := r0
  obtain rfl : un = () := rfl
  have hp0 := hp
  obtain ⟨a1, a2, b1, hI, hw⟩ := hp
  obtain ⟨w1, w2⟩ := wOf_bd hI.t
  obtain ⟨c1, c2⟩ := start_cr hI.t
  have hlen : cr.length = 17 := hI.t.len
  have hnl : r1.length = 17 := hI.nl
  have hol : r2.length = t2.toNat := hI.ol
  have hal : t14.toNat ≤ t2.toNat := hI.al
  have q1 : 1 ≤ q := hI.t.q1
  have q2 : q ≤ 10000 := hI.t.q2
  have l1 : 0 ≤ w := hI.t.l1
  have l2 : w ≤ 16 := hI.t.l2
  have hwl := wcnt_le r1
  unfold B_turns_Turns_Slot_2
  rw [condP_iff]
  simp only [hu0]
  refine ⟨fun hg => ?_, fun hg => ?_⟩
  · have hg' : t14 < t2 ∧ t9 > 0 := by simpa using hg
    -- the body of a visit, whoever has the turn
    have main : ∀ (W c : Int), W = wOf (q, w, op, cr, ()) → c = cr.getD W.toNat 0 + gOf (q, w, op, cr, ()) →
        condP ((r1.getD W.toNat u0).2.1 == 0)
          (p_turns_Turns_Slot_2 t2 t9 t14 (q, W, false, cr.set W.toNat 0, ()) r1 r2 ∧ m_turns_Turns_Slot_2 t2 t9 t14 (q, W, false, cr.set W.toNat 0, ()) r1 r2 < m_turns_Turns_Slot_2 t2 t9 t14 (q, w, op, cr, ()) r1 r2 ∧ o_turns_Turns_Slot_2 t2 t9 t14 (q, W, false, cr.set W.toNat 0, ()) r1 r2 K)
          (p_turns_Turns_Slot_4 t2 t9 t14 W W (q, W, false, cr.set W.toNat c, ()) r1 r2 ∧ 0 ≤ ((vU t2 t14 (q, W, false, cr.set W.toNat c, ()) r1 r2).getD W.toNat u0).2.1 ∧
            condP (((vU t2 t14 (q, W, false, cr.set W.toNat c, ()) r1 r2).getD W.toNat u0).2.1 == 0)
              (∀ T : TT, T = ((vT t2 t14 (q, W, false, cr.set W.toNat c, ()) r1 r2).1, (vT t2 t14 (q, W, false, cr.set W.toNat c, ()) r1 r2).2.1, false, (vT t2 t14 (q, W, false, cr.set W.toNat c, ()) r1 r2).2.2.2.1.set W.toNat 0, ()) →
                p_turns_Turns_Slot_2 t2 (IntKind.wrap IntKind.i64 (t9 - 1)) (vA t2 t14 (q, W, false, cr.set W.toNat c, ()) r1 r2) T (vU t2 t14 (q, W, false, cr.set W.toNat c, ()) r1 r2) (vO t2 t14 (q, W, false, cr.set W.toNat c, ()) r1 r2) ∧
                m_turns_Turns_Slot_2 t2 (IntKind.wrap IntKind.i64 (t9 - 1)) (vA t2 t14 (q, W, false, cr.set W.toNat c, ()) r1 r2) T (vU t2 t14 (q, W, false, cr.set W.toNat c, ()) r1 r2) (vO t2 t14 (q, W, false, cr.set W.toNat c, ()) r1 r2) < m_turns_Turns_Slot_2 t2 t9 t14 (q, w, op, cr, ()) r1 r2 ∧
                o_turns_Turns_Slot_2 t2 (IntKind.wrap IntKind.i64 (t9 - 1)) (vA t2 t14 (q, W, false, cr.set W.toNat c, ()) r1 r2) T (vU t2 t14 (q, W, false, cr.set W.toNat c, ()) r1 r2) (vO t2 t14 (q, W, false, cr.set W.toNat c, ()) r1 r2) K)
              (∀ T : TT, T = ((vT t2 t14 (q, W, false, cr.set W.toNat c, ()) r1 r2).1, (vT t2 t14 (q, W, false, cr.set W.toNat c, ()) r1 r2).2.1, decide ((vT t2 t14 (q, W, false, cr.set W.toNat c, ()) r1 r2).2.2.2.1.getD W.toNat 0 ≥ ((vU t2 t14 (q, W, false, cr.set W.toNat c, ()) r1 r2).getD W.toNat u0).2.2.1), (vT t2 t14 (q, W, false, cr.set W.toNat c, ()) r1 r2).2.2.2.1, ()) →
                ((vU t2 t14 (q, W, false, cr.set W.toNat c, ()) r1 r2).getD W.toNat u0).2.1 > 0 →
                p_turns_Turns_Slot_2 t2 t9 (vA t2 t14 (q, W, false, cr.set W.toNat c, ()) r1 r2) T (vU t2 t14 (q, W, false, cr.set W.toNat c, ()) r1 r2) (vO t2 t14 (q, W, false, cr.set W.toNat c, ()) r1 r2) ∧
                m_turns_Turns_Slot_2 t2 t9 (vA t2 t14 (q, W, false, cr.set W.toNat c, ()) r1 r2) T (vU t2 t14 (q, W, false, cr.set W.toNat c, ()) r1 r2) (vO t2 t14 (q, W, false, cr.set W.toNat c, ()) r1 r2) < m_turns_Turns_Slot_2 t2 t9 t14 (q, w, op, cr, ()) r1 r2 ∧
                o_turns_Turns_Slot_2 t2 t9 (vA t2 t14 (q, W, false, cr.set W.toNat c, ()) r1 r2) T (vU t2 t14 (q, W, false, cr.set W.toNat c, ()) r1 r2) (vO t2 t14 (q, W, false, cr.set W.toNat c, ()) r1 r2) K)) := by
      intro W c hW hc
      have hWb : 1 ≤ W ∧ W ≤ 16 := by rw [hW]; exact ⟨w1, w2⟩
      have hl : W.toNat < cr.length := by omega
      have hr : W.toNat < r1.length := by omega
      have hcb : 0 ≤ c ∧ c ≤ 9999 + q := by rw [hc, hW]; exact ⟨c1, c2⟩
      have hnb := hI.nb W.toNat (by omega)
      simp only at hnb
      have hstep : stepT t2.toNat ((q, w, op, cr, ()), r1, r2, t14.toNat) =
          if (r1.getD W.toNat u0).2.1 = 0 then ((q, W, false, cr.set W.toNat 0, ()), r1, r2, t14.toNat)
          else if (giveW t2.toNat W (r1.getD W.toNat u0).2.2.1 t14.toNat (r1.getD W.toNat u0).2.1 c r2).2.1 = 0 then ((q, W, false, cr.set W.toNat 0, ()), r1.set W.toNat ((r1.getD W.toNat u0).1, (giveW t2.toNat W (r1.getD W.toNat u0).2.2.1 t14.toNat (r1.getD W.toNat u0).2.1 c r2).2.1, (r1.getD W.toNat u0).2.2.1, ()), (giveW t2.toNat W (r1.getD W.toNat u0).2.2.1 t14.toNat (r1.getD W.toNat u0).2.1 c r2).2.2.2, (giveW t2.toNat W (r1.getD W.toNat u0).2.2.1 t14.toNat (r1.getD W.toNat u0).2.1 c r2).1)
          else ((q, W, decide ((giveW t2.toNat W (r1.getD W.toNat u0).2.2.1 t14.toNat (r1.getD W.toNat u0).2.1 c r2).2.2.1 ≥ (r1.getD W.toNat u0).2.2.1), cr.set W.toNat (giveW t2.toNat W (r1.getD W.toNat u0).2.2.1 t14.toNat (r1.getD W.toNat u0).2.1 c r2).2.2.1, ()), r1.set W.toNat ((r1.getD W.toNat u0).1, (giveW t2.toNat W (r1.getD W.toNat u0).2.2.1 t14.toNat (r1.getD W.toNat u0).2.1 c r2).2.1, (r1.getD W.toNat u0).2.2.1, ()), (giveW t2.toNat W (r1.getD W.toNat u0).2.2.1 t14.toNat (r1.getD W.toNat u0).2.1 c r2).2.2.2, (giveW t2.toNat W (r1.getD W.toNat u0).2.2.1 t14.toNat (r1.getD W.toNat u0).2.1 c r2).1) := by
        rw [hc, hW]; rfl
      rw [condP_iff]
      simp only [beq_iff_eq, beq_eq_false_iff_ne, ne_eq]
      refine ⟨fun hz => ?_, fun hz => ⟨?_, ?_⟩⟩
      · rw [if_pos hz] at hstep
        exact nx hp0 hg'.1 hg'.2 ho hstep b1 hw
      · obtain ⟨f1, f2⟩ := hnb.2.2 (by omega)
        exact ⟨a1, a2, b1, by omega, rfl, rfl, hWb.1, hWb.2, by simp only [List.length_set]; exact hlen, hnl, by omega, hnb.1, hnb.2.1, f1, f2, by simp only [gset' hl, if_pos]; omega, by simp only [gset' hl, if_pos]; omega⟩
      · obtain ⟨f1, f2⟩ := hnb.2.2 (by omega)
        rw [if_neg hz] at hstep
        unfold vT vU vO vA
        simp only [hide_eq, vis_at hl]
        have hwait : waits (r1.getD W.toNat u0) = true := by unfold waits; exact decide_eq_true (by omega)
        have hfac := give_facts t2.toNat W _ f1 _ t14.toNat (r1.getD W.toNat u0).2.1 c r2 hnb.1 hcb.1 hal rfl
        change _ ∧ _ ∧ 0 ≤ (giveW t2.toNat W (r1.getD W.toNat u0).2.2.1 t14.toNat (r1.getD W.toNat u0).2.1 c r2).2.1 ∧ _ at hfac
        generalize giveW t2.toNat W (r1.getD W.toNat u0).2.2.1 t14.toNat (r1.getD W.toNat u0).2.1 c r2 = rr at *
        obtain ⟨ra, rb, rc, ro⟩ := rr
        have hws := wcnt_set (v := ((r1.getD W.toNat u0).1, rb, (r1.getD W.toNat u0).2.2.1, ())) hr
        rw [if_pos hwait] at hws
        simp only [gset' hr, gset' hl, if_pos, List.set_set] at hstep hfac ⊢
        refine ⟨hfac.2.2.1, ?_⟩
        rw [condP_iff]
        simp only [beq_iff_eq, beq_eq_false_iff_ne, ne_eq]
        refine ⟨fun hb T hT => ?_, fun hb T hT hbp => ?_⟩
        · rw [if_pos hb] at hstep
          have hnw : ¬ waits ((r1.getD W.toNat u0).1, rb, (r1.getD W.toNat u0).2.2.1, ()) = true := by unfold waits; simp only [decide_eq_true_eq]; omega
          rw [if_neg hnw] at hws
          subst hT
          exact nx hp0 hg'.1 hg'.2 ho hstep (by omega) (by rw [i64w (n := t9 - 1) (by omega)]; omega)
        · rw [if_neg hb] at hstep
          have hnw : waits ((r1.getD W.toNat u0).1, rb, (r1.getD W.toNat u0).2.2.1, ()) = true := by unfold waits; simp only [decide_eq_true_eq]; omega
          rw [if_pos hnw] at hws
          subst hT
          exact nx hp0 hg'.1 hg'.2 ho hstep (by omega) (by omega)
    rw [condP_iff]
    refine ⟨fun hop => ?_, fun hop => ?_⟩
    · subst hop
      have hcc : 0 ≤ cr.getD w.toNat 0 + 0 ∧ cr.getD w.toNat 0 + 0 ≤ 9999 + q := ⟨c1, c2⟩
      refine ⟨l1, by omega, l1, by omega, ?_⟩
      rw [i64w (n := cr.getD w.toNat 0 + 0) (by omega)]
      have m := main w (cr.getD w.toNat 0 + 0) rfl rfl
      rw [condP_iff] at m ⊢
      refine ⟨m.1, fun h => ⟨(m.2 h).1, ?_⟩⟩
      obtain ⟨_, m0, m2⟩ := m.2 h
      rw [condP_iff] at m2 ⊢
      refine ⟨fun hb => ?_, fun hb => ?_⟩
      · have hb' := beq_iff_eq.1 hb
        have hn : ¬ decide (((vU t2 t14 (q, w, false, cr.set (w).toNat (cr.getD w.toNat 0 + 0), ()) r1 r2).getD (w).toNat u0).2.1 > 0) = true := by rw [hb']; decide
        refine m2.1 hb _ ?_
        congr 3
        exact if_neg hn
      · have hb' := beq_eq_false_iff_ne.1 hb
        have hbp : ((vU t2 t14 (q, w, false, cr.set (w).toNat (cr.getD w.toNat 0 + 0), ()) r1 r2).getD (w).toNat u0).2.1 > 0 := by omega
        refine m2.2 hb _ ?_ hbp
        congr 3
        exact if_pos (decide_eq_true hbp)
    · subst hop
      have hm : Int.tmod w 16 = w % 16 := Int.tmod_eq_emod_of_nonneg l1
      rw [hm, i64w (n := w % 16 + 1) (by omega)]
      have hcc : 0 ≤ cr.getD (w % 16 + 1).toNat 0 + q ∧ cr.getD (w % 16 + 1).toNat 0 + q ≤ 9999 + q := ⟨c1, c2⟩
      refine ⟨by decide, by omega, by omega, by omega, by omega, ?_⟩
      rw [i64w (n := cr.getD (w % 16 + 1).toNat 0 + q) (by omega)]
      have m := main (w % 16 + 1) (cr.getD (w % 16 + 1).toNat 0 + q) rfl rfl
      rw [condP_iff] at m ⊢
      refine ⟨m.1, fun h => ⟨(m.2 h).1, ?_⟩⟩
      obtain ⟨_, m0, m2⟩ := m.2 h
      rw [condP_iff] at m2 ⊢
      refine ⟨fun hb => ?_, fun hb => ?_⟩
      · have hb' := beq_iff_eq.1 hb
        have hn : ¬ decide (((vU t2 t14 (q, w % 16 + 1, false, cr.set (w % 16 + 1).toNat (cr.getD (w % 16 + 1).toNat 0 + q), ()) r1 r2).getD (w % 16 + 1).toNat u0).2.1 > 0) = true := by rw [hb']; decide
        refine m2.1 hb _ ?_
        congr 3
        exact if_neg hn
      · have hb' := beq_eq_false_iff_ne.1 hb
        have hbp : ((vU t2 t14 (q, w % 16 + 1, false, cr.set (w % 16 + 1).toNat (cr.getD (w % 16 + 1).toNat 0 + q), ()) r1 r2).getD (w % 16 + 1).toNat u0).2.1 > 0 := by omega
        refine m2.2 hb _ ?_ hbp
        congr 3
        exact if_pos (decide_eq_true hbp)
  · have hg' : ¬ (t14 < t2 ∧ t9 > 0) := by
      intro h
      rw [decide_eq_true h.1, decide_eq_true h.2] at hg
      cases hg
    have hge : goes t2.toNat ((q, w, op, cr, ()), r1, r2, t14.toNat) = false := by
      unfold goes
      rw [Bool.eq_false_iff]
      simp only [ne_eq, Bool.and_eq_true, decide_eq_true_eq]
      omega
    unfold o_turns_Turns_Slot_2 at ho
    rw [hide_eq, slotEnd_end hge] at ho
    exact ho
theorem l_turns_Turns_Slot_0 : LoopOK E_turns_Turns_Slot 0 (loopAt (bodyOf Try.f26) 0) L_turns_Turns_Slot_0 := I_turns_Turns_Slot_0 <| by
  intro t2 t9 t10 t24 t25 t26 r0 r1 K hp ho
  obtain ⟨hT, a1, a2, rfl, i1, i2, hb, p1, p2, hl, hw, hz⟩ := hp
  unfold B_turns_Turns_Slot_0
  unfold o_turns_Turns_Slot_0 at ho ⊢
  simp only [hide_eq] at ho ⊢
  have hwl := wcnt_le r1
  rw [condP_iff]
  refine ⟨fun hlt => ?_, fun hge => ?_⟩
  · have hlt := of_decide_eq_true hlt
    have hd := drop_cons t24 t26.toNat ((0, 0, 0, ()) : UU) (by omega)
    have e : (t26 + 1).toNat = t26.toNat + 1 := by unfold big at *; omega
    rw [i64w (n := t26 + 1) (by unfold big at *; omega), e]
    rw [hd] at ho
    generalize List.getD t24 t26.toNat ((0, 0, 0, ()) : UU) = u at *
    refine ⟨i1, hlt, ?_⟩
    rw [condP_iff]
    have hub : (if (if (if (if (if decide (u.1 ≤ t10) = true then true else decide (u.1 > 16)) = true then true else decide (u.2.1 < 0)) = true then true else decide (u.2.1 > 1000000)) = true then true else decide (u.2.2.1 < 1)) = true then true else decide (u.2.2.1 > 10000)) = !userB t10 u := by
      rw [Bool.eq_iff_iff]
      unfold userB
      simp only [Bool.if_true_left, Bool.or_eq_true, decide_eq_true_eq, Bool.not_eq_true', Bool.and_eq_false_iff, decide_eq_false_iff_not]
      omega
    rw [hub]
    refine ⟨fun hx => ?_, fun hx => ?_⟩
    · have hu : userB t10 u = false := by simpa using hx
      rw [condP_iff] at ho
      exact ho.2 (by rw [usersOK, hu]; rfl) t9 r1
    · have hu : userB t10 u = true := by simpa using hx
      obtain ⟨u1, u2, u3, u4, u5, u6⟩ := userB_ok hu
      have hr : u.1.toNat < r1.length := by omega
      have hws := wcnt_set (v := u) hr
      have hz0 : r1.getD u.1.toNat u0 = u0 := hz _ (by omega) (by omega)
      rw [hz0, if_neg (show ¬ waits u0 = true by decide)] at hws
      rw [usersOK, hu, Bool.true_and, tabU] at ho
      have hz' : ∀ i : Nat, u.1 < i → i < 17 → (r1.set u.1.toNat u).getD i u0 = u0 := by
        intro i h1 h2
        rw [gset' hr, if_neg (by omega)]
        exact hz i (by omega) h2
      refine ⟨by omega, by omega, ?_⟩
      rw [condP_iff]
      refine ⟨fun hw2 => ?_, fun hw2 => ?_⟩
      · have hw2' : waits u = true := hw2
        rw [if_pos hw2'] at hws
        rw [i64w (n := t9 + 1) (by omega)]
        exact ⟨⟨hT, a1, a2, rfl, by omega, by omega, hb, by omega, by omega, by rw [List.length_set]; exact hl, by omega, hz'⟩, by unfold m_turns_Turns_Slot_0; omega, ho⟩
      · have hw2' : ¬ waits u = true := by intro h; rw [show decide (u.2.1 > 0) = waits u from rfl, h] at hw2; cases hw2
        rw [if_neg hw2'] at hws
        exact ⟨⟨hT, a1, a2, rfl, by omega, by omega, hb, by omega, by omega, by rw [List.length_set]; exact hl, by omega, hz'⟩, by unfold m_turns_Turns_Slot_0; omega, ho⟩
  · have hge := of_decide_eq_false hge
    rw [List.drop_eq_nil_of_le (by omega), condP_iff] at ho
    have := ho.1 rfl
    rw [tabU, ← hw] at this
    exact this
theorem ok_turns_Turns_Slot : SumOK Try.prog 26 S_turns_Turns_Slot := by
  refine whole_turns_Turns_Slot l_turns_Turns_Slot_0 l_turns_Turns_Slot_2 l_turns_Turns_Slot_4 ?_
  intro a0 a1 a2 hp
  obtain ⟨hT, hb⟩ : tOK a0 ∧ (List.length a1 : Int) ≤ big := hp
  unfold W_turns_Turns_Slot
  simp only [hide_eq, hu0, List.drop_zero]
  have h17 : (List.replicate 17 u0 : List UU) = tab00 := rfl
  rw [h17]
  rw [condP_iff]
  refine ⟨fun h => ?_, fun h => ?_⟩
  · have h' : a2 < 0 ∨ a2 > 100 := by
      simp only [Bool.if_true_left, Bool.or_eq_true, decide_eq_true_eq] at h; exact h
    have he : slotErr a1 a2 = 1 := by unfold slotErr; exact if_neg (fun hx => by have x1 := hx.1; have x2 := hx.2.1; omega)
    unfold slotO slotT
    rw [he]
    exact ⟨rfl, rfl, rfl, trivial⟩
  · have h' : 0 ≤ a2 ∧ a2 ≤ 100 := by
      have : ¬ (a2 < 0 ∨ a2 > 100) := by intro hx; simp only [Bool.if_true_left, Bool.or_eq_false_iff, decide_eq_true_eq, decide_eq_false_iff_not] at h; omega
      omega
    refine ⟨⟨hT, h'.1, h'.2, rfl, by decide, by omega, hb, by decide, by decide, rfl, rfl, fun i _ _ => tab00_getD i⟩, ?_⟩
    rw [condP_iff]
    refine ⟨fun hu => ?_, fun hu => ?_⟩
    · have he : slotErr a1 a2 = 0 := by unfold slotErr; rw [if_pos ⟨h'.1, h'.2, hu⟩]
      have hS : slotEnd a2.toNat (a0, tabU tab00 a1, List.replicate a2.toNat 0, 0) = slotS a0 a1 a2.toNat := rfl
      rw [hS]
      unfold slotO slotT
      rw [he, if_pos rfl, if_pos rfl]
      exact ⟨h'.1, by omega, by omega, ⟨h'.1, h'.2, by decide, IT_start hT hu _, rfl⟩, rfl, rfl, rfl, trivial⟩
    · have he : slotErr a1 a2 = 1 := by unfold slotErr; rw [if_neg (by rw [hu]; simp)]
      unfold slotO slotT
      rw [he]
      intro _ _
      exact ⟨rfl, rfl, rfl, trivial⟩
end Go.Spec
/- Whose turn it is, as the document has it: the walk. -/
namespace Go.Spec
open Go Go.Lift Go.Proofs
attribute [local irreducible] Go.Lift.awp Go.Lift.LoopOK Go.Lift.SumOK
theorem l_R_Turns_Slot_4 : LoopOK E_R_Turns_Slot 4 (loopAt (bodyOf Try.f27) 4) L_R_Turns_Slot_4 := I_R_Turns_Slot_4 <| by
  intro t2 t12 t13 t14 r0 r1 r2 K hp ho
  obtain ⟨i1, i2, hb⟩ := hp
  unfold B_R_Turns_Slot_4
  unfold o_R_Turns_Slot_4 at ho ⊢
  rw [condP_iff]
  refine ⟨fun hlt => ?_, fun hge => ?_⟩
  · have hlt := of_decide_eq_true hlt
    have hd := drop_cons r1 t14.toNat ((0, 0, 0, ()) : UU) (by omega)
    have e : (t14 + 1).toNat = t14.toNat + 1 := by unfold big at *; omega
    rw [i64w (n := t14 + 1) (by unfold big at *; omega), e]
    rw [hd, List.any_cons] at ho
    refine ⟨fun _ => i1, fun _ => hlt, ⟨by omega, by omega, hb⟩, by unfold m_R_Turns_Slot_4; omega, ?_⟩
    rw [← Bool.or_assoc] at ho
    have hw : (if t13 = true then true else decide ((r1.getD t14.toNat ((0, 0, 0, ()) : UU)).2.1 > 0)) = (t13 || waits (r1.getD t14.toNat ((0, 0, 0, ()) : UU))) := by cases t13 <;> rfl
    rw [hw]
    exact ho
  · have hge := of_decide_eq_false hge
    rw [List.drop_eq_nil_of_le (by omega), List.any_nil, Bool.or_false] at ho
    exact ho
theorem l_R_Turns_Slot_6 : LoopOK E_R_Turns_Slot 6 (loopAt (bodyOf Try.f27) 6) L_R_Turns_Slot_6 := I_R_Turns_Slot_6 <| by
  intro t2 t12 t15 t16 t17 r0 r1 r2 K hp ho
  obtain ⟨i1, i2, hb⟩ := hp
  unfold B_R_Turns_Slot_6
  unfold o_R_Turns_Slot_6 at ho ⊢
  rw [hide_eq] at ho ⊢
  rw [condP_iff]
  refine ⟨fun hlt => ?_, fun hge => ?_⟩
  · have hlt := of_decide_eq_true hlt
    have hd := drop_cons r1 t17.toNat ((0, 0, 0, ()) : UU) (by omega)
    have e : (t17 + 1).toNat = t17.toNat + 1 := by unfold big at *; omega
    rw [i64w (n := t17 + 1) (by unfold big at *; omega), e]
    rw [hd, idxW] at ho
    refine ⟨i1, hlt, fun _ => i1, fun _ => hlt, ?_⟩
    rw [condP_iff]
    refine ⟨fun hc => ?_, fun hc => ?_⟩
    · have hc' : (r1.getD t17.toNat ((0, 0, 0, ()) : UU)).1 = r0.2.1 ∧ (r1.getD t17.toNat ((0, 0, 0, ()) : UU)).2.1 > 0 := by
        revert hc
        split
        · rename_i h; intro hc; exact ⟨beq_iff_eq.1 h, of_decide_eq_true hc⟩
        · intro hc; cases hc
      rw [if_pos hc'] at ho
      exact ⟨⟨by omega, by omega, hb⟩, by unfold m_R_Turns_Slot_6; omega, ho⟩
    · have hc' : ¬ ((r1.getD t17.toNat ((0, 0, 0, ()) : UU)).1 = r0.2.1 ∧ (r1.getD t17.toNat ((0, 0, 0, ()) : UU)).2.1 > 0) := by
        rintro ⟨h1, h2⟩
        rw [if_pos (beq_iff_eq.2 h1)] at hc
        exact of_decide_eq_false hc h2
      rw [if_neg hc'] at ho
      exact ⟨⟨by omega, by omega, hb⟩, by unfold m_R_Turns_Slot_6; omega, ho⟩
  · have hge := of_decide_eq_false hge
    rw [List.drop_eq_nil_of_le (by omega), idxW] at ho
    exact ho
theorem vis2_go {t2 t12 t16 q w : Int} {o : Bool} {cr : List Int} {r1 : List UU} {r2 : List Int} (ha : 0 ≤ t12) (hl : w.toNat < cr.length) (hr : t16.toNat < r1.length)
    (hg : t12 < t2 ∧ (r1.getD t16.toNat u0).2.1 > 0 ∧ cr.getD w.toNat 0 ≥ (r1.getD t16.toNat u0).2.2.1) :
    vis2 t2 (t12 + 1) t16 (q, w, o, cr.set w.toNat (cr.getD w.toNat 0 - (r1.getD t16.toNat u0).2.2.1), ()) (r1.set t16.toNat ((r1.getD t16.toNat u0).1, lesser true ((r1.getD t16.toNat u0).2.1 - (r1.getD t16.toNat u0).2.2.1) 0, (r1.getD t16.toNat u0).2.2)) (r2.set t12.toNat w)
      = vis2 t2 t12 t16 (q, w, o, cr, ()) r1 r2 := by
  have e : (t12 + 1).toNat = t12.toNat + 1 := by omega
  unfold vis2
  simp only [gset' hl, gset' hr, if_pos, List.set_set, e]
  rw [giveW_go (a := t12.toNat) ⟨by omega, hg.2⟩]
theorem vis2_end {t2 t12 t16 q w : Int} {o : Bool} {cr : List Int} {r1 : List UU} {r2 : List Int} (ha : 0 ≤ t12) (hl : w.toNat < cr.length) (hr : t16.toNat < r1.length)
    (hg : ¬ (t12 < t2 ∧ (r1.getD t16.toNat u0).2.1 > 0 ∧ cr.getD w.toNat 0 ≥ (r1.getD t16.toNat u0).2.2.1)) :
    vis2 t2 t12 t16 (q, w, o, cr, ()) r1 r2 = ((q, w, o || (decide ((r1.getD t16.toNat u0).2.1 > 0) && decide (cr.getD w.toNat 0 ≥ (r1.getD t16.toNat u0).2.2.1)), cr, ()), r1, r2, t12.toNat) := by
  unfold vis2
  simp only
  rw [giveW_end (by intro h; exact hg ⟨by omega, h.2⟩)]
  have h1 : cr.set w.toNat (cr.getD w.toNat 0) = cr := by
    rw [List.getD_eq_getElem?_getD, List.getElem?_eq_getElem hl]; exact List.set_getElem_self hl
  have h2 : r1.set t16.toNat ((r1.getD t16.toNat u0).1, (r1.getD t16.toNat u0).2.1, (r1.getD t16.toNat u0).2.2.1, ()) = r1 := by
    show r1.set t16.toNat (r1.getD t16.toNat u0) = r1
    rw [List.getD_eq_getElem?_getD, List.getElem?_eq_getElem hr]; exact List.set_getElem_self hr
  simp only [h1, h2]
theorem l_R_Turns_Slot_8 : LoopOK E_R_Turns_Slot 8 (loopAt (bodyOf Try.f27) 8) L_R_Turns_Slot_8 := I_R_Turns_Slot_8 <| by
  intro t2 t12 t16 r0 r1 r2 K hp ho
  obtain ⟨q, w, op, cr, un⟩ := r0
  obtain rfl : un = () := rfl
  obtain ⟨a1, a2, b1, b2, i1, i2, hb, l1, l2, cl, ol, u1, u2, f1, f2, c1, c2⟩ := hp
  simp only at l1 l2 cl u1 u2 f1 f2 c1 c2
  have hl : w.toNat < cr.length := by omega
  have hr : t16.toNat < r1.length := by omega
  unfold B_R_Turns_Slot_8
  unfold o_R_Turns_Slot_8 wA wT wU wO at ho ⊢
  simp only [hide_eq] at ho ⊢
  refine ⟨i1, i2, fun _ => by show (0 : Int) ≤ w; omega, fun _ => by show w < ((17 : Nat) : Int); omega, fun _ => i1, fun _ => i2, ?_⟩
  rw [condP_iff]
  refine ⟨fun hg => ?_, fun hg => ?_⟩
  · have hg' : (r1.getD t16.toNat u0).2.1 > 0 ∧ cr.getD w.toNat 0 ≥ (r1.getD t16.toNat u0).2.2.1 := by
      revert hg
      split
      · rename_i h; intro hc; exact ⟨of_decide_eq_true h, of_decide_eq_true hc⟩
      · intro hc; cases hc
    rw [condP_iff]
    refine ⟨fun he => ?_, fun he => ?_⟩
    · have he' : t12 = t2 := beq_iff_eq.1 he
      rw [vis2_end b1 hl hr (by omega), decide_eq_true hg'.1, decide_eq_true hg'.2] at ho
      simp only [Int.toNat_of_nonneg b1, Bool.and_self, Bool.or_true] at ho
      exact ho
    · have he' : t12 ≠ t2 := beq_eq_false_iff_ne.1 he
      rw [← vis2_go b1 hl hr ⟨by omega, hg'⟩] at ho
      rw [i64w (n := t12 + 1) (by omega)]
      have hbf : IntKind.wrap IntKind.i64 ((r1.getD t16.toNat u0).2.1 - (r1.getD t16.toNat u0).2.2.1) = (r1.getD t16.toNat u0).2.1 - (r1.getD t16.toNat u0).2.2.1 := i64w (by omega)
      have hcf : IntKind.wrap IntKind.i64 (cr.getD w.toNat 0 - (r1.getD t16.toNat u0).2.2.1) = cr.getD w.toNat 0 - (r1.getD t16.toNat u0).2.2.1 := i64w (by omega)
      have hw0 : (0 : Int) ≤ w := by omega
      have hw17 : w < ((17 : Nat) : Int) := by omega
      refine ⟨b1, by omega, hw0, hw17, i1, i2, hw0, hw17, i1, i2, i1, i2, i1, i2, i1, by rw [List.length_set]; exact i2, ?_⟩
      have hgo : ∀ b : Int, b = lesser true ((r1.getD t16.toNat u0).2.1 - (r1.getD t16.toNat u0).2.2.1) 0 →
          p_R_Turns_Slot_8 t2 (t12 + 1) t16 (q, w, op, cr.set w.toNat (cr.getD w.toNat 0 - (r1.getD t16.toNat u0).2.2.1), ()) (r1.set t16.toNat ((r1.getD t16.toNat u0).1, b, (r1.getD t16.toNat u0).2.2)) (r2.set t12.toNat w) := by
        intro b hbl
        have hls : 0 ≤ b ∧ b ≤ (r1.getD t16.toNat u0).2.1 := by rw [hbl, lesser_t]; split <;> omega
        refine ⟨a1, a2, by omega, by omega, i1, by rw [List.length_set]; exact i2, by rw [List.length_set]; exact hb, l1, l2, by simp only [List.length_set]; exact cl, by simp only [List.length_set]; exact ol, ?_, ?_, ?_, ?_, ?_, ?_⟩
        all_goals simp only [gset' hr, gset' hl, if_pos]
        all_goals omega
      rw [lesser_t] at ho hgo
      rw [condP_iff]
      refine ⟨fun hn => ?_, fun hn => ?_⟩
      · have hn1 := of_decide_eq_true hn
        rw [gset' hr, if_pos rfl] at hn1
        have hn' : (r1.getD t16.toNat u0).2.1 - (r1.getD t16.toNat u0).2.2.1 < 0 := by rw [← hbf]; exact hn1
        rw [if_pos (show (0 : Int) > (r1.getD t16.toNat u0).2.1 - (r1.getD t16.toNat u0).2.2.1 by omega)] at ho hgo
        have hfin := (⟨hgo 0 rfl, by unfold m_R_Turns_Slot_8; omega, ho⟩ : _ ∧ m_R_Turns_Slot_8 t2 (t12 + 1) t16 (q, w, op, cr.set w.toNat (cr.getD w.toNat 0 - (r1.getD t16.toNat u0).2.2.1), ()) (r1.set t16.toNat ((r1.getD t16.toNat u0).1, 0, (r1.getD t16.toNat u0).2.2)) (r2.set t12.toNat w) < m_R_Turns_Slot_8 t2 t12 t16 (q, w, op, cr, ()) r1 r2 ∧ _)
        have hs : ∀ b : Int, List.set (r1.set t16.toNat ((r1.getD t16.toNat u0).1, b, (r1.getD t16.toNat u0).2.2)) t16.toNat (((r1.set t16.toNat ((r1.getD t16.toNat u0).1, b, (r1.getD t16.toNat u0).2.2)).getD t16.toNat ((0, 0, 0, ()) : UU)).1, 0, ((r1.set t16.toNat ((r1.getD t16.toNat u0).1, b, (r1.getD t16.toNat u0).2.2)).getD t16.toNat ((0, 0, 0, ()) : UU)).2.2) = r1.set t16.toNat ((r1.getD t16.toNat u0).1, 0, (r1.getD t16.toNat u0).2.2) := by
          intro b
          rw [gset' hr, if_pos rfl, List.set_set]
        rw [← hs _, ← hcf] at hfin
        exact ⟨i1, by rw [List.length_set]; exact i2, hfin⟩
      · have hn1 := of_decide_eq_false hn
        rw [gset' hr, if_pos rfl] at hn1
        have hn' : ¬ (r1.getD t16.toNat u0).2.1 - (r1.getD t16.toNat u0).2.2.1 < 0 := by rw [← hbf]; exact hn1
        rw [if_neg (show ¬ (0 : Int) > (r1.getD t16.toNat u0).2.1 - (r1.getD t16.toNat u0).2.2.1 by omega)] at ho hgo
        have hfin := (⟨hgo _ rfl, by unfold m_R_Turns_Slot_8; omega, ho⟩ : _ ∧ m_R_Turns_Slot_8 t2 (t12 + 1) t16 (q, w, op, cr.set w.toNat (cr.getD w.toNat 0 - (r1.getD t16.toNat u0).2.2.1), ()) (r1.set t16.toNat ((r1.getD t16.toNat u0).1, (r1.getD t16.toNat u0).2.1 - (r1.getD t16.toNat u0).2.2.1, (r1.getD t16.toNat u0).2.2)) (r2.set t12.toNat w) < m_R_Turns_Slot_8 t2 t12 t16 (q, w, op, cr, ()) r1 r2 ∧ _)
        rw [← hbf, ← hcf] at hfin
        exact hfin
  · have hg' : ¬ ((r1.getD t16.toNat u0).2.1 > 0 ∧ cr.getD w.toNat 0 ≥ (r1.getD t16.toNat u0).2.2.1) := by
      intro h
      have hg2 : (if decide ((r1.getD t16.toNat u0).2.1 > 0) = true then decide (cr.getD w.toNat 0 ≥ (r1.getD t16.toNat u0).2.2.1) else false) = false := hg
      rw [if_pos (decide_eq_true h.1)] at hg2
      exact of_decide_eq_false hg2 h.2
    rw [vis2_end b1 hl hr (by omega)] at ho
    have hd : (decide ((r1.getD t16.toNat u0).2.1 > 0) && decide (cr.getD w.toNat 0 ≥ (r1.getD t16.toNat u0).2.2.1)) = false := by
      rw [Bool.eq_false_iff]
      intro h
      rw [Bool.and_eq_true, decide_eq_true_eq, decide_eq_true_eq] at h
      exact hg' h
    rw [hd] at ho
    simp only [Int.toNat_of_nonneg b1, Bool.or_false] at ho
    exact ho
end Go.Spec
/- Whose turn it is, as the document has it: the slot. -/
namespace Go.Spec
open Go Go.Lift Go.Proofs
attribute [local irreducible] Go.Lift.awp Go.Lift.LoopOK Go.Lift.SumOK
theorem nx2 {t2 t12 a' : Int} {r0 r0' : TT} {r1 r1' : List UU} {r2 r2' : List Int} {K : AExit → St → Prop} (hp : p_R_Turns_Slot_2 t2 t12 r0 r1 r2) (hlt : t12 < t2) (h0 : 0 < wcnt (tabU tab00 r1))
    (ho : o_R_Turns_Slot_2 t2 t12 r0 r1 r2 K) (hs : stepT t2.toNat (r0, tabU tab00 r1, r2, t12.toNat) = (r0', tabU tab00 r1', r2', a'.toNat)) (ha : 0 ≤ a') (hu : usersOK 0 r1' = true) :
    p_R_Turns_Slot_2 t2 a' r0' r1' r2' ∧ m_R_Turns_Slot_2 t2 a' r0' r1' r2' < m_R_Turns_Slot_2 t2 t12 r0 r1 r2 ∧ o_R_Turns_Slot_2 t2 a' r0' r1' r2' K := by
  obtain ⟨a1, a2, b1, hu0, hI⟩ := hp
  have hg : goes t2.toNat (r0, tabU tab00 r1, r2, t12.toNat) = true := by
    unfold goes
    simp only [Bool.and_eq_true, decide_eq_true_eq]
    omega
  have h1 := stepT_ok hI hg
  have h2 := stepT_less hI hg
  rw [hs] at h1 h2
  refine ⟨⟨a1, a2, ha, hu, h1⟩, h2, ?_⟩
  unfold o_R_Turns_Slot_2 at ho ⊢
  rw [hide_eq] at ho ⊢
  rw [slotEnd_step hI hg, hs] at ho
  exact ho
theorem l_R_Turns_Slot_2 : LoopOK E_R_Turns_Slot 2 (loopAt (bodyOf Try.f27) 2) L_R_Turns_Slot_2 := I_R_Turns_Slot_2 <| by
  intro t2 t12 r0 r1 r2 K hp ho
  obtain ⟨q, w, op, cr, un⟩ := r0
  obtain rfl : un = () := rfl
  have hp0 := hp
  obtain ⟨a1, a2, b1, hu, hI⟩ := hp
  obtain ⟨w1, w2⟩ := wOf_bd hI.t
  obtain ⟨c1, c2⟩ := start_cr hI.t
  have hlen : cr.length = 17 := hI.t.len
  have hol : r2.length = t2.toNat := hI.ol
  have hal : t12.toNat ≤ t2.toNat := hI.al
  have q1 : 1 ≤ q := hI.t.q1
  have q2 : q ≤ 10000 := hI.t.q2
  have l1 : 0 ≤ w := hI.t.l1
  have l2 : w ≤ 16 := hI.t.l2
  have hrl : r1.length ≤ 16 := by
    rcases Nat.eq_zero_or_pos r1.length with h | h
    · omega
    · exact users_few r1 0 hu
  have hbig : (r1.length : Int) ≤ big := by unfold big; omega
  unfold B_R_Turns_Slot_2
  rw [condP_iff]
  simp only [hide_eq, List.drop_zero, Bool.false_or, any_waits hu]
  refine ⟨fun hlt => ?_, fun hge => ?_⟩
  · have hlt := of_decide_eq_true hlt
    refine ⟨⟨by decide, by omega, hbig⟩, ?_⟩
    rw [condP_iff]
    refine ⟨fun hn => ?_, fun hn => ?_⟩
    · have hge : goes t2.toNat ((q, w, op, cr, ()), tabU tab00 r1, r2, t12.toNat) = false := by
        unfold goes
        rw [Bool.not_eq_true'] at hn
        simp only [hn, Bool.and_false]
      have ho' := ho
      unfold o_R_Turns_Slot_2 at ho'
      rw [hide_eq, slotEnd_end hge] at ho'
      exact (ho' true).t rfl
    · have h0 : 0 < wcnt (tabU tab00 r1) := by
        have : decide (0 < wcnt (tabU tab00 r1)) = true := by
          cases h : decide (0 < wcnt (tabU tab00 r1)) with
          | true => rfl
          | false => rw [h] at hn; cases hn
        exact of_decide_eq_true this
      -- none of that number waits
      have none_ : ∀ W : Int, W = wOf (q, w, op, cr, ()) → idxW W r1 0 (-1) < 0 → 0 ≤ W ∧ W < ((17 : Nat) : Int) ∧
          p_R_Turns_Slot_2 t2 t12 (q, W, false, cr.set W.toNat 0, ()) r1 r2 ∧ m_R_Turns_Slot_2 t2 t12 (q, W, false, cr.set W.toNat 0, ()) r1 r2 < m_R_Turns_Slot_2 t2 t12 (q, w, op, cr, ()) r1 r2 ∧ o_R_Turns_Slot_2 t2 t12 (q, W, false, cr.set W.toNat 0, ()) r1 r2 K := by
        intro W hW hi
        have hWb : 1 ≤ W ∧ W ≤ 16 := by rw [hW]; exact ⟨w1, w2⟩
        rcases idxW_at W r1 0 (-1) 0 hu with ⟨hn, _⟩ | ⟨k, hk, e1, e2, e3⟩
        · have hz := turn_none hu (by omega) hn
          refine ⟨by omega, by omega, nx2 hp0 hlt h0 ho ?_ b1 hu⟩
          unfold stepT
          simp only
          rw [← hW, if_pos hz]
        · rw [e3] at hi; omega
      -- a visit
      have main : ∀ (W : Int) (cr' : List Int) (at' : Int), W = wOf (q, w, op, cr, ()) → cr'.length = 17 → cr'.getD W.toNat 0 = cr.getD W.toNat 0 + gOf (q, w, op, cr, ()) → (∀ v, cr'.set W.toNat v = cr.set W.toNat v) → at' = idxW W r1 0 (-1) → ¬ at' < 0 →
          p_R_Turns_Slot_8 t2 t12 at' (q, W, false, cr', ()) r1 r2 ∧ 0 ≤ at' ∧ at' < ((wU t2 t12 at' (q, W, false, cr', ()) r1 r2).length : Int) ∧
          condP (((wU t2 t12 at' (q, W, false, cr', ()) r1 r2).getD at'.toNat (0, 0, 0, ())).2.1 == 0)
            (0 ≤ (wT t2 t12 at' (q, W, false, cr', ()) r1 r2).2.1 ∧ (wT t2 t12 at' (q, W, false, cr', ()) r1 r2).2.1 < ((17 : Nat) : Int) ∧
              p_R_Turns_Slot_2 t2 (wA t2 t12 at' (q, W, false, cr', ()) r1 r2) ((wT t2 t12 at' (q, W, false, cr', ()) r1 r2).1, (wT t2 t12 at' (q, W, false, cr', ()) r1 r2).2.1, (wT t2 t12 at' (q, W, false, cr', ()) r1 r2).2.2.1, (wT t2 t12 at' (q, W, false, cr', ()) r1 r2).2.2.2.1.set (wT t2 t12 at' (q, W, false, cr', ()) r1 r2).2.1.toNat 0, (wT t2 t12 at' (q, W, false, cr', ()) r1 r2).2.2.2.2) (wU t2 t12 at' (q, W, false, cr', ()) r1 r2) (wO t2 t12 at' (q, W, false, cr', ()) r1 r2) ∧
              m_R_Turns_Slot_2 t2 (wA t2 t12 at' (q, W, false, cr', ()) r1 r2) ((wT t2 t12 at' (q, W, false, cr', ()) r1 r2).1, (wT t2 t12 at' (q, W, false, cr', ()) r1 r2).2.1, (wT t2 t12 at' (q, W, false, cr', ()) r1 r2).2.2.1, (wT t2 t12 at' (q, W, false, cr', ()) r1 r2).2.2.2.1.set (wT t2 t12 at' (q, W, false, cr', ()) r1 r2).2.1.toNat 0, (wT t2 t12 at' (q, W, false, cr', ()) r1 r2).2.2.2.2) (wU t2 t12 at' (q, W, false, cr', ()) r1 r2) (wO t2 t12 at' (q, W, false, cr', ()) r1 r2) < m_R_Turns_Slot_2 t2 t12 (q, w, op, cr, ()) r1 r2 ∧
              o_R_Turns_Slot_2 t2 (wA t2 t12 at' (q, W, false, cr', ()) r1 r2) ((wT t2 t12 at' (q, W, false, cr', ()) r1 r2).1, (wT t2 t12 at' (q, W, false, cr', ()) r1 r2).2.1, (wT t2 t12 at' (q, W, false, cr', ()) r1 r2).2.2.1, (wT t2 t12 at' (q, W, false, cr', ()) r1 r2).2.2.2.1.set (wT t2 t12 at' (q, W, false, cr', ()) r1 r2).2.1.toNat 0, (wT t2 t12 at' (q, W, false, cr', ()) r1 r2).2.2.2.2) (wU t2 t12 at' (q, W, false, cr', ()) r1 r2) (wO t2 t12 at' (q, W, false, cr', ()) r1 r2) K)
            (p_R_Turns_Slot_2 t2 (wA t2 t12 at' (q, W, false, cr', ()) r1 r2) (wT t2 t12 at' (q, W, false, cr', ()) r1 r2) (wU t2 t12 at' (q, W, false, cr', ()) r1 r2) (wO t2 t12 at' (q, W, false, cr', ()) r1 r2) ∧
              m_R_Turns_Slot_2 t2 (wA t2 t12 at' (q, W, false, cr', ()) r1 r2) (wT t2 t12 at' (q, W, false, cr', ()) r1 r2) (wU t2 t12 at' (q, W, false, cr', ()) r1 r2) (wO t2 t12 at' (q, W, false, cr', ()) r1 r2) < m_R_Turns_Slot_2 t2 t12 (q, w, op, cr, ()) r1 r2 ∧
              o_R_Turns_Slot_2 t2 (wA t2 t12 at' (q, W, false, cr', ()) r1 r2) (wT t2 t12 at' (q, W, false, cr', ()) r1 r2) (wU t2 t12 at' (q, W, false, cr', ()) r1 r2) (wO t2 t12 at' (q, W, false, cr', ()) r1 r2) K) := by
        intro W cr' at' hW hl' hg' hset hat hnn
        have hWb : 1 ≤ W ∧ W ≤ 16 := by rw [hW]; exact ⟨w1, w2⟩
        have hcb : 0 ≤ cr'.getD W.toNat 0 ∧ cr'.getD W.toNat 0 ≤ 9999 + q := by rw [hg', hW]; exact ⟨c1, c2⟩
        rcases idxW_at W r1 0 (-1) 0 hu with ⟨_, he⟩ | ⟨k, hk, e1, e2, e3⟩
        · omega
        · have hk' : at' = (k : Int) := by rw [hat, e3]; omega
          subst hk'
          have hub := usersOK_at r1 0 k hu hk
          have hta := tab_at r1 tab00 0 k hu (by decide) rfl hk
          rw [e1] at hta
          have hstep : stepT t2.toNat ((q, w, op, cr, ()), tabU tab00 r1, r2, t12.toNat) =
              if (giveW t2.toNat W (r1.getD k u0).2.2.1 t12.toNat (r1.getD k u0).2.1 (cr'.getD W.toNat 0) r2).2.1 = 0 then ((q, W, false, cr.set W.toNat 0, ()), (tabU tab00 r1).set W.toNat ((r1.getD k u0).1, (giveW t2.toNat W (r1.getD k u0).2.2.1 t12.toNat (r1.getD k u0).2.1 (cr'.getD W.toNat 0) r2).2.1, (r1.getD k u0).2.2.1, ()), (giveW t2.toNat W (r1.getD k u0).2.2.1 t12.toNat (r1.getD k u0).2.1 (cr'.getD W.toNat 0) r2).2.2.2, (giveW t2.toNat W (r1.getD k u0).2.2.1 t12.toNat (r1.getD k u0).2.1 (cr'.getD W.toNat 0) r2).1)
              else ((q, W, decide ((giveW t2.toNat W (r1.getD k u0).2.2.1 t12.toNat (r1.getD k u0).2.1 (cr'.getD W.toNat 0) r2).2.2.1 ≥ (r1.getD k u0).2.2.1), cr.set W.toNat (giveW t2.toNat W (r1.getD k u0).2.2.1 t12.toNat (r1.getD k u0).2.1 (cr'.getD W.toNat 0) r2).2.2.1, ()), (tabU tab00 r1).set W.toNat ((r1.getD k u0).1, (giveW t2.toNat W (r1.getD k u0).2.2.1 t12.toNat (r1.getD k u0).2.1 (cr'.getD W.toNat 0) r2).2.1, (r1.getD k u0).2.2.1, ()), (giveW t2.toNat W (r1.getD k u0).2.2.1 t12.toNat (r1.getD k u0).2.1 (cr'.getD W.toNat 0) r2).2.2.2, (giveW t2.toNat W (r1.getD k u0).2.2.1 t12.toNat (r1.getD k u0).2.1 (cr'.getD W.toNat 0) r2).1) := by
            unfold stepT
            simp only
            rw [← hW, hta, if_neg (by omega), ← hg']
          have hfac := giveW_facts t2.toNat W _ hub.2.2.2.2.1 t12.toNat (r1.getD k u0).2.1 (cr'.getD W.toNat 0) r2 hub.2.2.1 hcb.1 hal
          have hv : vis2 t2 t12 (k : Int) (q, W, false, cr', ()) r1 r2 = ((q, W, false || (decide ((giveW t2.toNat W (r1.getD k u0).2.2.1 t12.toNat (r1.getD k u0).2.1 (cr'.getD W.toNat 0) r2).2.1 > 0) && decide ((giveW t2.toNat W (r1.getD k u0).2.2.1 t12.toNat (r1.getD k u0).2.1 (cr'.getD W.toNat 0) r2).2.2.1 ≥ (r1.getD k u0).2.2.1)), cr'.set W.toNat (giveW t2.toNat W (r1.getD k u0).2.2.1 t12.toNat (r1.getD k u0).2.1 (cr'.getD W.toNat 0) r2).2.2.1, ()),
              r1.set k ((r1.getD k u0).1, (giveW t2.toNat W (r1.getD k u0).2.2.1 t12.toNat (r1.getD k u0).2.1 (cr'.getD W.toNat 0) r2).2.1, (r1.getD k u0).2.2.1, ()), (giveW t2.toNat W (r1.getD k u0).2.2.1 t12.toNat (r1.getD k u0).2.1 (cr'.getD W.toNat 0) r2).2.2.2, (giveW t2.toNat W (r1.getD k u0).2.2.1 t12.toNat (r1.getD k u0).2.1 (cr'.getD W.toNat 0) r2).1) := rfl
          refine ⟨⟨a1, a2, b1, by omega, by omega, by omega, hbig, hWb.1, hWb.2, hl', by omega, hub.2.2.1, hub.2.2.2.1, hub.2.2.2.2.1, hub.2.2.2.2.2, hcb.1, by show cr'.getD W.toNat 0 ≤ 20000; omega⟩, by omega, ?_⟩
          unfold wT wU wO wA
          simp only [hide_eq, hv, hset]
          generalize giveW t2.toNat W (r1.getD k u0).2.2.1 t12.toNat (r1.getD k u0).2.1 (cr'.getD W.toNat 0) r2 = rr at *
          obtain ⟨ra, rb, rc, ro⟩ := rr
          simp only at hstep hfac ⊢
          have hset2 : tabU tab00 (r1.set k ((r1.getD k u0).1, rb, (r1.getD k u0).2.2.1, ())) = (tabU tab00 r1).set W.toNat ((r1.getD k u0).1, rb, (r1.getD k u0).2.2.1, ()) := by
            rw [tab_set r1 tab00 0 k ((r1.getD k u0).1, rb, (r1.getD k u0).2.2.1, ()) hu (by decide) hk rfl]
            simp only [e1]
          have huo : usersOK 0 (r1.set k ((r1.getD k u0).1, rb, (r1.getD k u0).2.2.1, ())) = true :=
            usersOK_set r1 0 k _ hu hk rfl hfac.2.2.1 (by have := hfac.2.2.2.1; show rb ≤ 1000000; omega) hub.2.2.2.2.1 hub.2.2.2.2.2
          refine ⟨by rw [List.length_set]; omega, ?_⟩
          rw [show ((k : Int)).toNat = k from Int.toNat_natCast k, gset' hk, if_pos rfl, condP_iff]
          refine ⟨fun hb => ?_, fun hb => ?_⟩
          · have hb' : rb = 0 := beq_iff_eq.1 hb
            rw [if_pos hb', ← hset2] at hstep
            refine ⟨by omega, by omega, ?_⟩
            have hd : (false || (decide (rb > 0) && decide (rc ≥ (r1.getD k u0).2.2.1))) = false := by rw [hb']; rfl
            rw [hd, List.set_set]
            exact nx2 hp0 hlt h0 ho hstep (by omega) huo
          · have hb' : ¬ rb = 0 := beq_eq_false_iff_ne.1 hb
            rw [if_neg hb', ← hset2] at hstep
            have hd : (false || (decide (rb > 0) && decide (rc ≥ (r1.getD k u0).2.2.1))) = decide (rc ≥ (r1.getD k u0).2.2.1) := by rw [decide_eq_true (show rb > 0 by omega)]; rfl
            rw [hd]
            exact nx2 hp0 hlt h0 ho hstep (by omega) huo
      rw [condP_iff]
      refine ⟨fun hop => ?_, fun hop => ?_⟩
      · have hop' : op = false := by simpa using hop
        subst hop'
        have hwo : wOf (q, w, false, cr, ()) = w % 16 + 1 := rfl
        rw [condP_iff]
        refine ⟨fun h16 => ?_, fun h16 => ?_⟩
        · have h16 := of_decide_eq_true h16
          rw [i64w (n := w + 1) (by omega)] at h16
          have hW : (1 : Int) = wOf (q, w, false, cr, ()) := by rw [hwo]; omega
          refine ⟨⟨by decide, by omega, hbig⟩, ?_⟩
          have hcw : 0 ≤ cr.getD (1 : Int).toNat 0 + q ∧ cr.getD (1 : Int).toNat 0 + q ≤ 9999 + q := by rw [hW]; exact ⟨c1, c2⟩
          have hwc : IntKind.wrap IntKind.i64 (cr.getD (1 : Int).toNat 0 + q) = cr.getD (1 : Int).toNat 0 + q := i64w (by omega)
          have hlW : (1 : Int).toNat < cr.length := by omega
          rw [condP_iff]
          refine ⟨fun hi => none_ (1) hW (of_decide_eq_true hi), fun hi => ?_⟩
          rw [condP_iff]
          refine ⟨fun _ => ?_, fun h => by cases h⟩
          have hm := main (1) (cr.set (1 : Int).toNat (cr.getD (1 : Int).toNat 0 + q)) (idxW (1) r1 0 (-1)) hW (by rw [List.length_set]; exact hlen) (by rw [gset' hlW, if_pos rfl]; rfl) (fun v => by rw [List.set_set]) rfl (of_decide_eq_false hi)
          rw [← hwc] at hm
          exact ⟨by decide, by decide, by decide, by decide, hm⟩
        · have h16 := of_decide_eq_false h16
          rw [i64w (n := w + 1) (by omega)] at h16 ⊢
          have hW : w + 1 = wOf (q, w, false, cr, ()) := by rw [hwo]; omega
          refine ⟨⟨by decide, by omega, hbig⟩, ?_⟩
          have hcw : 0 ≤ cr.getD (w + 1 : Int).toNat 0 + q ∧ cr.getD (w + 1 : Int).toNat 0 + q ≤ 9999 + q := by rw [hW]; exact ⟨c1, c2⟩
          have hwc : IntKind.wrap IntKind.i64 (cr.getD (w + 1 : Int).toNat 0 + q) = cr.getD (w + 1 : Int).toNat 0 + q := i64w (by omega)
          have hlW : (w + 1 : Int).toNat < cr.length := by omega
          rw [condP_iff]
          refine ⟨fun hi => none_ (w + 1) hW (of_decide_eq_true hi), fun hi => ?_⟩
          rw [condP_iff]
          refine ⟨fun _ => ?_, fun h => by cases h⟩
          have hm := main (w + 1) (cr.set (w + 1 : Int).toNat (cr.getD (w + 1 : Int).toNat 0 + q)) (idxW (w + 1) r1 0 (-1)) hW (by rw [List.length_set]; exact hlen) (by rw [gset' hlW, if_pos rfl]; rfl) (fun v => by rw [List.set_set]) rfl (of_decide_eq_false hi)
          rw [← hwc] at hm
          exact ⟨by omega, by omega, by omega, by omega, hm⟩
      · have hop' : op = true := by simpa using hop
        subst hop'
        have hW : w = wOf (q, w, true, cr, ()) := rfl
        refine ⟨⟨by decide, by omega, hbig⟩, ?_⟩
        rw [condP_iff]
        refine ⟨fun hi => none_ w hW (of_decide_eq_true hi), fun hi => ?_⟩
        rw [condP_iff]
        refine ⟨fun h => (by cases h), fun _ => ?_⟩
        exact main w cr (idxW w r1 0 (-1)) hW hlen (Int.add_zero _).symm (fun v => rfl) rfl (of_decide_eq_false hi)
  · have hge := of_decide_eq_false hge
    have hge : goes t2.toNat ((q, w, op, cr, ()), tabU tab00 r1, r2, t12.toNat) = false := by
      unfold goes
      rw [decide_eq_false (show ¬ t12.toNat < t2.toNat by omega), Bool.false_and]
    unfold o_R_Turns_Slot_2 at ho
    rw [hide_eq, slotEnd_end hge] at ho
    exact (ho false).f rfl
theorem l_R_Turns_Slot_0 : LoopOK E_R_Turns_Slot 0 (loopAt (bodyOf Try.f27) 0) L_R_Turns_Slot_0 := I_R_Turns_Slot_0 <| by
  intro t1 t2 t8 r0 K hp ho
  obtain ⟨hT, hb, i1, i2, a1, a2, hpr⟩ := hp
  unfold B_R_Turns_Slot_0
  unfold o_R_Turns_Slot_0 at ho ⊢
  rw [hide_eq] at ho ⊢
  rw [condP_iff]
  refine ⟨fun hlt => ?_, fun hge => ?_⟩
  · have hlt := of_decide_eq_true hlt
    have hd := drop_cons t1 t8.toNat ((0, 0, 0, ()) : UU) (by omega)
    have e : (t8 + 1).toNat = t8.toNat + 1 := by unfold big at *; omega
    have hpv : prevW t1 (t8 + 1) = (t1.getD t8.toNat ((0, 0, 0, ()) : UU)).1 := by
      unfold prevW
      rw [if_neg (by omega), show t8 + 1 - 1 = t8 by omega]; rfl
    have hpz : t8 = 0 → prevW t1 t8 = 0 := fun h => by unfold prevW; rw [if_pos h]
    have hpp : t8 > 0 → prevW t1 t8 = (t1.getD (IntKind.wrap IntKind.i64 (t8 - 1)).toNat ((0, 0, 0, ()) : UU)).1 := fun h => by
      unfold prevW
      rw [if_neg (by omega), i64w (n := t8 - 1) (by unfold big at *; omega)]; rfl
    have hw1 : t8 > 0 → IntKind.wrap IntKind.i64 (t8 - 1) = t8 - 1 := fun h => i64w (by unfold big at *; omega)
    have hcnd : ∀ b : Bool, (b && decide (t8 > 0) == true) = true → t8 > 0 := by
      intro b h
      rw [Bool.and_eq_true] at h
      simpa using h.2
    rw [hd, usersOK] at ho
    refine ⟨i1, hlt, fun h => ?_, fun h => ?_, ?_⟩
    · have := hcnd _ h; rw [hw1 this]; omega
    · have := hcnd _ h; rw [hw1 this]; omega
    · rw [condP_iff]
      have hub : (if (if (if (if (if (if decide ((t1.getD t8.toNat ((0, 0, 0, ()) : UU)).1 < 1) = true then true else decide ((t1.getD t8.toNat ((0, 0, 0, ()) : UU)).1 > 16)) = true then true else if decide (t8 > 0) = true then decide ((t1.getD t8.toNat ((0, 0, 0, ()) : UU)).1 ≤ (t1.getD (IntKind.wrap IntKind.i64 (t8 - 1)).toNat ((0, 0, 0, ()) : UU)).1) else false) = true then true else decide ((t1.getD t8.toNat ((0, 0, 0, ()) : UU)).2.1 < 0)) = true then true else decide ((t1.getD t8.toNat ((0, 0, 0, ()) : UU)).2.1 > 1000000)) = true then true else decide ((t1.getD t8.toNat ((0, 0, 0, ()) : UU)).2.2.1 < 1)) = true then true else decide ((t1.getD t8.toNat ((0, 0, 0, ()) : UU)).2.2.1 > 10000)) = !userB (prevW t1 t8) (t1.getD t8.toNat ((0, 0, 0, ()) : UU)) := by
        generalize t1.getD (IntKind.wrap IntKind.i64 (t8 - 1)).toNat ((0, 0, 0, ()) : UU) = v at *
        generalize t1.getD t8.toNat ((0, 0, 0, ()) : UU) = u at *
        generalize prevW t1 t8 = pv at *
        rw [Bool.eq_iff_iff]
        unfold userB
        simp only [Bool.if_true_left, Bool.if_false_right, Bool.or_eq_true, decide_eq_true_eq, Bool.not_eq_true', Bool.and_eq_true, Bool.and_eq_false_iff, decide_eq_false_iff_not]
        omega
      rw [hub]
      refine ⟨fun hx => ?_, fun hx => ?_⟩
      · have hu : userB (prevW t1 t8) (t1.getD t8.toNat ((0, 0, 0, ()) : UU)) = false := by simpa using hx
        rw [hu] at ho
        exact ho.2 rfl
      · have hu : userB (prevW t1 t8) (t1.getD t8.toNat ((0, 0, 0, ()) : UU)) = true := by simpa using hx
        obtain ⟨u1, u2, u3, u4, u5, u6⟩ := userB_ok hu
        rw [hu, Bool.true_and] at ho
        rw [i64w (n := t8 + 1) (by unfold big at *; omega), hpv, e]
        refine ⟨⟨hT, hb, by omega, by omega, a1, a2, fun _ => ?_⟩, by unfold m_R_Turns_Slot_0; omega, ho⟩
        rw [hpv]
        rcases Int.lt_or_le 0 t8 with h | h
        · have := hpr h; omega
        · have := hpz (by omega); omega
  · have hge := of_decide_eq_false hge
    rw [List.drop_eq_nil_of_le (by omega), usersOK] at ho
    exact ho.1 rfl
theorem ok_R_Turns_Slot : SumOK Try.prog 27 S_R_Turns_Slot := by
  refine whole_R_Turns_Slot l_R_Turns_Slot_0 l_R_Turns_Slot_2 l_R_Turns_Slot_4 l_R_Turns_Slot_6 l_R_Turns_Slot_8 ?_
  intro a0 a1 a2 hp
  obtain ⟨hT, hb⟩ : tOK a0 ∧ (List.length a1 : Int) ≤ big := hp
  unfold W_R_Turns_Slot
  simp only [hide_eq, List.drop_zero]
  rw [condP_iff]
  refine ⟨fun h => ?_, fun h => ?_⟩
  · have h' : a2 < 0 ∨ a2 > 100 := by
      simp only [Bool.if_true_left, Bool.or_eq_true, decide_eq_true_eq] at h; exact h
    have he : slotErr a1 a2 = 1 := by unfold slotErr; exact if_neg (fun hx => by have x1 := hx.1; have x2 := hx.2.1; omega)
    unfold slotO slotT
    rw [he]
    exact ⟨rfl, rfl, rfl, trivial⟩
  · have h' : 0 ≤ a2 ∧ a2 ≤ 100 := by
      simp only [Bool.if_true_left, Bool.or_eq_false_iff, decide_eq_true_eq, decide_eq_false_iff_not] at h; omega
    refine ⟨⟨hT, hb, by decide, by omega, h'.1, h'.2, fun h => by omega⟩, ?_⟩
    rw [show prevW a1 0 = 0 from rfl, condP_iff]
    refine ⟨fun hu => ?_, fun hu => ?_⟩
    · have he : slotErr a1 a2 = 0 := by unfold slotErr; rw [if_pos ⟨h'.1, h'.2, hu⟩]
      have hS : slotEnd a2.toNat (a0, tabU tab00 a1, List.replicate a2.toNat 0, 0) = slotS a0 a1 a2.toNat := rfl
      have hfew := users_few a1 0 hu
      rw [hS]
      unfold slotO slotT
      rw [he, if_pos rfl, if_pos rfl]
      refine ⟨by omega, h'.1, by omega, by omega, ⟨h'.1, h'.2, by decide, hu, IT_start hT hu _⟩, fun b => ?_⟩
      rw [condP_iff]
      exact ⟨fun _ => ⟨rfl, rfl, rfl, trivial⟩, fun _ => ⟨rfl, rfl, rfl, trivial⟩⟩
    · have he : slotErr a1 a2 = 1 := by unfold slotErr; rw [if_neg (by rw [hu]; simp)]
      unfold slotO slotT
      rw [he]
      exact ⟨rfl, rfl, rfl, trivial⟩
end Go.Spec
/- The law that the turns are fair. -/
namespace Go.Spec
open Go Go.Lift Go.Proofs
attribute [local irreducible] Go.Lift.awp Go.Lift.LoopOK Go.Lift.SumOK
theorem and63 (x : Int) : 0 ≤ bits .and .i64 x 63 ∧ bits .and .i64 x 63 ≤ 63 := by
  have h1 : ((BitVec.ofInt 64 x) &&& (BitVec.ofInt 64 63)).toNat ≤ 63 := by
    rw [BitVec.toNat_and]
    have : (BitVec.ofInt 64 63).toNat = 63 := by decide
    rw [this]; exact Nat.and_le_right
  have h2 : bits .and .i64 x 63 = IntKind.i64.wrap (((BitVec.ofInt 64 x) &&& (BitVec.ofInt 64 63)).toNat : Int) := rfl
  rw [h2, i64w (by omega)]
  omega
theorem l_keep_TurnsFair_8 : LoopOK E_keep_TurnsFair 8 (loopAt (bodyOf Try.f6) 8) L_keep_TurnsFair_8 := I_keep_TurnsFair_8 <| by
  intro t0 t1 t2 t10 t13 t18 t19 r0 r1 r2 K hp ho
  obtain ⟨a1, a2, b1, b2, hG⟩ := hp
  have hn := hG.nl
  have q1 := hG.q1
  have q2 := hG.q2
  have g0 := hG.g0
  have g1 := hG.g1
  unfold B_keep_TurnsFair_8
  unfold o_keep_TurnsFair_8 at ho ⊢
  rw [condP_iff]
  refine ⟨fun hlt => ?_, fun _ => ho⟩
  have hlt := of_decide_eq_true hlt
  refine ⟨by omega, by omega, by omega, by omega, ?_⟩
  have hpr := hG.pr t18.toNat t19.toNat (by omega) (by omega) (by omega) (by omega)
  rw [i64w (n := 2 * t0) (by omega), i64w (n := 2 * t0 + t10) (by omega), condP_iff]
  refine ⟨fun h => ?_, fun _ => ?_⟩
  · have := of_decide_eq_true h; omega
  · rw [i64w (n := t19 + 1) (by omega)]
    exact ⟨⟨a1, a2, by omega, by omega, hG⟩, by unfold m_keep_TurnsFair_8; omega, ho⟩
theorem l_keep_TurnsFair_6 : LoopOK E_keep_TurnsFair 6 (loopAt (bodyOf Try.f6) 6) L_keep_TurnsFair_6 := I_keep_TurnsFair_6 <| by
  intro t0 t1 t2 t10 t13 t18 r0 r1 r2 K hp ho
  obtain ⟨a1, a2, hG⟩ := hp
  have hn := hG.nl
  have q1 := hG.q1
  have q2 := hG.q2
  unfold B_keep_TurnsFair_6
  unfold o_keep_TurnsFair_6 at ho ⊢
  rw [condP_iff]
  refine ⟨fun hlt => ?_, fun _ => ho⟩
  have hlt := of_decide_eq_true hlt
  have hcr := hG.cr t18.toNat (by omega) (by omega)
  refine ⟨trivial, fun _ => trivial, fun _ => rfl, ?_⟩
  rw [condP_iff]
  refine ⟨fun h => ?_, fun _ => ?_⟩
  · exfalso
    revert h
    rw [if_pos (show 1 ≤ t18 ∧ t18 ≤ 16 by omega), i64w (n := t0 + 10000) (by omega)]
    intro h
    simp only [Bool.if_true_left, Bool.or_eq_true, decide_eq_true_eq] at h
    omega
  · rw [i64w (n := t18 + 1) (by omega)]
    exact ⟨⟨a1, by omega, by decide, by omega, hG⟩, ⟨by omega, by omega, hG⟩, by unfold m_keep_TurnsFair_6; omega, ho⟩
theorem l_keep_TurnsFair_4 : LoopOK E_keep_TurnsFair 4 (loopAt (bodyOf Try.f6) 4) L_keep_TurnsFair_4 := I_keep_TurnsFair_4 <| by
  intro t0 t1 t2 t10 t13 t14 t17 r0 r1 r2 r3 K hp ho
  obtain ⟨a1, a2, a3, a4, n1, n2, rl, z1, z2⟩ := hp
  unfold B_keep_TurnsFair_4
  unfold o_keep_TurnsFair_4 at ho ⊢
  rw [hide_eq] at ho ⊢
  rw [condP_iff]
  refine ⟨fun hlt => ?_, fun hge => ?_⟩
  · have hlt := of_decide_eq_true hlt
    have hm : r3.getD t17.toNat 0 ∈ r3 := by
      rw [List.getD_eq_getElem?_getD, List.getElem?_eq_getElem (by omega : t17.toNat < r3.length)]; exact List.getElem_mem _
    have hd := drop_cons r3 t17.toNat 0 (by omega)
    have e : (t17 + 1).toNat = t17.toNat + 1 := by omega
    rw [i64w (n := t17 + 1) (by omega)]
    rw [condP_iff]
    refine ⟨fun h0 => ?_, fun h0 => ?_⟩
    · have h0 : r1.length = 0 := by have := beq_iff_eq.1 h0; omega
      refine ⟨a1, by omega, ?_⟩
      rw [condP_iff]
      refine ⟨fun h => ?_, fun _ => ?_⟩
      · rw [z1 h0 _ hm] at h; cases h
      · refine ⟨⟨by omega, by omega, a3, a4, n1, n2, rl, z1, z2⟩, by unfold m_keep_TurnsFair_4; omega, ?_⟩
        unfold sumE at ho ⊢
        rw [if_pos h0] at ho ⊢
        exact ho
    · have h0 : ¬ r1.length = 0 := by have := beq_eq_false_iff_ne.1 h0; omega
      obtain ⟨x1, x2⟩ := z2 h0 _ hm
      refine ⟨a1, by omega, fun _ => a1, fun _ => by omega, ?_⟩
      rw [condP_iff]
      refine ⟨fun h => ?_, fun _ => ?_⟩
      · exfalso
        simp only [Bool.if_true_left, Bool.or_eq_true, decide_eq_true_eq] at h
        omega
      · have hw : IntKind.wrap IntKind.i64 (r3.getD t17.toNat 0 - 1) = r3.getD t17.toNat 0 - 1 := i64w (by omega)
        refine ⟨a1, by omega, by omega, by omega, a1, by omega, by omega, by omega, by omega, by omega, ⟨by omega, by omega, a3, a4, n1, n2, by rw [List.length_set]; exact rl, z1, z2⟩, by unfold m_keep_TurnsFair_4; omega, ?_⟩
        unfold sumE at ho ⊢
        rw [if_neg h0, hd, addG] at ho
        rw [if_neg h0, e]
        exact ho
  · have hge := of_decide_eq_false hge
    unfold sumE at ho
    rw [List.drop_eq_nil_of_le (by omega), addG, ite_self] at ho
    exact ho
theorem l_keep_TurnsFair_0 : LoopOK E_keep_TurnsFair 0 (loopAt (bodyOf Try.f6) 0) L_keep_TurnsFair_0 := I_keep_TurnsFair_0 <| by
  intro t0 t1 t2 t10 t11 r0 r1 K hp ho
  obtain ⟨q1, q2, ⟨n1, n2⟩, a1, a2, a3, rl⟩ := hp
  unfold B_keep_TurnsFair_0
  unfold o_keep_TurnsFair_0 at ho ⊢
  simp only [hide_eq] at ho ⊢
  unfold fitsB greatE usersE at ho ⊢
  have htl : (t1.take 16).length = min 16 t1.length := List.length_take
  rw [condP_iff]
  refine ⟨fun hlt => ?_, fun hge => ?_⟩
  · have hlt : t11 < t1.length ∧ t11 < 16 := by simpa using hlt
    have hd := drop_cons (t1.take 16) t11.toNat 0 (by omega)
    have hg : (t1.take 16).getD t11.toNat 0 = t1.getD t11.toNat 0 := by
      rw [List.getD_eq_getElem?_getD, List.getD_eq_getElem?_getD, List.getElem?_take_of_lt (by omega)]
    have e : (t11 + 1).toNat = t11.toNat + 1 := by omega
    rw [hg] at hd
    rw [i64w (n := t11 + 1) (by omega)]
    rw [hd, List.all_cons, greatF, usersF] at ho
    refine ⟨a1, hlt.1, fun _ => a1, fun _ => hlt.1, ?_⟩
    have hub : (if decide (t1.getD t11.toNat 0 < 1) = true then true else decide (t1.getD t11.toNat 0 > 10000)) = !fitB (t1.getD t11.toNat 0) := by
      rw [Bool.eq_iff_iff]
      unfold fitB
      simp only [Bool.if_true_left, Bool.or_eq_true, decide_eq_true_eq, Bool.not_eq_true', Bool.and_eq_false_iff, decide_eq_false_iff_not]
      omega
    rw [hub, condP_iff]
    rw [condP_iff] at ho
    refine ⟨fun hx => ?_, fun hx => ?_⟩
    · have hu : fitB (t1.getD t11.toNat 0) = false := by simpa using hx
      rw [hu] at ho
      exact ho.2 rfl t10 r1
    · have hu : fitB (t1.getD t11.toNat 0) = true := by simpa using hx
      rw [hu, Bool.true_and] at ho
      refine ⟨a1, hlt.1, a1, hlt.1, ?_, ⟨q1, q2, ⟨n1, n2⟩, by omega, by omega, by omega, ?_⟩, by unfold m_keep_TurnsFair_0; omega, ?_⟩
      · simp only [List.length_cons, List.length_nil]; omega
      · rw [List.append_eq, List.length_append]; simp only [List.length_cons, List.length_nil]; omega
      · rw [e, condP_iff, List.append_eq, List.append_assoc]
        exact ho
  · have hge : ¬ (t11 < t1.length ∧ t11 < 16) := by
      intro h
      rw [if_pos (decide_eq_true h.1)] at hge
      exact of_decide_eq_false hge h.2
    rw [List.drop_eq_nil_of_le (by omega)] at ho
    have := ho.t rfl
    rw [greatF, usersF, List.append_nil] at this
    exact this
theorem TF.toTG {t0 : Int} {t1 t2 : List Int} {t10 : Int} {t : TT} {r1 : List UU} {r2 : List Int} (h : TF t0 t1 t2 t10 t r1 r2) : TG t0 t10 t r1 r2 := by
  have htl : (t1.take 16).length = min 16 t1.length := List.length_take
  have hrl : r1.length = (t1.take 16).length := by rw [h.us, usersF_length]
  obtain ⟨G, R, hF, hr⟩ := h.fi
  have q1 := h.q1
  have q2 := h.q2
  have g1 := h.g1
  have g0 := h.g0
  refine ⟨h.q1, h.q2, h.g0, h.g1, by omega, h.rl, fun a a1 a2 => ?_, fun a b a1 a2 b1 b2 => ?_⟩
  · exact fair_credit h.fs h.q1 hF a a1 (by omega)
  · have p1 := fair_pair h.q1 hF h.gr h.g0 a b a1 (by omega) b1 (by omega)
    have p2 := fair_pair h.q1 hF h.gr h.g0 b a b1 (by omega) a1 (by omega)
    rw [hr a a1 (by omega), hr b b1 (by omega), w_sub, i64w (by omega)]
    omega
theorem slotS_none (t : TT) (blocks : Nat) : slotS t [] blocks = (t, tab00, List.replicate blocks 0, 0) := by
  unfold slotS
  rw [tabU, slotEnd_end]
  unfold goes
  rw [show wcnt tab00 = 0 by decide]
  simp
theorem TF.next {t0 : Int} {t1 t2 : List Int} {t10 : Int} {t : TT} {r1 : List UU} {r2 : List Int} (h : TF t0 t1 t2 t10 t r1 r2) (nb : Int) (b0 : 0 ≤ nb) (b1 : nb ≤ 63) :
    slotErr r1 nb = 0 ∧ ((slotO t r1 nb).length : Int) = nb ∧ (r1.length = 0 → ∀ x ∈ slotO t r1 nb, x = 0) ∧ (r1.length ≠ 0 → ∀ x ∈ slotO t r1 nb, 1 ≤ x ∧ x ≤ r1.length) ∧ TF t0 t1 t2 t10 (slotT t r1 nb) r1 (sumE t1 r1 r2 (slotO t r1 nb) 0) := by
  have htl : (t1.take 16).length = min 16 t1.length := List.length_take
  have hrl : r1.length = (t1.take 16).length := by rw [h.us, usersF_length]
  have hus : usersOK 0 r1 = true := by rw [h.us]; exact usersF_ok _ 0 (by decide) (by omega) h.fs
  have he : slotErr r1 nb = 0 := by unfold slotErr; rw [if_pos ⟨b0, by omega, hus⟩]
  have hlen := slotO_length h.ok r1 nb he
  have hok := slotT_ok h.ok r1 nb
  have hO : slotO t r1 nb = (slotS t r1 nb.toNat).2.2.1 := by unfold slotO; rw [if_pos he]
  have hT : slotT t r1 nb = (slotS t r1 nb.toNat).1 := by unfold slotT; rw [if_pos he]
  obtain ⟨G, R, hF, hr⟩ := h.fi
  by_cases hn : r1.length = 0
  · have hr0 : r1 = [] := List.length_eq_zero_iff.1 hn
    have hS : slotS t r1 nb.toNat = (t, tab00, List.replicate nb.toNat 0, 0) := by rw [hr0]; exact slotS_none t _
    have hTt : slotT t r1 nb = t := by rw [hT, hS]
    have hsum : ∀ l, sumE t1 r1 r2 l 0 = r2 := fun l => by unfold sumE; rw [if_pos hn]
    refine ⟨he, hlen, fun _ x hx => ?_, fun h => (h hn).elim, ?_⟩
    · rw [hO, hS] at hx
      exact (List.mem_replicate.1 hx).2
    · rw [hTt, hsum]; exact h
  · have hus2 := h.us
    obtain ⟨R', f1, f2⟩ := slot_fair (blocks := nb.toNat) (by omega) h.q1 (by omega) (by omega) h.fs h.ok hF
    rw [← hus2] at f1 f2
    rw [← hO] at f1 f2
    rw [← hT] at f1
    refine ⟨he, hlen, fun h => (hn h).elim, fun _ x hx => by rw [hrl]; exact f2 x hx, ?_⟩
    have hsum : sumE t1 r1 r2 (slotO t r1 nb) 0 = addG t1 r2 (slotO t r1 nb) := by unfold sumE; rw [if_neg hn]; rfl
    rw [hsum]
    refine ⟨h.q1, h.q2, h.ln, h.fs, h.us, h.g0, h.g1, h.gr, hok, by rw [addG_length]; exact h.rl, _, R', f1, ?_⟩
    refine addG_ok t1 (t1.take 16) (fun i i1 i2 => ?_) (by omega) _ r2 G h.rl f2 hr
    rw [List.getD_eq_getElem?_getD, List.getD_eq_getElem?_getD, List.getElem?_take_of_lt (by omega)]
theorem l_keep_TurnsFair_2 : LoopOK E_keep_TurnsFair 2 (loopAt (bodyOf Try.f6) 2) L_keep_TurnsFair_2 := I_keep_TurnsFair_2 <| by
  intro t0 t1 t2 t10 t13 r0 r1 r2 K hp ho
  obtain ⟨i1, i2, t, rfl, hT⟩ := hp
  have htl : (t1.take 16).length = min 16 t1.length := List.length_take
  have hrl : r1.length = (t1.take 16).length := by rw [hT.us, usersF_length]
  unfold B_keep_TurnsFair_2
  unfold o_keep_TurnsFair_2 at ho ⊢
  rw [condP_iff]
  refine ⟨fun hlt => ?_, fun _ => ho⟩
  have hlt := of_decide_eq_true hlt
  obtain ⟨b0, b1⟩ := and63 (t2.getD t13.toNat 0)
  have hg : Option.getD (some t) ((0 : Int), (0 : Int), false, List.replicate (17 : Nat) (0 : Int), ()) = t := rfl
  simp only [hide_eq, hg]
  have hln := hT.ln.2
  rw [i64w (n := t13 + 1) (by unfold big at *; omega)]
  refine ⟨i1, hlt, rfl, ⟨hT.ok, by unfold big; omega⟩, ?_⟩
  obtain ⟨he, hlen, z1, z2, hN⟩ := hT.next _ b0 b1
  have hG := hN.toTG
  generalize bits BinOp.and IntKind.i64 (t2.getD t13.toNat 0) 63 = nb at *
  rw [he, hlen, condP_iff]
  refine ⟨fun h => ?_, fun _ => ?_⟩
  · simp at h
  · exact ⟨⟨by decide, b0, b1, hlen.symm, by omega, by omega, hT.rl, z1, z2⟩, ⟨by decide, by omega, hG⟩, ⟨by omega, by omega, _, rfl, hN⟩, by unfold m_keep_TurnsFair_2; omega, ho⟩
theorem greatF_le : ∀ (l : List Int) (g : Int), g ≤ greatF g l
  | [], g => Int.le_refl _
  | f :: fs, g => by
    have := greatF_le fs (lesser true g f)
    have h2 : g ≤ lesser true g f := by rw [lesser_t]; split <;> omega
    rw [greatF]; omega
theorem greatF_bd : ∀ (l : List Int) (g : Int), g ≤ 10000 → l.all fitB = true → greatF g l ≤ 10000 ∧ ∀ x ∈ l, x ≤ greatF g l
  | [], g, h, _ => ⟨h, fun _ h => (by cases h)⟩
  | f :: fs, g, h, hl => by
    rw [List.all_cons, Bool.and_eq_true] at hl
    obtain ⟨f1, f2⟩ := fitB_ok hl.1
    have hg : lesser true g f ≤ 10000 ∧ f ≤ lesser true g f := by rw [lesser_t]; split <;> omega
    obtain ⟨h1, h2⟩ := greatF_bd fs (lesser true g f) hg.1 hl.2
    have h3 := greatF_le fs (lesser true g f)
    rw [greatF]
    refine ⟨h1, fun x hx => ?_⟩
    rcases List.mem_cons.1 hx with rfl | hx
    · omega
    · exact h2 x hx
theorem ok_keep_TurnsFair : SumOK Try.prog 6 S_keep_TurnsFair := by
  refine whole_keep_TurnsFair ok_turns_New ok_turns_Turns_Slot ok_turns_Turns_Credit l_keep_TurnsFair_0 l_keep_TurnsFair_2 l_keep_TurnsFair_4 l_keep_TurnsFair_6 l_keep_TurnsFair_8 ?_
  intro a0 a1 a2 hp
  have htl : (a1.take 16).length = min 16 a1.length := List.length_take
  unfold W_keep_TurnsFair
  refine ⟨trivial, ?_⟩
  by_cases h' : 1 ≤ a0 ∧ a0 ≤ 10000
  · rw [if_pos h', if_pos h', condP_iff]
    refine ⟨fun h => (by cases h), fun _ => ⟨⟨h'.1, h'.2, hp, by decide, by decide, by omega, rfl⟩, ?_⟩⟩
    simp only [hide_eq]
    rw [condP_iff]
    refine ⟨fun hf => ?_, fun _ _ _ => ⟨trivial, trivial⟩⟩
    have hf : (a1.take 16).all fitB = true := hf
    obtain ⟨g1, g2⟩ := greatF_bd (a1.take 16) 0 (by decide) hf
    have g0 := greatF_le (a1.take 16) 0
    refine ⟨⟨by decide, by omega, _, rfl, h'.1, h'.2, hp, hf, rfl, g0, g1, fun i i1 i2 => ?_, newT_ok h'.1 h'.2, rfl, _, _, newT_fair _ hf (by omega), fun i i1 i2 => ?_⟩, trivial, trivial⟩
    · refine g2 _ ?_
      rw [List.getD_eq_getElem?_getD, List.getElem?_eq_getElem (by omega : i - 1 < (a1.take 16).length)]; exact List.getElem_mem _
    · rw [List.getD_eq_getElem?_getD, List.getElem?_replicate]
      split <;> rfl
  · rw [if_neg h', if_neg h', condP_iff]
    exact ⟨fun _ => ⟨rfl, trivial⟩, fun h => (by cases h)⟩
theorem pre_keep_TurnsFair (x : dens S_keep_TurnsFair.par) (h : wfs S_keep_TurnsFair.par x) : S_keep_TurnsFair.pre x := by
  obtain ⟨a0, a1, a2, ⟨⟩⟩ := x
  obtain ⟨_, ⟨h1, _⟩, ⟨h2, _⟩, _⟩ := h
  have h1 : (List.length a1 : Int) ≤ 140737488351232 := h1
  have h2 : (List.length a2 : Int) ≤ 140737488351232 := h2
  exact ⟨by show (List.length a1 : Int) ≤ big; unfold big; omega, by show (List.length a2 : Int) ≤ big; unfold big; omega⟩
end Go.Spec
