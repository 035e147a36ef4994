/- Lines for the functions of this seat; merged from texts of their own. -/
import Derived.Test.YtefajmghpgiekaaE1
import Derived.Test.YtefajmghpgiekaaLF
set_option linter.unusedVariables false
set_option linter.unusedSimpArgs false
/- Plain facts: whose turn it is. -/
namespace Go.Spec
open Go Go.Lift
/-- What the kernel is not to open. -/
noncomputable def hide {α : Sort _} (x : α) : α := (Classical.choice (⟨⟨x, rfl⟩⟩ : Nonempty {y : α // y = x})).1
theorem hide_eq {α : Sort _} (x : α) : hide x = x := (Classical.choice (⟨⟨x, rfl⟩⟩ : Nonempty {y : α // y = x})).2
abbrev TT := Int × Int × Bool × List Int × Unit
abbrev UU := Int × Int × Int × Unit
abbrev SS := TT × List UU × List Int × Nat
def u0 : UU := (0, 0, 0, ())
def give (blocks : Nat) (w f : Int) : Nat → Nat → Int → Int → List Int → Nat × Int × Int × List Int
  | 0, at', b, c, out => (at', b, c, out)
  | n + 1, at', b, c, out => if at' < blocks ∧ b > 0 ∧ c ≥ f then give blocks w f n (at' + 1) (lesser true (b - f) 0) (c - f) (out.set at' w) else (at', b, c, out)
def giveW (blocks : Nat) (w f : Int) (at' : Nat) (b c : Int) (out : List Int) : Nat × Int × Int × List Int := give blocks w f (blocks - at') at' b c out
theorem giveW_go {blocks : Nat} {w f : Int} {a : Nat} {b c : Int} {out : List Int} (h : a < blocks ∧ b > 0 ∧ c ≥ f) : giveW blocks w f a b c out = giveW blocks w f (a + 1) (lesser true (b - f) 0) (c - f) (out.set a w) := by
  unfold giveW
  rw [show blocks - a = (blocks - (a + 1)) + 1 by omega, give, if_pos h]
theorem giveW_end {blocks : Nat} {w f : Int} {a : Nat} {b c : Int} {out : List Int} (h : ¬ (a < blocks ∧ b > 0 ∧ c ≥ f)) : giveW blocks w f a b c out = (a, b, c, out) := by
  unfold giveW
  cases hn : blocks - a with
  | zero => rfl
  | succ n => rw [give, if_neg h]
theorem lesser_t (a b : Int) : lesser true a b = if b > a then b else a := rfl
theorem give_facts (blocks : Nat) (w f : Int) (hf : 1 ≤ f) : ∀ (n a : Nat) (b c : Int) (out : List Int), 0 ≤ b → 0 ≤ c → a ≤ blocks → n = blocks - a →
    a ≤ (give blocks w f n a b c out).1 ∧ (give blocks w f n a b c out).1 ≤ blocks ∧ 0 ≤ (give blocks w f n a b c out).2.1 ∧ (give blocks w f n a b c out).2.1 ≤ b ∧
    0 ≤ (give blocks w f n a b c out).2.2.1 ∧ (give blocks w f n a b c out).2.2.1 ≤ c ∧ (give blocks w f n a b c out).2.2.2.length = out.length ∧
    ((give blocks w f n a b c out).1 = blocks ∨ (give blocks w f n a b c out).2.1 = 0 ∨ (give blocks w f n a b c out).2.2.1 < f) ∧
    ((give blocks w f n a b c out).1 = a → give blocks w f n a b c out = (a, b, c, out))
  | 0, a, b, c, out, hb, hc, ha, hn => by
    simp only [give]
    exact ⟨Nat.le_refl _, ha, hb, Int.le_refl _, hc, Int.le_refl _, trivial, .inl (by omega), fun _ => trivial⟩
  | n + 1, a, b, c, out, hb, hc, ha, hn => by
    rw [give]
    by_cases h : a < blocks ∧ b > 0 ∧ c ≥ f
    · rw [if_pos h]
      have hl : 0 ≤ lesser true (b - f) 0 ∧ lesser true (b - f) 0 ≤ b := by rw [lesser_t]; split <;> omega
      obtain ⟨i1, i2, i3, i4, i5, i6, i7, i8, _⟩ := give_facts blocks w f hf n (a + 1) (lesser true (b - f) 0) (c - f) (out.set a w) hl.1 (by omega) (by omega) (by omega)
      rw [List.length_set] at i7
      exact ⟨by omega, i2, i3, by omega, i5, by omega, i7, i8, fun h => by omega⟩
    · rw [if_neg h]
      refine ⟨Nat.le_refl _, ha, hb, Int.le_refl _, hc, Int.le_refl _, rfl, ?_, fun _ => rfl⟩
      show a = blocks ∨ b = 0 ∨ c < f
      omega
def wOf (t : TT) : Int := if t.2.2.1 = true then t.2.1 else t.2.1 % 16 + 1
def gOf (t : TT) : Int := if t.2.2.1 = true then 0 else t.1
def stepT (blocks : Nat) (s : SS) : SS :=
  let w := wOf s.1
  let u := s.2.1.getD w.toNat u0
  let cr := s.1.2.2.2.1
  if u.2.1 = 0 then ((s.1.1, w, false, cr.set w.toNat 0, ()), s.2.1, s.2.2.1, s.2.2.2)
  else
    let r := giveW blocks w u.2.2.1 s.2.2.2 u.2.1 (cr.getD w.toNat 0 + gOf s.1) s.2.2.1
    if r.2.1 = 0 then ((s.1.1, w, false, cr.set w.toNat 0, ()), s.2.1.set w.toNat (u.1, r.2.1, u.2.2.1, ()), r.2.2.2, r.1)
    else ((s.1.1, w, decide (r.2.2.1 ≥ u.2.2.1), cr.set w.toNat r.2.2.1, ()), s.2.1.set w.toNat (u.1, r.2.1, u.2.2.1, ()), r.2.2.2, r.1)
def waits (u : UU) : Bool := decide (u.2.1 > 0)
def wcnt (l : List UU) : Nat := l.countP waits
def goes (blocks : Nat) (s : SS) : Bool := decide (s.2.2.2 < blocks) && decide (0 < wcnt s.2.1)
structure tOK (t : TT) : Prop where
  q1 : 1 ≤ t.1
  q2 : t.1 ≤ 10000
  l1 : 0 ≤ t.2.1
  l2 : t.2.1 ≤ 16
  op : t.2.2.1 = true → 1 ≤ t.2.1
  len : t.2.2.2.1.length = 17
  cr : ∀ i : Nat, i < 17 → 0 ≤ t.2.2.2.1.getD i 0 ∧ t.2.2.2.1.getD i 0 ≤ 9999 + (if t.2.2.1 = true ∧ (i : Int) = t.2.1 then t.1 else 0)
structure IT (blocks : Nat) (s : SS) : Prop where
  t : tOK s.1
  nl : s.2.1.length = 17
  n0 : (s.2.1.getD 0 u0).2.1 = 0
  nb : ∀ i : Nat, i < 17 → 0 ≤ (s.2.1.getD i u0).2.1 ∧ (s.2.1.getD i u0).2.1 ≤ 1000000 ∧ ((s.2.1.getD i u0).2.1 > 0 → 1 ≤ (s.2.1.getD i u0).2.2.1 ∧ (s.2.1.getD i u0).2.2.1 ≤ 10000)
  ol : s.2.2.1.length = blocks
  al : s.2.2.2 ≤ blocks
theorem gset' {α : Type} {r : List α} {k q : Nat} {v d : α} (hk : k < r.length) : (r.set k v).getD q d = if k = q then v else r.getD q d := by
  rw [List.getD_eq_getElem?_getD, List.getElem?_set]
  by_cases h : k = q
  · subst h; rw [if_pos rfl, if_pos hk, if_pos rfl]; rfl
  · rw [if_neg h, if_neg h, List.getD_eq_getElem?_getD]
theorem wOf_bd {t : TT} (h : tOK t) : 1 ≤ wOf t ∧ wOf t ≤ 16 := by
  have h1 := h.l1
  have h2 := h.l2
  unfold wOf
  split
  · rename_i ho; exact ⟨h.op ho, h2⟩
  · omega
theorem gOf_bd {t : TT} (h : tOK t) : 0 ≤ gOf t ∧ gOf t ≤ 10000 := by
  have h1 := h.q1
  have h2 := h.q2
  unfold gOf
  split <;> omega
theorem start_cr {t : TT} (h : tOK t) : 0 ≤ t.2.2.2.1.getD (wOf t).toNat 0 + gOf t ∧ t.2.2.2.1.getD (wOf t).toNat 0 + gOf t ≤ 9999 + t.1 := by
  obtain ⟨w1, w2⟩ := wOf_bd h
  have hc := h.cr (wOf t).toNat (by omega)
  have h1 := h.q1
  unfold gOf
  by_cases ho : t.2.2.1 = true
  · have hw : wOf t = t.2.1 := by unfold wOf; rw [if_pos ho]
    rw [if_pos ho]
    rw [if_pos ⟨ho, by omega⟩] at hc
    omega
  · rw [if_neg ho]
    rw [if_neg (fun h => ho h.1)] at hc
    omega
theorem stepT_ok {blocks : Nat} {s : SS} (h : IT blocks s) (hg : goes blocks s = true) : IT blocks (stepT blocks s) := by
  obtain ⟨w1, w2⟩ := wOf_bd h.t
  obtain ⟨c1, c2⟩ := start_cr h.t
  have hw : (wOf s.1).toNat < 17 := by omega
  have hnb := h.nb _ hw
  have hlen := h.t.len
  have hnl := h.nl
  have q1 := h.t.q1
  have q2 := h.t.q2
  unfold stepT
  simp only
  by_cases hz : (s.2.1.getD (wOf s.1).toNat u0).2.1 = 0
  · rw [if_pos hz]
    refine ⟨⟨q1, q2, by simp only; omega, by simp only; omega, fun h => (by cases h), by simp only [List.length_set]; exact hlen, fun i hi => ?_⟩, hnl, h.n0, h.nb, h.ol, h.al⟩
    simp only
    rw [gset' (by omega)]
    have hc := h.t.cr i hi
    simp only [Bool.false_eq_true, false_and, if_false]
    split
    · omega
    · -- an open one was visited
      rename_i hne
      rw [if_neg] at hc
      · omega
      · rintro ⟨ho, hq⟩
        have : wOf s.1 = s.1.2.1 := by unfold wOf; rw [if_pos ho]
        omega
  · rw [if_neg hz]
    have hpos : (s.2.1.getD (wOf s.1).toNat u0).2.1 > 0 := by omega
    obtain ⟨f1, f2⟩ := hnb.2.2 hpos
    obtain ⟨g1, g2, g3, g4, g5, g6, g7, g8, _⟩ := give_facts blocks (wOf s.1) _ f1 _ s.2.2.2 (s.2.1.getD (wOf s.1).toNat u0).2.1 _ s.2.2.1 hnb.1 c1 h.al rfl
    have hgw : ∀ a b c o, give blocks (wOf s.1) (s.2.1.getD (wOf s.1).toNat u0).2.2.1 (blocks - a) a b c o = giveW blocks (wOf s.1) (s.2.1.getD (wOf s.1).toNat u0).2.2.1 a b c o := fun _ _ _ _ => rfl
    rw [hgw] at g1 g2 g3 g4 g5 g6 g7 g8
    generalize giveW blocks (wOf s.1) (s.2.1.getD (wOf s.1).toNat u0).2.2.1 s.2.2.2 (s.2.1.getD (wOf s.1).toNat u0).2.1 (s.1.2.2.2.1.getD (wOf s.1).toNat 0 + gOf s.1) s.2.2.1 = r at *
    obtain ⟨ra, rb, rc, ro⟩ := r
    simp only at g1 g2 g3 g4 g5 g6 g7 g8 ⊢
    have hnow : ∀ i : Nat, i < 17 → 0 ≤ ((s.2.1.set (wOf s.1).toNat ((s.2.1.getD (wOf s.1).toNat u0).1, rb, (s.2.1.getD (wOf s.1).toNat u0).2.2.1, ())).getD i u0).2.1 ∧
        ((s.2.1.set (wOf s.1).toNat ((s.2.1.getD (wOf s.1).toNat u0).1, rb, (s.2.1.getD (wOf s.1).toNat u0).2.2.1, ())).getD i u0).2.1 ≤ 1000000 ∧
        (((s.2.1.set (wOf s.1).toNat ((s.2.1.getD (wOf s.1).toNat u0).1, rb, (s.2.1.getD (wOf s.1).toNat u0).2.2.1, ())).getD i u0).2.1 > 0 → 1 ≤ ((s.2.1.set (wOf s.1).toNat ((s.2.1.getD (wOf s.1).toNat u0).1, rb, (s.2.1.getD (wOf s.1).toNat u0).2.2.1, ())).getD i u0).2.2.1 ∧ ((s.2.1.set (wOf s.1).toNat ((s.2.1.getD (wOf s.1).toNat u0).1, rb, (s.2.1.getD (wOf s.1).toNat u0).2.2.1, ())).getD i u0).2.2.1 ≤ 10000) := by
      intro i hi
      rw [gset' (by omega)]
      split
      · exact ⟨g3, by simp only; omega, fun _ => ⟨f1, f2⟩⟩
      · exact h.nb i hi
    have hn0 : ((s.2.1.set (wOf s.1).toNat ((s.2.1.getD (wOf s.1).toNat u0).1, rb, (s.2.1.getD (wOf s.1).toNat u0).2.2.1, ())).getD 0 u0).2.1 = 0 := by
      rw [gset' (by omega), if_neg (by omega)]; exact h.n0
    by_cases hb0 : rb = 0
    · rw [if_pos hb0]
      refine ⟨⟨q1, q2, by simp only; omega, by simp only; omega, fun h => (by cases h), by simp only [List.length_set]; exact hlen, fun i hi => ?_⟩, by simp only [List.length_set]; exact hnl, hn0, hnow, by simp only; rw [g7]; exact h.ol, g2⟩
      simp only
      rw [gset' (by omega)]
      have hc := h.t.cr i hi
      simp only [Bool.false_eq_true, false_and, if_false]
      split
      · omega
      · rename_i hne
        rw [if_neg] at hc
        · omega
        · rintro ⟨ho, hq⟩
          have : wOf s.1 = s.1.2.1 := by unfold wOf; rw [if_pos ho]
          omega
    · rw [if_neg hb0]
      refine ⟨⟨q1, q2, by simp only; omega, by simp only; omega, fun _ => w1, by simp only [List.length_set]; exact hlen, fun i hi => ?_⟩, by simp only [List.length_set]; exact hnl, hn0, hnow, by simp only; rw [g7]; exact h.ol, g2⟩
      simp only
      rw [gset' (by omega)]
      have hc := h.t.cr i hi
      by_cases hq : (wOf s.1).toNat = i
      · rw [if_pos hq]
        by_cases ho : rc ≥ (s.2.1.getD (wOf s.1).toNat u0).2.2.1
        · rw [if_pos ⟨decide_eq_true ho, by omega⟩]; omega
        · rw [if_neg (fun h => ho (of_decide_eq_true h.1))]; omega
      · rw [if_neg hq, if_neg (by omega)]
        rw [if_neg] at hc
        · omega
        · rintro ⟨ho, hq2⟩
          have : wOf s.1 = s.1.2.1 := by unfold wOf; rw [if_pos ho]
          omega
/-! it ends -/
def cTerm (u : UU) (c : Int) : Nat := if u.2.1 > 0 then (20000 - c).toNat else 0
def sumC (now : List UU) (cr : List Int) : Nat := (List.zipWith cTerm now cr).sum
theorem sumC_set : ∀ (now : List UU) (cr : List Int) (i : Nat) (u : UU) (c : Int), i < now.length → i < cr.length → sumC (now.set i u) (cr.set i c) + cTerm (now.getD i u0) (cr.getD i 0) = sumC now cr + cTerm u c
  | [], _, _, _, _, h, _ => by simp at h
  | _ :: _, [], _, _, _, _, h => by simp at h
  | v :: now, d :: cr, 0, u, c, _, _ => by simp [sumC]; omega
  | v :: now, d :: cr, i + 1, u, c, h, h' => by
    have ih := sumC_set now cr i u c (by simpa using h) (by simpa using h')
    simp only [sumC, List.set_cons_succ, List.zipWith_cons_cons, List.sum_cons] at ih ⊢
    show _ + cTerm (now.getD i u0) (cr.getD i 0) = _
    omega
theorem sumC_le : ∀ (now : List UU) (cr : List Int), (∀ c ∈ cr, 0 ≤ c) → sumC now cr ≤ 20000 * cr.length
  | [], _, _ => by simp [sumC]
  | _ :: _, [], _ => by simp [sumC]
  | v :: now, d :: cr, h => by
    have ih := sumC_le now cr fun c hc => h c (List.mem_cons_of_mem _ hc)
    have hd := h d (by simp)
    have : cTerm v d ≤ 20000 := by unfold cTerm; split <;> omega
    simp only [sumC, List.zipWith_cons_cons, List.sum_cons, List.length_cons] at ih ⊢
    omega
def firstW (now : List UU) : Nat := now.findIdx waits
def dst (now : List UU) (last : Int) : Nat := (((firstW now : Int) - 1 - last) % 16).toNat
def meas (blocks : Nat) (s : SS) : Nat := (2 * (blocks - s.2.2.2) + (if s.1.2.2.1 = true then 1 else 0)) * 10000000 + 17 * sumC s.2.1 s.1.2.2.2.1 + dst s.2.1 s.1.2.1
theorem cr_nn {t : TT} (h : tOK t) : ∀ c ∈ t.2.2.2.1, 0 ≤ c := by
  intro c hc
  obtain ⟨i, hi, rfl⟩ := List.getElem_of_mem hc
  have := (h.cr i (by have := h.len; omega)).1
  rw [List.getD_eq_getElem?_getD, List.getElem?_eq_getElem hi] at this
  exact this
theorem phi_lt {blocks : Nat} {s : SS} (h : IT blocks s) : 17 * sumC s.2.1 s.1.2.2.2.1 + dst s.2.1 s.1.2.1 < 10000000 := by
  have h1 := sumC_le s.2.1 s.1.2.2.2.1 (cr_nn h.t)
  rw [h.t.len] at h1
  have h2 : dst s.2.1 s.1.2.1 < 16 := by unfold dst; omega
  omega
theorem firstW_ok {blocks : Nat} {s : SS} (h : IT blocks s) (hw : 0 < wcnt s.2.1) : 1 ≤ firstW s.2.1 ∧ firstW s.2.1 ≤ 16 ∧ (s.2.1.getD (firstW s.2.1) u0).2.1 > 0 := by
  have hex : ∃ u ∈ s.2.1, waits u = true := by
    unfold wcnt at hw
    exact List.countP_pos_iff.1 hw
  have hlt : firstW s.2.1 < s.2.1.length := List.findIdx_lt_length_of_exists hex
  have hp : waits s.2.1[firstW s.2.1] = true := List.findIdx_getElem (w := hlt)
  have hg : (s.2.1.getD (firstW s.2.1) u0).2.1 > 0 := by
    rw [List.getD_eq_getElem?_getD, List.getElem?_eq_getElem hlt]
    exact of_decide_eq_true hp
  have hnl := h.nl
  refine ⟨?_, by omega, hg⟩
  rcases Nat.eq_zero_or_pos (firstW s.2.1) with h0 | h0
  · rw [h0] at hg; have := h.n0; omega
  · exact h0
theorem stepT_less {blocks : Nat} {s : SS} (h : IT blocks s) (hg : goes blocks s = true) : meas blocks (stepT blocks s) < meas blocks s := by
  have hI := stepT_ok h hg
  have hphi := phi_lt hI
  have hphi0 := phi_lt h
  obtain ⟨hat, hwc⟩ : s.2.2.2 < blocks ∧ 0 < wcnt s.2.1 := by
    unfold goes at hg
    simpa using hg
  obtain ⟨e1, e2, e3⟩ := firstW_ok h hwc
  obtain ⟨w1, w2⟩ := wOf_bd h.t
  obtain ⟨c1, c2⟩ := start_cr h.t
  have hw : (wOf s.1).toNat < 17 := by omega
  have hnb := h.nb _ hw
  have hlen := h.t.len
  have hnl := h.nl
  have q1 := h.t.q1
  have l1 := h.t.l1
  have l2 := h.t.l2
  unfold meas at *
  revert hphi
  unfold stepT
  simp only
  by_cases hz : (s.2.1.getD (wOf s.1).toNat u0).2.1 = 0
  · rw [if_pos hz]
    simp only [Bool.false_eq_true, if_false]
    intro hphi
    by_cases ho : s.1.2.2.1 = true
    · rw [if_pos ho]; omega
    · rw [if_neg ho]
      have hsame : sumC s.2.1 (s.1.2.2.2.1.set (wOf s.1).toNat 0) = sumC s.2.1 s.1.2.2.2.1 := by
        have := sumC_set s.2.1 s.1.2.2.2.1 (wOf s.1).toNat (s.2.1.getD (wOf s.1).toNat u0) 0 (by omega) (by omega)
        have hss : s.2.1.set (wOf s.1).toNat (s.2.1.getD (wOf s.1).toNat u0) = s.2.1 := by
          apply List.ext_getElem?
          intro q
          rw [List.getElem?_set]
          by_cases hq : (wOf s.1).toNat = q
          · subst hq; rw [if_pos rfl, if_pos (by omega), List.getD_eq_getElem?_getD, List.getElem?_eq_getElem (by omega)]; rfl
          · rw [if_neg hq]
        rw [hss] at this
        unfold cTerm at this
        rw [if_neg (by omega), if_neg (by omega)] at this
        omega
      rw [hsame]
      have hww : wOf s.1 = s.1.2.1 % 16 + 1 := by unfold wOf; rw [if_neg ho]
      have hne : (firstW s.2.1 : Int) ≠ wOf s.1 := by
        intro e
        have : (wOf s.1).toNat = firstW s.2.1 := by omega
        rw [this] at hz; omega
      have hd : dst s.2.1 (wOf s.1) < dst s.2.1 s.1.2.1 := by
        unfold dst
        rw [hww] at hne ⊢
        omega
      omega
  · rw [if_neg hz]
    have hpos : (s.2.1.getD (wOf s.1).toNat u0).2.1 > 0 := by omega
    obtain ⟨f1, f2⟩ := hnb.2.2 hpos
    obtain ⟨g1, g2, g3, g4, g5, g6, g7, g8, g9⟩ := give_facts blocks (wOf s.1) _ f1 _ s.2.2.2 (s.2.1.getD (wOf s.1).toNat u0).2.1 _ s.2.2.1 hnb.1 c1 h.al rfl
    have hgw : ∀ a b c o, give blocks (wOf s.1) (s.2.1.getD (wOf s.1).toNat u0).2.2.1 (blocks - a) a b c o = giveW blocks (wOf s.1) (s.2.1.getD (wOf s.1).toNat u0).2.2.1 a b c o := fun _ _ _ _ => rfl
    rw [hgw] at g1 g2 g3 g4 g5 g6 g7 g8 g9
    have hsum := sumC_set s.2.1 s.1.2.2.2.1 (wOf s.1).toNat
    have hgo := fun ho : ¬ s.1.2.2.1 = true => (show gOf s.1 = s.1.1 by unfold gOf; rw [if_neg ho])
    have hcr := h.t.cr _ hw
    generalize giveW blocks (wOf s.1) (s.2.1.getD (wOf s.1).toNat u0).2.2.1 s.2.2.2 (s.2.1.getD (wOf s.1).toNat u0).2.1 (s.1.2.2.2.1.getD (wOf s.1).toNat 0 + gOf s.1) s.2.2.1 = r at *
    obtain ⟨ra, rb, rc, ro⟩ := r
    simp only at g1 g2 g3 g4 g5 g6 g7 g8 g9 ⊢
    by_cases hra : ra = s.2.2.2
    · -- nothing was given
      have h9 := g9 hra
      rw [Prod.mk.injEq, Prod.mk.injEq, Prod.mk.injEq] at h9
      obtain ⟨_, rfl, rfl, _⟩ := h9
      rw [if_neg (by omega)]
      simp only
      intro hphi
      have hcf : ¬ (s.1.2.2.2.1.getD (wOf s.1).toNat 0 + gOf s.1 ≥ (s.2.1.getD (wOf s.1).toNat u0).2.2.1) := by omega
      rw [hra, decide_eq_false hcf] at *
      simp only [Bool.false_eq_true, if_false] at *
      by_cases ho : s.1.2.2.1 = true
      · rw [if_pos ho]; omega
      · rw [if_neg ho]
        rw [if_neg (fun h => ho h.1)] at hcr
        have hs := hsum ((s.2.1.getD (wOf s.1).toNat u0).1, (s.2.1.getD (wOf s.1).toNat u0).2.1, (s.2.1.getD (wOf s.1).toNat u0).2.2.1, ()) (s.1.2.2.2.1.getD (wOf s.1).toNat 0 + gOf s.1) (by omega) (by omega)
        rw [hgo ho] at hs ⊢
        have t1 : cTerm (s.2.1.getD (wOf s.1).toNat u0) (s.1.2.2.2.1.getD (wOf s.1).toNat 0) = (20000 - s.1.2.2.2.1.getD (wOf s.1).toNat 0).toNat := by unfold cTerm; rw [if_pos hpos]
        have t2 : cTerm ((s.2.1.getD (wOf s.1).toNat u0).1, (s.2.1.getD (wOf s.1).toNat u0).2.1, (s.2.1.getD (wOf s.1).toNat u0).2.2.1, ()) (s.1.2.2.2.1.getD (wOf s.1).toNat 0 + s.1.1) = (20000 - (s.1.2.2.2.1.getD (wOf s.1).toNat 0 + s.1.1)).toNat := by unfold cTerm; rw [if_pos hpos]
        rw [t1, t2] at hs
        have hd : dst (s.2.1.set (wOf s.1).toNat ((s.2.1.getD (wOf s.1).toNat u0).1, (s.2.1.getD (wOf s.1).toNat u0).2.1, (s.2.1.getD (wOf s.1).toNat u0).2.2.1, ())) (wOf s.1) < 16 := by unfold dst; omega
        have q2 := h.t.q2
        omega
    · have hcomp : ∀ o : Bool, 2 * (blocks - ra) + (if o = true then 1 else 0) < 2 * (blocks - s.2.2.2) + (if s.1.2.2.1 = true then 1 else 0) := by
        intro o
        split <;> split <;> omega
      by_cases hb0 : rb = 0
      · rw [if_pos hb0]
        simp only
        intro hphi
        have := hcomp false
        omega
      · rw [if_neg hb0]
        simp only
        intro hphi
        have := hcomp (decide (rc ≥ (s.2.1.getD (wOf s.1).toNat u0).2.2.1))
        omega
def slotRun (blocks : Nat) : Nat → SS → SS
  | 0, s => s
  | f + 1, s => if goes blocks s = true then slotRun blocks f (stepT blocks s) else s
theorem slotRun_more {blocks : Nat} (f : Nat) : ∀ (g : Nat) (s : SS), IT blocks s → meas blocks s ≤ f → meas blocks s ≤ g → slotRun blocks f s = slotRun blocks g s := by
  induction f with
  | zero =>
    intro g s h hf hg
    cases g with
    | zero => rfl
    | succ g =>
      rw [slotRun, slotRun]
      by_cases hgo : goes blocks s = true
      · have := stepT_less h hgo
        omega
      · rw [if_neg hgo]
  | succ f ih =>
    intro g s h hf hg
    cases g with
    | zero =>
      rw [slotRun, slotRun]
      by_cases hgo : goes blocks s = true
      · have := stepT_less h hgo
        omega
      · rw [if_neg hgo]
    | succ g =>
      rw [slotRun, slotRun]
      by_cases hgo : goes blocks s = true
      · rw [if_pos hgo, if_pos hgo]
        have := stepT_less h hgo
        exact ih g _ (stepT_ok h hgo) (by omega) (by omega)
      · rw [if_neg hgo, if_neg hgo]
def slotEnd (blocks : Nat) (s : SS) : SS := slotRun blocks (meas blocks s) s
theorem slotEnd_step {blocks : Nat} {s : SS} (h : IT blocks s) (hg : goes blocks s = true) : slotEnd blocks s = slotEnd blocks (stepT blocks s) := by
  have hl := stepT_less h hg
  unfold slotEnd
  obtain ⟨n, hn⟩ : ∃ n, meas blocks s = n + 1 := ⟨meas blocks s - 1, by omega⟩
  rw [hn, slotRun, if_pos hg]
  exact slotRun_more _ _ _ (stepT_ok h hg) (by omega) (Nat.le_refl _)
theorem slotEnd_end {blocks : Nat} {s : SS} (hg : goes blocks s = false) : slotEnd blocks s = s := by
  unfold slotEnd
  cases meas blocks s with
  | zero => rfl
  | succ n => rw [slotRun, if_neg (by rw [hg]; decide)]
theorem slotRun_ok {blocks : Nat} (f : Nat) : ∀ s, IT blocks s → IT blocks (slotRun blocks f s) := by
  induction f with
  | zero => intro s h; exact h
  | succ f ih =>
    intro s h
    rw [slotRun]
    by_cases hgo : goes blocks s = true
    · rw [if_pos hgo]; exact ih _ (stepT_ok h hgo)
    · rw [if_neg hgo]; exact h
theorem slotEnd_ok {blocks : Nat} {s : SS} (h : IT blocks s) : IT blocks (slotEnd blocks s) := slotRun_ok _ _ h
/-! the users -/
def userB (p : Int) (u : UU) : Bool := decide (p < u.1) && decide (u.1 ≤ 16) && decide (0 ≤ u.2.1) && decide (u.2.1 ≤ 1000000) && decide (1 ≤ u.2.2.1) && decide (u.2.2.1 ≤ 10000)
def usersOK : Int → List UU → Bool
  | _, [] => true
  | p, u :: us => userB p u && usersOK u.1 us
def tabU : List UU → List UU → List UU
  | n, [] => n
  | n, u :: us => tabU (n.set u.1.toNat u) us
def tab00 : List UU := List.replicate 17 u0
def slotErr (users : List UU) (blocks : Int) : Int := if 0 ≤ blocks ∧ blocks ≤ 100 ∧ usersOK 0 users = true then 0 else 1
def slotS (t : TT) (users : List UU) (blocks : Nat) : SS := slotEnd blocks (t, tabU tab00 users, List.replicate blocks 0, 0)
def slotO (t : TT) (users : List UU) (blocks : Int) : List Int := if slotErr users blocks = 0 then (slotS t users blocks.toNat).2.2.1 else []
def slotT (t : TT) (users : List UU) (blocks : Int) : TT := if slotErr users blocks = 0 then (slotS t users blocks.toNat).1 else t
theorem userB_ok {p : Int} {u : UU} (h : userB p u = true) : p < u.1 ∧ u.1 ≤ 16 ∧ 0 ≤ u.2.1 ∧ u.2.1 ≤ 1000000 ∧ 1 ≤ u.2.2.1 ∧ u.2.2.1 ≤ 10000 := by
  unfold userB at h
  simpa [and_assoc] using h
theorem usersOK_cons {p : Int} {u : UU} {us : List UU} : usersOK p (u :: us) = true ↔ userB p u = true ∧ usersOK u.1 us = true := by
  simp [usersOK]
theorem tabU_length : ∀ (us n : List UU), (tabU n us).length = n.length
  | [], _ => rfl
  | u :: us, n => by rw [tabU, tabU_length us, List.length_set]
/-- what a place of the table is: of the last user with that number, or as it was -/
theorem tabU_low : ∀ (us n : List UU) (p : Int) (i : Nat), usersOK p us = true → 0 ≤ p → (i : Int) ≤ p → (tabU n us).getD i u0 = n.getD i u0
  | [], _, _, _, _, _, _ => rfl
  | u :: us, n, p, i, h, hp, hi => by
    obtain ⟨h1, h2⟩ := usersOK_cons.1 h
    have hu := userB_ok h1
    rw [tabU, tabU_low us _ u.1 i h2 (by omega) (by omega)]
    rw [List.getD_eq_getElem?_getD, List.getElem?_set_ne (by omega), ← List.getD_eq_getElem?_getD]
theorem tabU_nb : ∀ (us n : List UU) (p : Int), usersOK p us = true → 0 ≤ p → n.length = 17 →
    (∀ i : Nat, i < 17 → 0 ≤ (n.getD i u0).2.1 ∧ (n.getD i u0).2.1 ≤ 1000000 ∧ ((n.getD i u0).2.1 > 0 → 1 ≤ (n.getD i u0).2.2.1 ∧ (n.getD i u0).2.2.1 ≤ 10000)) →
    ∀ i : Nat, i < 17 → 0 ≤ ((tabU n us).getD i u0).2.1 ∧ ((tabU n us).getD i u0).2.1 ≤ 1000000 ∧ (((tabU n us).getD i u0).2.1 > 0 → 1 ≤ ((tabU n us).getD i u0).2.2.1 ∧ ((tabU n us).getD i u0).2.2.1 ≤ 10000)
  | [], _, _, _, _, _, h => h
  | u :: us, n, p, h, hp, hl, hn => by
    obtain ⟨h1, h2⟩ := usersOK_cons.1 h
    have hu := userB_ok h1
    rw [tabU]
    refine tabU_nb us _ u.1 h2 (by omega) (by rw [List.length_set]; exact hl) fun i hi => ?_
    rw [gset' (by omega)]
    split
    · exact ⟨hu.2.2.1, hu.2.2.2.1, fun _ => ⟨hu.2.2.2.2.1, hu.2.2.2.2.2⟩⟩
    · exact hn i hi
theorem tab00_getD (i : Nat) : tab00.getD i u0 = u0 := by
  unfold tab00
  rw [List.getD_eq_getElem?_getD, List.getElem?_replicate]; split <;> rfl
theorem IT_start {t : TT} (ht : tOK t) {users : List UU} (hu : usersOK 0 users = true) (blocks : Nat) : IT blocks (t, tabU tab00 users, List.replicate blocks 0, 0) := by
  refine ⟨ht, by rw [tabU_length]; rfl, ?_, ?_, by simp, Nat.zero_le _⟩
  · show ((tabU tab00 users).getD 0 u0).2.1 = 0
    rw [tabU_low users tab00 0 0 hu (by decide) (by decide), tab00_getD]; rfl
  · exact tabU_nb users tab00 0 hu (by decide) rfl fun i hi => by rw [tab00_getD]; simp [u0]
theorem slotT_ok {t : TT} (ht : tOK t) (users : List UU) (blocks : Int) : tOK (slotT t users blocks) := by
  unfold slotT
  by_cases h : slotErr users blocks = 0
  · rw [if_pos h]
    unfold slotErr at h
    split at h
    · rename_i hc
      exact (slotEnd_ok (IT_start ht hc.2.2 _)).t
    · cases h
  · rw [if_neg h]; exact ht
theorem slotO_length {t : TT} (ht : tOK t) (users : List UU) (blocks : Int) (h : slotErr users blocks = 0) : ((slotO t users blocks).length : Int) = blocks := by
  unfold slotO
  rw [if_pos h]
  unfold slotErr at h
  split at h
  · rename_i hc
    have := (slotEnd_ok (IT_start ht hc.2.2 blocks.toNat)).ol
    unfold slotS
    omega
  · cases h
def newT (q : Int) : TT := (q, 0, false, List.replicate 17 0, ())
theorem newT_ok {q : Int} (h1 : 1 ≤ q) (h2 : q ≤ 10000) : tOK (newT q) := by
  refine ⟨h1, h2, by show (0 : Int) ≤ 0; decide, by show (0 : Int) ≤ 16; decide, fun h => (by cases h), rfl, fun i hi => ?_⟩
  have : (List.replicate 17 (0 : Int)).getD i 0 = 0 := by
    rw [List.getD_eq_getElem?_getD, List.getElem?_replicate]; split <;> rfl
  show 0 ≤ (List.replicate 17 (0 : Int)).getD i 0 ∧ (List.replicate 17 (0 : Int)).getD i 0 ≤ 9999 + (if false = true ∧ (i : Int) = 0 then q else 0)
  rw [this]; simp
/-- a visit: what is given, to whom the turn has come -/
def vis (t2 t14 : Int) (r0 : TT) (r1 : List UU) (r2 : List Int) : SS :=
  let w := r0.2.1.toNat
  let u := r1.getD w u0
  let r := giveW t2.toNat r0.2.1 u.2.2.1 t14.toNat u.2.1 (r0.2.2.2.1.getD w 0) r2
  ((r0.1, r0.2.1, r0.2.2.1, r0.2.2.2.1.set w r.2.2.1, ()), r1.set w (u.1, r.2.1, u.2.2.1, ()), r.2.2.2, r.1)
noncomputable def vT (t2 t14 : Int) (r0 : TT) (r1 : List UU) (r2 : List Int) : TT := hide (vis t2 t14 r0 r1 r2).1
noncomputable def vU (t2 t14 : Int) (r0 : TT) (r1 : List UU) (r2 : List Int) : List UU := hide (vis t2 t14 r0 r1 r2).2.1
noncomputable def vO (t2 t14 : Int) (r0 : TT) (r1 : List UU) (r2 : List Int) : List Int := hide (vis t2 t14 r0 r1 r2).2.2.1
noncomputable def vA (t2 t14 : Int) (r0 : TT) (r1 : List UU) (r2 : List Int) : Int := hide ((vis t2 t14 r0 r1 r2).2.2.2 : Int)
/-! as the document has it -/
def prevW (l : List UU) (i : Int) : Int := if i = 0 then 0 else (l.getD (i - 1).toNat u0).1
def idxW (w : Int) : List UU → Int → Int → Int
  | [], _, acc => acc
  | u :: us, i, acc => idxW w us (i + 1) (if u.1 = w ∧ u.2.1 > 0 then i else acc)
def vis2 (t2 t12 t16 : Int) (r0 : TT) (r1 : List UU) (r2 : List Int) : SS :=
  let w := r0.2.1.toNat
  let u := r1.getD t16.toNat u0
  let r := giveW t2.toNat r0.2.1 u.2.2.1 t12.toNat u.2.1 (r0.2.2.2.1.getD w 0) r2
  ((r0.1, r0.2.1, r0.2.2.1 || (decide (r.2.1 > 0) && decide (r.2.2.1 ≥ u.2.2.1)), r0.2.2.2.1.set w r.2.2.1, ()), r1.set t16.toNat (u.1, r.2.1, u.2.2.1, ()), r.2.2.2, r.1)
noncomputable def wT (t2 t12 t16 : Int) (r0 : TT) (r1 : List UU) (r2 : List Int) : TT := hide (vis2 t2 t12 t16 r0 r1 r2).1
noncomputable def wU (t2 t12 t16 : Int) (r0 : TT) (r1 : List UU) (r2 : List Int) : List UU := hide (vis2 t2 t12 t16 r0 r1 r2).2.1
noncomputable def wO (t2 t12 t16 : Int) (r0 : TT) (r1 : List UU) (r2 : List Int) : List Int := hide (vis2 t2 t12 t16 r0 r1 r2).2.2.1
noncomputable def wA (t2 t12 t16 : Int) (r0 : TT) (r1 : List UU) (r2 : List Int) : Int := hide ((vis2 t2 t12 t16 r0 r1 r2).2.2.2 : Int)
end Go.Spec
namespace Go.Spec
open Go Go.Lift
def X_turns_Turns_Slot_0_0 (t2 : Int) (t7 : Int) (t9 : Int) (r0 : (Int × (Int × (Bool × ((List Int) × Unit))))) (r1 : (List (Int × (Int × (Int × Unit))))) (K : AExit → St → Prop) : Prop := K .ret ⟨.s (.addr 0 []) :: (un 1 ++ (.s (.val (.int .i64) t2) :: (un 3 ++ (.s .nilsl :: (.s (.val (.int .i64) t7) :: (.s (.addr 1 []) :: (.s (.val (.int .i64) t9) :: (un 195)))))))), [(0, .box (.pair (.int .i64) (.pair (.int .i64) (.pair .bool (.pair (.arr 17 (.int .i64)) .unit)))) r0), (1, .box (.arr 17 (.pair (.int .i64) (.pair (.int .i64) (.pair (.int .i64) .unit)))) r1)], 3⟩
def X_turns_Turns_Slot_0_1 (t2 : Int) (t9 : Int) (r0 : (Int × (Int × (Bool × ((List Int) × Unit))))) (r1 : (List (Int × (Int × (Int × Unit))))) (K : AExit → St → Prop) : Prop := K (.exit 0) ⟨.s (.addr 0 []) :: (un 1 ++ (.s (.val (.int .i64) t2) :: (un 5 ++ (.s (.addr 1 []) :: (.s (.val (.int .i64) t9) :: (un 195)))))), [(0, .box (.pair (.int .i64) (.pair (.int .i64) (.pair .bool (.pair (.arr 17 (.int .i64)) .unit)))) r0), (1, .box (.arr 17 (.pair (.int .i64) (.pair (.int .i64) (.pair (.int .i64) .unit)))) r1)], 3⟩
def X_turns_Turns_Slot_2_0 (r0 : (Int × (Int × (Bool × ((List Int) × Unit))))) (r1 : (List Int)) (K : AExit → St → Prop) : Prop := K (.exit 2) ⟨un 13 ++ (.s (.sl 1) :: (un 191)), [(0, .box (.pair (.int .i64) (.pair (.int .i64) (.pair .bool (.pair (.arr 17 (.int .i64)) .unit)))) r0), (1, .row (.int .i64) r1)], 3⟩
def X_turns_Turns_Slot_4_0 (t2 : Int) (t9 : Int) (t14 : Int) (t16_0 : Int) (t17_0 : Int) (r0 : (Int × (Int × (Bool × ((List Int) × Unit))))) (r1 : (List (Int × (Int × (Int × Unit))))) (r2 : (List Int)) (K : AExit → St → Prop) : Prop := K (.exit 4) ⟨.s (.addr 0 []) :: (un 1 ++ (.s (.val (.int .i64) t2) :: (un 5 ++ (.s (.addr 1 []) :: (.s (.val (.int .i64) t9) :: (un 3 ++ (.s (.sl 2) :: (.s (.val (.int .i64) t14) :: (un 1 ++ (.s (.addr 1 [.idx t16_0]) :: (.s (.addr 0 [.snd, .snd, .snd, .fst, .idx t17_0]) :: (un 187)))))))))))), [(0, .box (.pair (.int .i64) (.pair (.int .i64) (.pair .bool (.pair (.arr 17 (.int .i64)) .unit)))) r0), (1, .box (.arr 17 (.pair (.int .i64) (.pair (.int .i64) (.pair (.int .i64) .unit)))) r1), (2, .row (.int .i64) r2)], 4⟩
end Go.Spec
/- What the functions answer: whose turn it is. -/
namespace Go.Spec
open Go Go.Lift
def S_turns_New : Summ := { par := [.v (.int .i64)], res := [.obox (.pair (.int .i64) (.pair (.int .i64) (.pair .bool (.pair (.arr 17 (.int .i64)) .unit)))), .v (.int .i64)], esc := false, pre := fun _ => True, fn := fun x => ((if 1 ≤ x.1 ∧ x.1 ≤ 10000 then some (newT x.1) else none, if 1 ≤ x.1 ∧ x.1 ≤ 10000 then 0 else 1, ()), ((), ())) }
def S_turns_Turns_Credit : Summ := { par := [.box (.pair (.int .i64) (.pair (.int .i64) (.pair .bool (.pair (.arr 17 (.int .i64)) .unit)))), .v (.int .i64)], res := [.v (.int .i64)], esc := false, pre := fun _ => True, fn := fun x => ((if 1 ≤ x.2.1 ∧ x.2.1 ≤ 16 then List.getD x.1.2.2.2.1 x.2.1.toNat 0 else 0, ()), (x.1, (), ())) }
noncomputable def S_turns_Turns_Slot : Summ := { par := [.box (.pair (.int .i64) (.pair (.int .i64) (.pair .bool (.pair (.arr 17 (.int .i64)) .unit)))), .v (.ro (.pair (.int .i64) (.pair (.int .i64) (.pair (.int .i64) .unit)))), .v (.int .i64)], res := [.row (.int .i64), .v (.int .i64)], esc := false, pre := fun x => tOK x.1 ∧ (List.length x.2.1 : Int) ≤ big, fn := fun x => ((hide slotO x.1 x.2.1 x.2.2.1, hide slotErr x.2.1 x.2.2.1, ()), (hide slotT x.1 x.2.1 x.2.2.1, (), (), ())) }
def p_turns_Turns_Slot_0 (t2 t9 t10 : Int) (t24 : List UU) (t25 t26 : Int) (r0 : TT) (r1 : List UU) : Prop := tOK r0 ∧ 0 ≤ t2 ∧ t2 ≤ 100 ∧ t25 = t24.length ∧ 0 ≤ t26 ∧ t26 ≤ t25 ∧ (t24.length : Int) ≤ big ∧ 0 ≤ t10 ∧ t10 ≤ 16 ∧ r1.length = 17 ∧ t9 = wcnt r1 ∧ (∀ i : Nat, t10 < i → i < 17 → r1.getD i u0 = u0)
def m_turns_Turns_Slot_0 (_t2 _t9 _t10 : Int) (_t24 : List UU) (t25 t26 : Int) (_r0 : TT) (_r1 : List UU) : Nat := (t25 - t26).toNat
def o_turns_Turns_Slot_0 (t2 _t9 t10 : Int) (t24 : List UU) (_t25 t26 : Int) (r0 : TT) (r1 : List UU) (K : AExit → St → Prop) : Prop :=
  condP (hide usersOK t10 (t24.drop t26.toNat)) (X_turns_Turns_Slot_0_1 t2 (wcnt (hide tabU r1 (t24.drop t26.toNat)) : Nat) r0 (hide tabU r1 (t24.drop t26.toNat)) K) (∀ (t9' : Int) (r1' : List UU), X_turns_Turns_Slot_0_0 t2 1 t9' r0 r1' K)
def p_turns_Turns_Slot_2 (t2 t9 t14 : Int) (r0 : TT) (r1 : List UU) (r2 : List Int) : Prop := 0 ≤ t2 ∧ t2 ≤ 100 ∧ 0 ≤ t14 ∧ IT t2.toNat (r0, r1, r2, t14.toNat) ∧ t9 = wcnt r1
def m_turns_Turns_Slot_2 (t2 _t9 t14 : Int) (r0 : TT) (r1 : List UU) (r2 : List Int) : Nat := meas t2.toNat (r0, r1, r2, t14.toNat)
def o_turns_Turns_Slot_2 (t2 _t9 t14 : Int) (r0 : TT) (r1 : List UU) (r2 : List Int) (K : AExit → St → Prop) : Prop := X_turns_Turns_Slot_2_0 (hide slotEnd t2.toNat (r0, r1, r2, t14.toNat)).1 (hide slotEnd t2.toNat (r0, r1, r2, t14.toNat)).2.2.1 K
def p_turns_Turns_Slot_4 (t2 _t9 t14 t16_0 t17_0 : Int) (r0 : TT) (r1 : List UU) (r2 : List Int) : Prop := 0 ≤ t2 ∧ t2 ≤ 100 ∧ 0 ≤ t14 ∧ t14 ≤ t2 ∧ t16_0 = r0.2.1 ∧ t17_0 = r0.2.1 ∧ 1 ≤ r0.2.1 ∧ r0.2.1 ≤ 16 ∧ r0.2.2.2.1.length = 17 ∧ r1.length = 17 ∧ (r2.length : Int) = t2 ∧
  0 ≤ (r1.getD r0.2.1.toNat u0).2.1 ∧ (r1.getD r0.2.1.toNat u0).2.1 ≤ 1000000 ∧ 1 ≤ (r1.getD r0.2.1.toNat u0).2.2.1 ∧ (r1.getD r0.2.1.toNat u0).2.2.1 ≤ 10000 ∧ 0 ≤ r0.2.2.2.1.getD r0.2.1.toNat 0 ∧ r0.2.2.2.1.getD r0.2.1.toNat 0 ≤ 20000
def m_turns_Turns_Slot_4 (t2 _t9 t14 _t16_0 _t17_0 : Int) (_r0 : TT) (_r1 : List UU) (_r2 : List Int) : Nat := (t2 - t14).toNat
def o_turns_Turns_Slot_4 (t2 t9 t14 t16_0 t17_0 : Int) (r0 : TT) (r1 : List UU) (r2 : List Int) (K : AExit → St → Prop) : Prop :=
  X_turns_Turns_Slot_4_0 t2 t9 (vA t2 t14 r0 r1 r2) t16_0 t17_0 (vT t2 t14 r0 r1 r2) (vU t2 t14 r0 r1 r2) (vO t2 t14 r0 r1 r2) K
end Go.Spec
namespace Go.Spec
open Go Go.Lift
def X_R_Turns_Slot_0_0 (t1 : (List (Int × (Int × (Int × Unit))))) (t2 : Int) (t7 : Int) (r0 : (Int × (Int × (Bool × ((List Int) × Unit))))) (K : AExit → St → Prop) : Prop := K .ret ⟨.s (.addr 0 []) :: (.s (.val (.ro (.pair (.int .i64) (.pair (.int .i64) (.pair (.int .i64) .unit)))) t1) :: (.s (.val (.int .i64) t2) :: (un 3 ++ (.s .nilsl :: (.s (.val (.int .i64) t7) :: (un 265)))))), [(0, .box (.pair (.int .i64) (.pair (.int .i64) (.pair .bool (.pair (.arr 17 (.int .i64)) .unit)))) r0)], 2⟩
def X_R_Turns_Slot_0_1 (t1 : (List (Int × (Int × (Int × Unit))))) (t2 : Int) (r0 : (Int × (Int × (Bool × ((List Int) × Unit))))) (K : AExit → St → Prop) : Prop := K (.exit 0) ⟨.s (.addr 0 []) :: (.s (.val (.ro (.pair (.int .i64) (.pair (.int .i64) (.pair (.int .i64) .unit)))) t1) :: (.s (.val (.int .i64) t2) :: (un 270))), [(0, .box (.pair (.int .i64) (.pair (.int .i64) (.pair .bool (.pair (.arr 17 (.int .i64)) .unit)))) r0)], 2⟩
def X_R_Turns_Slot_2_0 (t7 : Int) (r0 : (Int × (Int × (Bool × ((List Int) × Unit))))) (r1 : (List Int)) (K : AExit → St → Prop) : Prop := K .ret ⟨un 6 ++ (.s (.sl 1) :: (.s (.val (.int .i64) t7) :: (un 3 ++ (.s (.sl 1) :: (un 261))))), [(0, .box (.pair (.int .i64) (.pair (.int .i64) (.pair .bool (.pair (.arr 17 (.int .i64)) .unit)))) r0), (1, .row (.int .i64) r1)], 3⟩
def X_R_Turns_Slot_2_1 (r0 : (Int × (Int × (Bool × ((List Int) × Unit))))) (r1 : (List Int)) (K : AExit → St → Prop) : Prop := K (.exit 2) ⟨un 11 ++ (.s (.sl 1) :: (un 261)), [(0, .box (.pair (.int .i64) (.pair (.int .i64) (.pair .bool (.pair (.arr 17 (.int .i64)) .unit)))) r0), (1, .row (.int .i64) r1)], 3⟩
def X_R_Turns_Slot_4_0 (t2 : Int) (t12 : Int) (t13 : Bool) (r0 : (Int × (Int × (Bool × ((List Int) × Unit))))) (r1 : (List (Int × (Int × (Int × Unit))))) (r2 : (List Int)) (K : AExit → St → Prop) : Prop := K (.exit 4) ⟨.s (.addr 0 []) :: (un 1 ++ (.s (.val (.int .i64) t2) :: (un 7 ++ (.s (.sl 1) :: (.s (.sl 2) :: (.s (.val (.int .i64) t12) :: (.s (.val .bool t13) :: (un 259)))))))), [(0, .box (.pair (.int .i64) (.pair (.int .i64) (.pair .bool (.pair (.arr 17 (.int .i64)) .unit)))) r0), (1, .row (.pair (.int .i64) (.pair (.int .i64) (.pair (.int .i64) .unit))) r1), (2, .row (.int .i64) r2)], 4⟩
def X_R_Turns_Slot_6_0 (t2 : Int) (t12 : Int) (t15 : Bool) (t16 : Int) (r0 : (Int × (Int × (Bool × ((List Int) × Unit))))) (r1 : (List (Int × (Int × (Int × Unit))))) (r2 : (List Int)) (K : AExit → St → Prop) : Prop := K (.exit 6) ⟨.s (.addr 0 []) :: (un 1 ++ (.s (.val (.int .i64) t2) :: (un 7 ++ (.s (.sl 1) :: (.s (.sl 2) :: (.s (.val (.int .i64) t12) :: (un 2 ++ (.s (.val .bool t15) :: (.s (.val (.int .i64) t16) :: (un 256)))))))))), [(0, .box (.pair (.int .i64) (.pair (.int .i64) (.pair .bool (.pair (.arr 17 (.int .i64)) .unit)))) r0), (1, .row (.pair (.int .i64) (.pair (.int .i64) (.pair (.int .i64) .unit))) r1), (2, .row (.int .i64) r2)], 4⟩
def X_R_Turns_Slot_8_0 (t2 : Int) (t12 : Int) (t16 : Int) (r0 : (Int × (Int × (Bool × ((List Int) × Unit))))) (r1 : (List (Int × (Int × (Int × Unit))))) (r2 : (List Int)) (K : AExit → St → Prop) : Prop := K (.exit 8) ⟨.s (.addr 0 []) :: (un 1 ++ (.s (.val (.int .i64) t2) :: (un 7 ++ (.s (.sl 1) :: (.s (.sl 2) :: (.s (.val (.int .i64) t12) :: (un 3 ++ (.s (.val (.int .i64) t16) :: (un 256))))))))), [(0, .box (.pair (.int .i64) (.pair (.int .i64) (.pair .bool (.pair (.arr 17 (.int .i64)) .unit)))) r0), (1, .row (.pair (.int .i64) (.pair (.int .i64) (.pair (.int .i64) .unit))) r1), (2, .row (.int .i64) r2)], 4⟩
end Go.Spec
/- What the functions answer: whose turn it is, as the document has it. -/
namespace Go.Spec
open Go Go.Lift
noncomputable def S_R_Turns_Slot : Summ := S_turns_Turns_Slot
def p_R_Turns_Slot_0 (t1 : List UU) (t2 t8 : Int) (r0 : TT) : Prop := tOK r0 ∧ (t1.length : Int) ≤ big ∧ 0 ≤ t8 ∧ t8 ≤ t1.length ∧ 0 ≤ t2 ∧ t2 ≤ 100 ∧ (t8 > 0 → 1 ≤ prevW t1 t8)
def m_R_Turns_Slot_0 (t1 : List UU) (_t2 t8 : Int) (_r0 : TT) : Nat := (t1.length - t8).toNat
def o_R_Turns_Slot_0 (t1 : List UU) (t2 t8 : Int) (r0 : TT) (K : AExit → St → Prop) : Prop := condP (hide usersOK (prevW t1 t8) (t1.drop t8.toNat)) (X_R_Turns_Slot_0_1 t1 t2 r0 K) (X_R_Turns_Slot_0_0 t1 t2 1 r0 K)
def p_R_Turns_Slot_2 (t2 t12 : Int) (r0 : TT) (r1 : List UU) (r2 : List Int) : Prop := 0 ≤ t2 ∧ t2 ≤ 100 ∧ 0 ≤ t12 ∧ usersOK 0 r1 = true ∧ IT t2.toNat (r0, tabU tab00 r1, r2, t12.toNat)
def m_R_Turns_Slot_2 (t2 t12 : Int) (r0 : TT) (r1 : List UU) (r2 : List Int) : Nat := meas t2.toNat (r0, tabU tab00 r1, r2, t12.toNat)
def o_R_Turns_Slot_2 (t2 t12 : Int) (r0 : TT) (r1 : List UU) (r2 : List Int) (K : AExit → St → Prop) : Prop := ∀ b : Bool, condP b (X_R_Turns_Slot_2_0 0 (hide slotEnd t2.toNat (r0, tabU tab00 r1, r2, t12.toNat)).1 (hide slotEnd t2.toNat (r0, tabU tab00 r1, r2, t12.toNat)).2.2.1 K) (X_R_Turns_Slot_2_1 (hide slotEnd t2.toNat (r0, tabU tab00 r1, r2, t12.toNat)).1 (hide slotEnd t2.toNat (r0, tabU tab00 r1, r2, t12.toNat)).2.2.1 K)
def p_R_Turns_Slot_4 (_t2 _t12 : Int) (_t13 : Bool) (t14 : Int) (_r0 : TT) (r1 : List UU) (_r2 : List Int) : Prop := 0 ≤ t14 ∧ t14 ≤ r1.length ∧ (r1.length : Int) ≤ big
def m_R_Turns_Slot_4 (_t2 _t12 : Int) (_t13 : Bool) (t14 : Int) (_r0 : TT) (r1 : List UU) (_r2 : List Int) : Nat := (r1.length - t14).toNat
def o_R_Turns_Slot_4 (t2 t12 : Int) (t13 : Bool) (t14 : Int) (r0 : TT) (r1 : List UU) (r2 : List Int) (K : AExit → St → Prop) : Prop := X_R_Turns_Slot_4_0 t2 t12 (t13 || (r1.drop t14.toNat).any waits) r0 r1 r2 K
def p_R_Turns_Slot_6 (_t2 _t12 : Int) (_t15 : Bool) (_t16 t17 : Int) (_r0 : TT) (r1 : List UU) (_r2 : List Int) : Prop := 0 ≤ t17 ∧ t17 ≤ r1.length ∧ (r1.length : Int) ≤ big
def m_R_Turns_Slot_6 (_t2 _t12 : Int) (_t15 : Bool) (_t16 t17 : Int) (_r0 : TT) (r1 : List UU) (_r2 : List Int) : Nat := (r1.length - t17).toNat
def o_R_Turns_Slot_6 (t2 t12 : Int) (t15 : Bool) (t16 t17 : Int) (r0 : TT) (r1 : List UU) (r2 : List Int) (K : AExit → St → Prop) : Prop := X_R_Turns_Slot_6_0 t2 t12 t15 (hide idxW r0.2.1 (r1.drop t17.toNat) t17 t16) r0 r1 r2 K
def p_R_Turns_Slot_8 (t2 t12 t16 : Int) (r0 : TT) (r1 : List UU) (r2 : List Int) : Prop := 0 ≤ t2 ∧ t2 ≤ 100 ∧ 0 ≤ t12 ∧ t12 ≤ t2 ∧ 0 ≤ t16 ∧ t16 < r1.length ∧ (r1.length : Int) ≤ big ∧ 1 ≤ r0.2.1 ∧ r0.2.1 ≤ 16 ∧ r0.2.2.2.1.length = 17 ∧ (r2.length : Int) = t2 ∧
  0 ≤ (r1.getD t16.toNat u0).2.1 ∧ (r1.getD t16.toNat u0).2.1 ≤ 1000000 ∧ 1 ≤ (r1.getD t16.toNat u0).2.2.1 ∧ (r1.getD t16.toNat u0).2.2.1 ≤ 10000 ∧ 0 ≤ r0.2.2.2.1.getD r0.2.1.toNat 0 ∧ r0.2.2.2.1.getD r0.2.1.toNat 0 ≤ 20000
def m_R_Turns_Slot_8 (t2 t12 _t16 : Int) (_r0 : TT) (_r1 : List UU) (_r2 : List Int) : Nat := (t2 - t12).toNat
def o_R_Turns_Slot_8 (t2 t12 t16 : Int) (r0 : TT) (r1 : List UU) (r2 : List Int) (K : AExit → St → Prop) : Prop := X_R_Turns_Slot_8_0 t2 (wA t2 t12 t16 r0 r1 r2) t16 (wT t2 t12 t16 r0 r1 r2) (wU t2 t12 t16 r0 r1 r2) (wO t2 t12 t16 r0 r1 r2) K
end Go.Spec
/- Plain facts: the users' list and their table. -/
namespace Go.Spec
open Go Go.Lift
theorem usersOK_gt : ∀ (l : List UU) (p : Int), usersOK p l = true → ∀ u ∈ l, p < u.1
  | [], _, _, _, h => by cases h
  | u :: us, p, h, v, hv => by
    obtain ⟨h1, h2⟩ := usersOK_cons.1 h
    have hu := userB_ok h1
    rcases List.mem_cons.1 hv with rfl | hv
    · exact hu.1
    · have := usersOK_gt us u.1 h2 v hv; omega
theorem usersOK_at : ∀ (l : List UU) (p : Int) (k : Nat), usersOK p l = true → k < l.length → p < (l.getD k u0).1 ∧ (l.getD k u0).1 ≤ 16 ∧ 0 ≤ (l.getD k u0).2.1 ∧ (l.getD k u0).2.1 ≤ 1000000 ∧ 1 ≤ (l.getD k u0).2.2.1 ∧ (l.getD k u0).2.2.1 ≤ 10000
  | [], _, _, _, h => by cases h
  | u :: us, p, k, h, hk => by
    obtain ⟨h1, h2⟩ := usersOK_cons.1 h
    have hu := userB_ok h1
    cases k with
    | zero => exact hu
    | succ k =>
      have := usersOK_at us u.1 k h2 (by simpa using hk)
      show p < (us.getD k u0).1 ∧ _
      exact ⟨by omega, this.2⟩
theorem tab_comm : ∀ (us n : List UU) (p : Int) (i : Nat) (x : UU), usersOK p us = true → 0 ≤ p → (i : Int) ≤ p → tabU (n.set i x) us = (tabU n us).set i x
  | [], _, _, _, _, _, _, _ => rfl
  | u :: us, n, p, i, x, h, hp, hi => by
    obtain ⟨h1, h2⟩ := usersOK_cons.1 h
    have hu := userB_ok h1
    rw [tabU, tabU, List.set_comm _ _ (by omega), tab_comm us (n.set u.1.toNat u) u.1 i x h2 (by omega) (by omega)]
theorem tab_at : ∀ (l n : List UU) (p : Int) (k : Nat), usersOK p l = true → 0 ≤ p → n.length = 17 → k < l.length → (tabU n l).getD (l.getD k u0).1.toNat u0 = l.getD k u0
  | [], _, _, _, _, _, _, h => by cases h
  | u :: us, n, p, k, h, hp, hn, hk => by
    obtain ⟨h1, h2⟩ := usersOK_cons.1 h
    have hu := userB_ok h1
    rw [tabU]
    cases k with
    | zero =>
      show (tabU (n.set u.1.toNat u) us).getD u.1.toNat u0 = u
      rw [tabU_low us _ u.1 _ h2 (by omega) (by omega), gset' (by omega), if_pos rfl]
    | succ k => exact tab_at us _ u.1 k h2 (by omega) (by rw [List.length_set]; exact hn) (by simpa using hk)
theorem tab_none : ∀ (l n : List UU) (p : Int) (j : Nat), usersOK p l = true → 0 ≤ p → n.length = 17 → (∀ u ∈ l, u.1 ≠ j) → (tabU n l).getD j u0 = n.getD j u0
  | [], _, _, _, _, _, _, _ => rfl
  | u :: us, n, p, j, h, hp, hn, hj => by
    obtain ⟨h1, h2⟩ := usersOK_cons.1 h
    have hu := userB_ok h1
    have hne := hj u (List.mem_cons_self)
    rw [tabU, tab_none us _ u.1 j h2 (by omega) (by rw [List.length_set]; exact hn) (fun v hv => hj v (List.mem_cons_of_mem _ hv)), gset' (by omega), if_neg (by omega)]
theorem tab_set : ∀ (l n : List UU) (p : Int) (k : Nat) (v : UU), usersOK p l = true → 0 ≤ p → k < l.length → v.1 = (l.getD k u0).1 → tabU n (l.set k v) = (tabU n l).set v.1.toNat v
  | [], _, _, _, _, _, _, h, _ => by cases h
  | u :: us, n, p, k, v, h, hp, hk, hv => by
    obtain ⟨h1, h2⟩ := usersOK_cons.1 h
    have hu := userB_ok h1
    cases k with
    | zero =>
      have hv' : v.1 = u.1 := hv
      show tabU (n.set v.1.toNat v) us = (tabU (n.set u.1.toNat u) us).set v.1.toNat v
      rw [tab_comm us n u.1 _ u h2 (by omega) (by omega), tab_comm us n u.1 _ v h2 (by omega) (by omega), hv', List.set_set]
    | succ k => exact tab_set us (n.set u.1.toNat u) u.1 k v h2 (by omega) (by simpa using hk) hv
theorem usersOK_set : ∀ (l : List UU) (p : Int) (k : Nat) (v : UU), usersOK p l = true → k < l.length → v.1 = (l.getD k u0).1 → 0 ≤ v.2.1 → v.2.1 ≤ 1000000 → 1 ≤ v.2.2.1 → v.2.2.1 ≤ 10000 → usersOK p (l.set k v) = true
  | [], _, _, _, _, h, _, _, _, _, _ => by cases h
  | u :: us, p, k, v, h, hk, hv, b1, b2, f1, f2 => by
    obtain ⟨h1, h2⟩ := usersOK_cons.1 h
    have hu := userB_ok h1
    cases k with
    | zero =>
      have hv' : v.1 = u.1 := hv
      show usersOK p (v :: us) = true
      rw [usersOK_cons]
      refine ⟨?_, by rw [hv']; exact h2⟩
      unfold userB
      simp only [Bool.and_eq_true, decide_eq_true_eq]
      omega
    | succ k =>
      show usersOK p (u :: us.set k v) = true
      rw [usersOK_cons]
      exact ⟨h1, usersOK_set us u.1 k v h2 (by simpa using hk) hv b1 b2 f1 f2⟩
theorem mem_getD {l : List UU} {u : UU} (h : u ∈ l) : ∃ k, k < l.length ∧ l.getD k u0 = u := by
  obtain ⟨k, hk, rfl⟩ := List.getElem_of_mem h
  exact ⟨k, hk, by rw [List.getD_eq_getElem?_getD, List.getElem?_eq_getElem hk]; rfl⟩
theorem getD_memU {l : List UU} {k : Nat} (h : k < l.length) : l.getD k u0 ∈ l := by
  rw [List.getD_eq_getElem?_getD, List.getElem?_eq_getElem h]; exact List.getElem_mem h
theorem tab_len (l : List UU) : (tabU tab00 l).length = 17 := by rw [tabU_length]; rfl
theorem any_waits {l : List UU} (h : usersOK 0 l = true) : l.any waits = decide (0 < wcnt (tabU tab00 l)) := by
  rw [Bool.eq_iff_iff, decide_eq_true_eq, List.any_eq_true]
  unfold wcnt
  rw [List.countP_pos_iff]
  constructor
  · rintro ⟨u, hu, hw⟩
    obtain ⟨k, hk, rfl⟩ := mem_getD hu
    have ha := tab_at l tab00 0 k h (by decide) rfl hk
    have hb := usersOK_at l 0 k h hk
    have hm := getD_memU (l := tabU tab00 l) (k := (l.getD k u0).1.toNat) (by rw [tab_len]; omega)
    rw [ha] at hm
    exact ⟨_, hm, hw⟩
  · rintro ⟨x, hx, hw⟩
    obtain ⟨j, hj, rfl⟩ := mem_getD hx
    by_cases hex : ∃ u ∈ l, u.1 = (j : Int)
    · obtain ⟨u, hu, hj'⟩ := hex
      obtain ⟨k, hk, rfl⟩ := mem_getD hu
      have ha := tab_at l tab00 0 k h (by decide) rfl hk
      rw [hj', Int.toNat_natCast] at ha
      rw [ha] at hw
      exact ⟨_, hu, hw⟩
    · rw [tab_none l tab00 0 j h (by decide) rfl (fun u hu he => hex ⟨u, hu, he⟩), tab00_getD] at hw
      cases hw
/-- where the turn's user stands in the list -/
theorem idxW_at (w : Int) : ∀ (l : List UU) (i acc : Int) (p : Int), usersOK p l = true → (∀ u ∈ l, u.1 = w → ¬ u.2.1 > 0) ∧ idxW w l i acc = acc ∨ ∃ k, k < l.length ∧ (l.getD k u0).1 = w ∧ (l.getD k u0).2.1 > 0 ∧ idxW w l i acc = i + k
  | [], _, _, _, _ => .inl ⟨fun _ h => (by cases h), rfl⟩
  | u :: us, i, acc, p, h => by
    obtain ⟨h1, h2⟩ := usersOK_cons.1 h
    rw [idxW]
    rcases idxW_at w us (i + 1) (if u.1 = w ∧ u.2.1 > 0 then i else acc) u.1 h2 with ⟨hn, he⟩ | ⟨k, hk, e1, e2, e3⟩
    · by_cases hc : u.1 = w ∧ u.2.1 > 0
      · rw [if_pos hc] at he
        refine .inr ⟨0, by simp, hc.1, hc.2, ?_⟩
        rw [if_pos hc, he]; simp
      · rw [if_neg hc] at he
        refine .inl ⟨fun v hv hw => ?_, by rw [if_neg hc]; exact he⟩
        rcases List.mem_cons.1 hv with rfl | hv
        · exact fun hb => hc ⟨hw, hb⟩
        · exact hn v hv hw
    · exact .inr ⟨k + 1, by simp; omega, e1, e2, by rw [e3]; push_cast; omega⟩
theorem turn_none {l : List UU} {w : Int} (h : usersOK 0 l = true) (hw : 0 ≤ w) (hn : ∀ u ∈ l, u.1 = w → ¬ u.2.1 > 0) : ((tabU tab00 l).getD w.toNat u0).2.1 = 0 := by
  by_cases hex : ∃ u ∈ l, u.1 = w
  · obtain ⟨u, hu, hj'⟩ := hex
    have hnb := hn u hu hj'
    obtain ⟨k, hk, rfl⟩ := mem_getD hu
    have ha := tab_at l tab00 0 k h (by decide) rfl hk
    have hb := usersOK_at l 0 k h hk
    rw [hj'] at ha
    rw [ha]; omega
  · rw [tab_none l tab00 0 w.toNat h (by decide) rfl (fun u hu he => hex ⟨u, hu, by omega⟩), tab00_getD]; rfl
theorem users_few : ∀ (l : List UU) (p : Int), usersOK p l = true → l.length ≤ (16 - p).toNat
  | [], _, _ => Nat.zero_le _
  | u :: us, p, h => by
    obtain ⟨h1, h2⟩ := usersOK_cons.1 h
    have hu := userB_ok h1
    have := users_few us u.1 h2
    rw [List.length_cons]; omega
theorem giveW_facts (blocks : Nat) (w f : Int) (hf : 1 ≤ f) (a : Nat) (b c : Int) (out : List Int) (hb : 0 ≤ b) (hc : 0 ≤ c) (ha : a ≤ blocks) :
    a ≤ (giveW blocks w f a b c out).1 ∧ (giveW blocks w f a b c out).1 ≤ blocks ∧ 0 ≤ (giveW blocks w f a b c out).2.1 ∧ (giveW blocks w f a b c out).2.1 ≤ b ∧
    0 ≤ (giveW blocks w f a b c out).2.2.1 ∧ (giveW blocks w f a b c out).2.2.1 ≤ c ∧ (giveW blocks w f a b c out).2.2.2.length = out.length :=
  let h := give_facts blocks w f hf (blocks - a) a b c out hb hc ha rfl
  ⟨h.1, h.2.1, h.2.2.1, h.2.2.2.1, h.2.2.2.2.1, h.2.2.2.2.2.1, h.2.2.2.2.2.2.1⟩
end Go.Spec
