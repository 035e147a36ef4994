/- Lines for the functions of this seat; merged from texts of their own. -/
import Derived.Test.YtfkedbncidahjaaP10
import Derived.Test.YtfkedbncidahjaaS6
set_option linter.unusedVariables false
set_option linter.unusedSimpArgs false
/- Plain facts: bursts. -/
namespace Go.Spec
open Go Go.Lift
def hitB (c : List Int) (at_ : Int) (L j : Nat) : Bool := decide (0 ≤ at_) && decide (at_ + j < L) && decide (c.getD j 0 % 2 = 1)
def goB (c : List Int) (at_ : Int) : Nat → Nat → Bool → List Int → Bool × List Int
  | 0, _, tn, l => (tn, l)
  | f + 1, i, tn, l => if hitB c at_ l.length i = true then goB c at_ f (i + 1) true (l.set (at_ + i).toNat ((l.getD (at_ + i).toNat 0 + 1) % 2)) else goB c at_ f (i + 1) tn l
theorem goB_length (c : List Int) (at_ : Int) : ∀ (f i : Nat) (tn : Bool) (l : List Int), (goB c at_ f i tn l).2.length = l.length
  | 0, _, _, _ => rfl
  | f + 1, i, tn, l => by
    rw [goB]; split
    · rw [goB_length c at_ f, List.length_set]
    · rw [goB_length c at_ f]
theorem goB_bits (c : List Int) (at_ : Int) : ∀ (f i : Nat) (tn : Bool) (l : List Int), Bits l → Bits (goB c at_ f i tn l).2
  | 0, _, _, _, h => h
  | f + 1, i, tn, l, h => by
    rw [goB]; split
    · exact goB_bits c at_ f _ _ _ (h.set (mod2 _))
    · exact goB_bits c at_ f _ _ _ h
theorem goB_turned (c : List Int) (at_ : Int) : ∀ (f i : Nat) (tn : Bool) (l : List Int), (goB c at_ f i tn l).1 = true ↔ tn = true ∨ ∃ j, i ≤ j ∧ j < i + f ∧ hitB c at_ l.length j = true
  | 0, i, tn, l => ⟨fun h => .inl h, fun h => h.elim id fun ⟨j, h1, h2, _⟩ => by omega⟩
  | f + 1, i, tn, l => by
    rw [goB]; split
    · rename_i hh
      rw [goB_turned c at_ f]
      exact ⟨fun _ => .inr ⟨i, Nat.le_refl _, by omega, hh⟩, fun _ => .inl rfl⟩
    · rename_i hh
      rw [goB_turned c at_ f]
      constructor
      · rintro (h | ⟨j, h1, h2, h3⟩)
        · exact .inl h
        · exact .inr ⟨j, by omega, by omega, h3⟩
      · rintro (h | ⟨j, h1, h2, h3⟩)
        · exact .inl h
        · rcases Nat.eq_or_lt_of_le h1 with rfl | h1
          · exact (hh h3).elim
          · exact .inr ⟨j, by omega, by omega, h3⟩
theorem goB_getD (c : List Int) (a : Nat) : ∀ (f i : Nat) (tn : Bool) (l : List Int) (p : Nat), Bits l →
    (goB c (a : Int) f i tn l).2.getD p 0 = (l.getD p 0 + if a + i ≤ p ∧ p < a + i + f ∧ hitB c a l.length (p - a) = true then 1 else 0) % 2
  | 0, i, tn, l, p, hb => by
    rw [goB, if_neg (by omega)]
    rcases hb.getD p with h | h <;> simp only [h] <;> rfl
  | f + 1, i, tn, l, p, hb => by
    rw [goB]; split
    · rename_i hh
      have hlt : a + i < l.length := by
        simp only [hitB, Bool.and_eq_true, decide_eq_true_eq] at hh; omega
      rw [goB_getD c a f (i + 1) _ _ p (hb.set (mod2 _)), List.length_set, getD_set (by omega), show ((a : Int) + (i : Int)).toNat = a + i by omega]
      by_cases hp : a + i = p
      · subst hp
        rw [if_pos rfl, if_neg (by omega), if_pos ⟨by omega, by omega, by rw [show a + i - a = i by omega]; exact hh⟩]
        omega
      · rw [if_neg hp]
        by_cases hc : a + i ≤ p ∧ p < a + i + (f + 1) ∧ hitB c a l.length (p - a) = true
        · rw [if_pos hc, if_pos ⟨by omega, by omega, hc.2.2⟩]
        · rw [if_neg hc, if_neg (fun h => hc ⟨by omega, by omega, h.2.2⟩)]
    · rename_i hh
      rw [goB_getD c a f (i + 1) _ _ p hb]
      by_cases hc : a + i ≤ p ∧ p < a + i + (f + 1) ∧ hitB c a l.length (p - a) = true
      · have : a + i ≠ p := by
          rintro rfl
          rw [show a + i - a = i by omega] at hc
          exact hh hc.2.2
        rw [if_pos hc, if_pos ⟨by omega, by omega, hc.2.2⟩]
      · rw [if_neg hc, if_neg (fun h => hc ⟨by omega, by omega, h.2.2⟩)]
theorem goB_neg (c : List Int) {at_ : Int} (h : at_ < 0) : ∀ (f i : Nat) (tn : Bool) (l : List Int), goB c at_ f i tn l = (tn, l)
  | 0, _, _, _ => rfl
  | f + 1, i, tn, l => by
    rw [goB, if_neg (by simp [hitB]; omega), goB_neg c h f]
/-! the state of a sum -/
theorem runS_app {w g : Nat} : ∀ (a b : List Int) (r : Nat), runS w g r (a ++ b) = runS w g (runS w g r a) b
  | [], _, _ => rfl
  | _ :: a, b, _ => runS_app a b _
theorem xor_odd {a g : Nat} (ha : a % 2 = 0) (hg : g % 2 = 1) : (a ^^^ g) % 2 = 1 := by
  have := xor_mod2 a g; omega
theorem step_even {w g r x : Nat} (hw : 1 ≤ w) (hg : g % 2 = 1) (h : stepS w g r x % 2 = 0) : (r / 2 ^ (w - 1) + x) % 2 = 0 ∧ stepS w g r x = 2 * r % 2 ^ w := by
  have he : (2 * r % 2 ^ w) % 2 = 0 := by
    obtain ⟨v, rfl⟩ : ∃ v, w = v + 1 := ⟨w - 1, by omega⟩
    rw [Nat.pow_succ, Nat.mul_comm (2 ^ v) 2, Nat.mul_mod_mul_left, Nat.mul_mod_right]
  unfold stepS at h ⊢
  split at h
  · have := xor_odd he hg; omega
  · rename_i hn; rw [if_neg hn]; exact ⟨by omega, rfl⟩
theorem step_zero {w g r : Nat} (hw : 1 ≤ w) (hg : g % 2 = 1) (hr : r < 2 ^ w) (h : stepS w g r 0 = 0) : r = 0 := by
  obtain ⟨h1, h2⟩ := step_even hw hg (by rw [h])
  rw [h2] at h
  obtain ⟨v, rfl⟩ : ∃ v, w = v + 1 := ⟨w - 1, by omega⟩
  simp only [Nat.add_sub_cancel] at h1
  rw [Nat.pow_succ, Nat.mul_comm (2 ^ v) 2] at h hr
  rw [Nat.mul_mod_mul_left] at h
  have hp := Nat.two_pow_pos v
  have hd : r / 2 ^ v < 2 := Nat.div_lt_of_lt_mul (by rw [Nat.mul_comm]; exact hr)
  rw [Nat.add_zero] at h1
  have hd0 : r / 2 ^ v = 0 := by generalize r / 2 ^ v = q at *; omega
  have := Nat.div_add_mod r (2 ^ v)
  rw [hd0] at this
  omega
theorem run_zeros {w g : Nat} (hw : 1 ≤ w) (hg : g % 2 = 1) (hg2 : g < 2 ^ w) : ∀ (z r : Nat), r < 2 ^ w → runS w g r (List.replicate z 0) = 0 → r = 0
  | 0, _, _, h => h
  | z + 1, r, hr, h => by
    rw [List.replicate_succ, runS] at h
    exact step_zero hw hg hr (run_zeros hw hg hg2 z _ (stepS_lt hg2) h)
theorem run_from_zero {w g : Nat} (hw : 1 ≤ w) : ∀ z : Nat, runS w g 0 (List.replicate z 0) = 0
  | 0 => rfl
  | z + 1 => by
    rw [List.replicate_succ, runS]
    have : stepS w g 0 (0 : Int).toNat = 0 := by unfold stepS; simp
    rw [this]; exact run_from_zero hw z
theorem run_inj {w g : Nat} (hw : 1 ≤ w) (hg : g % 2 = 1) (hg2 : g < 2 ^ w) : ∀ (y : List Int) (r : Nat), Bits y → y.length ≤ w → r < 2 ^ w → runS w g r y = 0 → r % 2 ^ (w - y.length) = 0 ∧ ∀ i, i < y.length → y.getD i 0 = ((r / 2 ^ (w - 1 - i) % 2 : Nat) : Int)
  | [], r, _, _, _, h => ⟨by rw [show r = 0 from h]; simp, fun i hi => by simp at hi⟩
  | x :: ys, r, hb, hl, hr, h => by
    rw [List.length_cons] at hl
    have hx := hb x (List.mem_cons_self ..)
    have hb' : Bits ys := fun z hz => hb z (List.mem_cons_of_mem _ hz)
    rw [runS] at h
    obtain ⟨i1, i2⟩ := run_inj hw hg hg2 ys _ hb' (by omega) (stepS_lt hg2) h
    have hev : stepS w g r x.toNat % 2 = 0 := by
      obtain ⟨d, hd⟩ : ∃ d, w - ys.length = d + 1 := ⟨w - ys.length - 1, by omega⟩
      rw [hd, Nat.pow_succ] at i1
      have : stepS w g r x.toNat % (2 ^ d * 2) % 2 = stepS w g r x.toNat % 2 := Nat.mod_mul_left_mod _ _ _
      omega
    obtain ⟨t1, t2⟩ := step_even hw hg hev
    rw [t2] at i1 i2
    constructor
    · rw [List.length_cons]
      obtain ⟨d, hd⟩ : ∃ d, w - ys.length = d + 1 := ⟨w - ys.length - 1, by omega⟩
      rw [show w - (ys.length + 1) = d by omega]
      rw [hd, Nat.mod_mod_of_dvd _ (Nat.pow_dvd_pow 2 (by omega)), Nat.pow_succ, Nat.mul_comm (2 ^ d) 2, Nat.mul_mod_mul_left] at i1
      omega
    · intro i hi
      have ht : r / 2 ^ (w - 1) < 2 := by
        apply Nat.div_lt_of_lt_mul
        rw [← Nat.pow_succ, show (w - 1).succ = w by omega]; exact hr
      cases i with
      | zero => rw [List.getD_cons_zero, Nat.sub_zero]; omega
      | succ i =>
        rw [List.getD_cons_succ, i2 i (by simpa using hi), bit_shl (by simp at hi; omega)]
        unfold rb
        rw [if_pos (by simp at hi; omega)]
theorem run_out {w g r : Nat} (hr : r < 2 ^ w) : ∀ (d i s : Nat), i + d = w → s = 2 ^ i * r % 2 ^ w → runS w g s (seg (fun i => ((r / 2 ^ (w - 1 - i) % 2 : Nat) : Int)) i w) = 0
  | 0, i, s, h, hs => by
    rw [seg_nil _ (by omega), runS, hs, show i = w by omega, Nat.mul_mod_right]
  | d + 1, i, s, h, hs => by
    rw [seg_cons _ (by omega), runS, Int.toNat_natCast]
    have htop : s / 2 ^ (w - 1) % 2 = r / 2 ^ (w - 1 - i) % 2 := by
      rw [hs, bit_div, bit_div, Nat.testBit_mod_two_pow, Nat.testBit_two_pow_mul, decide_eq_true (show w - 1 < w by omega), decide_eq_true (show i ≤ w - 1 by omega)]; rfl
    have hst : stepS w g s (r / 2 ^ (w - 1 - i) % 2) = 2 * s % 2 ^ w := by unfold stepS; rw [if_neg (by omega)]
    rw [hst]
    refine run_out hr d (i + 1) _ (by omega) ?_
    rw [hs, Nat.pow_succ, Nat.mul_mod, Nat.mod_mod, ← Nat.mul_mod]
    congr 1
    rw [Nat.mul_comm (2 ^ i) 2, Nat.mul_assoc]
theorem run_outS {w g r : Nat} (hr : r < 2 ^ w) : runS w g r (outS w r) = 0 := by
  unfold outS
  exact run_out hr w 0 r (by omega) (by rw [Nat.pow_zero, Nat.one_mul, Nat.mod_eq_of_lt hr])
theorem open_run {l : List Int} {k : Int} (h : openOk l k = true) : runS (sW k) (sG k) 0 l = 0 := by
  obtain ⟨h1, h2, h3⟩ := of_decide_eq_true h
  obtain ⟨g1, g2⟩ := sG_lt (sumErr_ok h1).2
  have : l = l.take (l.length - sW k) ++ l.drop (l.length - sW k) := (List.take_append_drop _ _).symm
  rw [this, runS_app, ← h3]
  exact run_outS (runS_lt g1 _ 0 (by omega))
theorem sG_odd {k : Int} (h : sW k ≠ 0) : sG k % 2 = 1 := by
  rcases sW_ok h with rfl | rfl | rfl | rfl <;> decide
/-- What is seen: a change within the width. -/
theorem burst {k : Int} {s e : List Int} {a m : Nat} (hk : sW k ≠ 0) (hs : Bits s) (he : Bits e) (hl : s.length = e.length) (hm : m ≤ sW k) (ham : a + m ≤ e.length)
    (h0 : ∀ p, ¬ (a ≤ p ∧ p < a + m) → e.getD p 0 = 0) (h1 : openOk s k = true) (h2 : openOk (addL s e) k = true) : ∀ p, e.getD p 0 = 0 := by
  obtain ⟨g1, g2⟩ := sG_lt hk
  have g3 := sG_odd hk
  have r1 := open_run h1
  have r2 := open_run h2
  have hx := runS_xor (w := sW k) (g := sG k) s e 0 0 hs he hl
  rw [Nat.xor_self, r2, r1, Nat.zero_xor] at hx
  have hdec : e = List.replicate a 0 ++ ((e.drop a).take m ++ List.replicate (e.length - (a + m)) 0) := by
    refine list_ext (by simp; omega) fun p hp => ?_
    by_cases hpa : p < a
    · rw [getD_app_left (by simpa using hpa), h0 p (by omega), List.getD_eq_getElem?_getD, List.getElem?_replicate, if_pos hpa]; rfl
    · rw [getD_app_right (by simp; omega), List.length_replicate]
      by_cases hpm : p < a + m
      · rw [getD_app_left (by simp; omega), getD_take' (by omega), getD_drop, show a + (p - a) = p by omega]
      · rw [getD_app_right (by simp; omega), h0 p (by omega), List.getD_eq_getElem?_getD, List.getElem?_replicate]
        split <;> rfl
  have hq : Bits ((e.drop a).take m) := Bits.take (Bits.drop he _) _
  have hql : ((e.drop a).take m).length = m := by simp; omega
  rw [hdec, runS_app, run_from_zero g2, runS_app] at hx
  have hz := run_zeros g2 g3 g1 _ _ (runS_lt g1 _ 0 (by omega)) hx.symm
  obtain ⟨_, i2⟩ := run_inj g2 g3 g1 _ 0 hq (by rw [hql]; exact hm) (by omega) hz
  intro p
  by_cases hp : a ≤ p ∧ p < a + m
  · have := i2 (p - a) (by rw [hql]; omega)
    rw [getD_take' (by omega), getD_drop, show a + (p - a) = p by omega] at this
    rw [this]; simp
  · exact h0 p hp
end Go.Spec
/- What the functions answer: bursts. -/
namespace Go.Spec
open Go Go.Lift
def S_keep_BitsBurst : Summ := { par := [.v (.ro (.int .u8)), .v (.int .i64), .v (.int .i64), .v (.ro (.int .u8))], res := [.v .bool], esc := false, pre := fun x => ((x.1.length : Int) ≤ big ∧ ∀ y ∈ x.1, 0 ≤ y) ∧ ((x.2.2.2.1.length : Int) ≤ big ∧ ∀ y ∈ x.2.2.2.1, 0 ≤ y), fn := fun _ => ((true, ()), ((), (), (), (), ())) }
def p_keep_BitsBurst_0 (_t1 _t2 : Int) (t3 : List Int) (t15 : Int) (_t16 : Bool) (t17 : Int) (r0 : List Int) : Prop := (t3.length : Int) ≤ big ∧ (∀ y ∈ t3, 0 ≤ y) ∧ 0 ≤ t15 ∧ t15 ≤ 24 ∧ 0 ≤ t17 ∧ t17 ≤ 24 ∧ r0.length ≤ 5000 ∧ Bits r0
def m_keep_BitsBurst_0 (_t1 _t2 : Int) (_t3 : List Int) (_t15 : Int) (_t16 : Bool) (t17 : Int) (_r0 : List Int) : Nat := (24 - t17).toNat
def o_keep_BitsBurst_0 (t1 t2 : Int) (t3 : List Int) (t15 : Int) (t16 : Bool) (t17 : Int) (r0 : List Int) (K : AExit → St → Prop) : Prop := X_keep_BitsBurst_0_0 t1 (goB t3 t2 (min t3.length t15.toNat - t17.toNat) t17.toNat t16 r0).1 (goB t3 t2 (min t3.length t15.toNat - t17.toNat) t17.toNat t16 r0).2 K
end Go.Spec
