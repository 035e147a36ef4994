/- Lines for the functions of this seat; merged from texts of their own. -/
import Derived.Test.YtefajmghpgiekaaEC
import Derived.Test.YtefajmghpgiekaaP1
import Derived.Test.YtefajmghpgiekaaLF
set_option linter.unusedVariables false
set_option linter.unusedSimpArgs false
/- Plain facts: whose turn it is, and that it is fair. -/
namespace Go.Spec
open Go Go.Lift
def usersF : Int → List Int → List UU
  | _, [] => []
  | p, f :: fs => (p + 1, 1000000, f, ()) :: usersF (p + 1) fs
theorem usersF_length : ∀ (fs : List Int) (p : Int), (usersF p fs).length = fs.length
  | [], _ => rfl
  | f :: fs, p => by simp only [usersF, List.length_cons, usersF_length fs]
def fitB (f : Int) : Bool := decide (1 ≤ f) && decide (f ≤ 10000)
theorem fitB_ok {f : Int} (h : fitB f = true) : 1 ≤ f ∧ f ≤ 10000 := by
  unfold fitB at h; simpa using h
theorem usersF_ok : ∀ (fs : List Int) (p : Int), 0 ≤ p → p + fs.length ≤ 16 → fs.all fitB = true → usersOK p (usersF p fs) = true
  | [], _, _, _, _ => rfl
  | f :: fs, p, hp, hl, h => by
    rw [List.all_cons, Bool.and_eq_true] at h
    obtain ⟨f1, f2⟩ := fitB_ok h.1
    rw [List.length_cons] at hl
    rw [usersF, usersOK_cons]
    refine ⟨?_, usersF_ok fs (p + 1) (by omega) (by push_cast at hl; omega) h.2⟩
    unfold userB
    simp only [Bool.and_eq_true, decide_eq_true_eq]
    push_cast at hl
    omega
theorem usersF_getD : ∀ (fs : List Int) (p : Int) (k : Nat), k < fs.length → (usersF p fs).getD k u0 = (p + 1 + k, 1000000, fs.getD k 0, ())
  | [], _, _, h => by cases h
  | f :: fs, p, k, h => by
    cases k with
    | zero => show (p + 1, (1000000 : Int), f, ()) = _; simp
    | succ k =>
      show (usersF (p + 1) fs).getD k u0 = _
      rw [usersF_getD fs (p + 1) k (by simpa using h)]
      show ((p + 1 + 1 + (k : Int), (1000000 : Int), fs.getD k 0, ()) : UU) = (p + 1 + ((k + 1 : Nat) : Int), 1000000, fs.getD k 0, ())
      rw [show p + 1 + 1 + (k : Int) = p + 1 + ((k + 1 : Nat) : Int) by push_cast; omega]
/-- the table of these users -/
theorem tabF {fs : List Int} (hl : fs.length ≤ 16) (h : fs.all fitB = true) (i : Nat) (h1 : 1 ≤ i) (h2 : i ≤ fs.length) : (tabU tab00 (usersF 0 fs)).getD i u0 = ((i : Int), 1000000, fs.getD (i - 1) 0, ()) := by
  have hu := usersF_ok fs 0 (by decide) (by omega) h
  have := tab_at (usersF 0 fs) tab00 0 (i - 1) hu (by decide) rfl (by rw [usersF_length]; omega)
  rw [usersF_getD fs 0 (i - 1) (by omega)] at this
  simp only at this
  rw [show (0 + 1 + ((i - 1 : Nat) : Int)).toNat = i by omega] at this
  rw [this, show (0 : Int) + 1 + ((i - 1 : Nat) : Int) = (i : Int) by omega]
theorem tabF_no {fs : List Int} (hl : fs.length ≤ 16) (h : fs.all fitB = true) (i : Nat) (h1 : i = 0 ∨ fs.length < i) : ((tabU tab00 (usersF 0 fs)).getD i u0).2.1 = 0 := by
  have hu := usersF_ok fs 0 (by decide) (by omega) h
  rw [tab_none _ tab00 0 i hu (by decide) rfl, tab00_getD]; rfl
  intro u hu' he
  obtain ⟨k, hk, rfl⟩ := mem_getD hu'
  rw [usersF_length] at hk
  rw [usersF_getD fs 0 k hk] at he
  simp only at he
  omega
/-- what is given, block after block -/
theorem give_fair {blocks : Nat} (hb63 : blocks ≤ 63) (w f : Int) (hf : 1 ≤ f) (hf2 : f ≤ 10000) : ∀ (n a : Nat) (b c : Int) (out : List Int), 1000000 - 10000 * (a : Int) ≤ b → a ≤ blocks → n = blocks - a → out.length = blocks →
    ∃ d : Nat, (give blocks w f n a b c out).1 = a + d ∧ 1000000 - 10000 * ((a + d : Nat) : Int) ≤ (give blocks w f n a b c out).2.1 ∧ (give blocks w f n a b c out).2.2.1 = c - f * d ∧ (d ≤ c.toNat) ∧
      (give blocks w f n a b c out).2.2.2.take (a + d) = out.take a ++ List.replicate d w ∧ (a + d = blocks ∨ (give blocks w f n a b c out).2.2.1 < f) ∧ (0 ≤ c → 0 ≤ c - f * d)
  | 0, a, b, c, out, hb, ha, hn, hl => by
    rw [give]
    exact ⟨0, rfl, by simpa using hb, by simp, Nat.zero_le _, by simp, .inl (by omega), by simp⟩
  | n + 1, a, b, c, out, hb, ha, hn, hl => by
    rw [give]
    by_cases h : a < blocks ∧ b > 0 ∧ c ≥ f
    · rw [if_pos h]
      have hls : lesser true (b - f) 0 = b - f := by rw [lesser_t, if_neg (by omega)]
      rw [hls]
      obtain ⟨d, e1, e2, e3, e4, e5, e6, e7⟩ := give_fair hb63 w f hf hf2 n (a + 1) (b - f) (c - f) (out.set a w) (by push_cast; omega) (by omega) (by omega) (by rw [List.length_set]; exact hl)
      have hfd : f * ((d + 1 : Nat) : Int) = f * (d : Int) + f := by push_cast; rw [Int.mul_add, Int.mul_one]
      refine ⟨d + 1, by omega, ?_, by rw [hfd]; omega, by omega, ?_, ?_, fun _ => by have := e7 (by omega); rw [hfd]; omega⟩
      · rw [show a + (d + 1) = a + 1 + d by omega]; exact e2
      · rw [show a + (d + 1) = a + 1 + d by omega, e5, List.take_add_one, List.take_set_of_le (Nat.le_refl _)]
        rw [List.getElem?_set_self (by omega)]
        simp [List.replicate_succ]
      · rcases e6 with e6 | e6
        · exact .inl (by omega)
        · exact .inr e6
    · rw [if_neg h]
      refine ⟨0, rfl, by simpa using hb, by simp, Nat.zero_le _, by simp, ?_, by simp⟩
      show a + 0 = blocks ∨ c < f
      omega
end Go.Spec
/- Plain facts: the turns are fair. -/
namespace Go.Spec
open Go Go.Lift
def cle (i : Nat) (x : Int) : Int := if (i : Int) ≤ x then 1 else 0
structure FI (q : Int) (fs : List Int) (t : TT) (G : Nat → Int) (R : Int) : Prop where
  qt : t.1 = q
  sum : ∀ i : Nat, 1 ≤ i → i ≤ fs.length → G i + t.2.2.2.1.getD i 0 = q * (R + cle i t.2.1)
  cb : ∀ i : Nat, 1 ≤ i → i ≤ fs.length → 0 ≤ t.2.2.2.1.getD i 0 ∧ t.2.2.2.1.getD i 0 < fs.getD (i - 1) 0 + (if t.2.2.1 = true ∧ (i : Int) = t.2.1 then q else 0)
  op : t.2.2.1 = true → t.2.1 ≤ fs.length
def Gof (G0 : Nat → Int) (fs : List Int) (l : List Int) (i : Nat) : Int := G0 i + fs.getD (i - 1) 0 * (l.count (i : Int) : Int)
structure FS (blocks : Nat) (q : Int) (fs : List Int) (G0 : Nat → Int) (s : SS) (R : Int) : Prop where
  it : IT blocks s
  ub : ∀ i : Nat, 1 ≤ i → i ≤ fs.length → (s.2.1.getD i u0).2.2.1 = fs.getD (i - 1) 0 ∧ 1000000 - 10000 * (s.2.2.2 : Int) ≤ (s.2.1.getD i u0).2.1
  no : ∀ i : Nat, i = 0 ∨ fs.length < i → (s.2.1.getD i u0).2.1 = 0
  outs : ∀ x ∈ s.2.2.1.take s.2.2.2, 1 ≤ x ∧ x ≤ fs.length
  fi : FI q fs s.1 (Gof G0 fs (s.2.2.1.take s.2.2.2)) R
theorem fit_at {fs : List Int} (h : fs.all fitB = true) (i : Nat) (h1 : 1 ≤ i) (h2 : i ≤ fs.length) : 1 ≤ fs.getD (i - 1) 0 ∧ fs.getD (i - 1) 0 ≤ 10000 := by
  have hm : fs.getD (i - 1) 0 ∈ fs := by
    rw [List.getD_eq_getElem?_getD, List.getElem?_eq_getElem (by omega : i - 1 < fs.length)]; exact List.getElem_mem _
  exact fitB_ok (List.all_eq_true.1 h _ hm)
theorem FS_step {blocks : Nat} (hb63 : blocks ≤ 63) {q : Int} (hq : 1 ≤ q) {fs : List Int} (hn1 : 1 ≤ fs.length) (hn : fs.length ≤ 16) (hfs : fs.all fitB = true) {G0 : Nat → Int} {s : SS} {R : Int} (h : FS blocks q fs G0 s R) (hg : goes blocks s = true) : ∃ R', FS blocks q fs G0 (stepT blocks s) R' := by
  have hI := stepT_ok h.it hg
  obtain ⟨w1, w2⟩ := wOf_bd h.it.t
  obtain ⟨c1, c2⟩ := start_cr h.it.t
  have hlen := h.it.t.len
  have hnl := h.it.nl
  have hol := h.it.ol
  have hal := h.it.al
  have l1 := h.it.t.l1
  have l2 := h.it.t.l2
  have hqt := h.fi.qt
  -- what the sums are, the turn come on
  have hR : ∃ R' : Int, (∀ i : Nat, 1 ≤ i → i ≤ fs.length → (i : Int) ≠ wOf s.1 → R + cle i s.1.2.1 = R' + cle i (wOf s.1)) ∧ (s.1.2.2.1 = true → R' = R) ∧ (s.1.2.2.1 ≠ true → ∀ i : Nat, (i : Int) = wOf s.1 → 1 ≤ i → i ≤ fs.length → R + cle i s.1.2.1 + 1 = R' + cle i (wOf s.1)) := by
    by_cases ho : s.1.2.2.1 = true
    · have hw : wOf s.1 = s.1.2.1 := by unfold wOf; rw [if_pos ho]
      exact ⟨R, fun i _ _ _ => by rw [hw], fun _ => rfl, fun h => (h ho).elim⟩
    · have hw : wOf s.1 = s.1.2.1 % 16 + 1 := by unfold wOf; rw [if_neg ho]
      by_cases h16 : s.1.2.1 = 16
      · refine ⟨R + 1, fun i i1 i2 i3 => ?_, fun h => (ho h).elim, fun _ i i3 i1 i2 => ?_⟩ <;> rw [hw, h16] at * <;> unfold cle
        · rw [if_pos (by omega), if_neg (by omega)]; omega
        · rw [if_pos (by omega), if_pos (by omega)]
      · refine ⟨R, fun i i1 i2 i3 => ?_, fun h => (ho h).elim, fun _ i i3 i1 i2 => ?_⟩ <;> rw [hw] at * <;> unfold cle
        · by_cases hle : (i : Int) ≤ s.1.2.1
          · rw [if_pos hle, if_pos (by omega)]
          · rw [if_neg hle, if_neg (by omega)]
        · rw [if_neg (by omega), if_pos (by omega)]
          omega
  obtain ⟨R', r1, r2, r3⟩ := hR
  refine ⟨R', ?_⟩
  revert hI
  unfold stepT
  simp only
  by_cases hz : (s.2.1.getD (wOf s.1).toNat u0).2.1 = 0
  · rw [if_pos hz]
    intro hI
    -- nobody of that number waits
    have hwn : ¬ (wOf s.1 ≤ fs.length) := by
      intro hle
      have := (h.ub (wOf s.1).toNat (by omega) (by omega)).2
      rw [hz] at this
      omega
    refine ⟨hI, h.ub, h.no, h.outs, ⟨hqt, fun i i1 i2 => ?_, fun i i1 i2 => ?_, fun h => by cases h⟩⟩
    · simp only
      rw [gset' (by omega), if_neg (by omega), ← r1 i i1 i2 (by omega)]
      exact h.fi.sum i i1 i2
    · simp only
      rw [gset' (by omega), if_neg (by omega), if_neg (by simp)]
      have := h.fi.cb i i1 i2
      by_cases ho : s.1.2.2.1 = true
      · have hw : wOf s.1 = s.1.2.1 := by unfold wOf; rw [if_pos ho]
        rw [if_neg (by rintro ⟨_, h2⟩; omega)] at this
        exact this
      · rw [if_neg (fun h => ho h.1)] at this
        exact this
  · rw [if_neg hz]
    have hwle : wOf s.1 ≤ fs.length := by
      rcases Int.lt_or_le (fs.length : Int) (wOf s.1) with hlt | hle
      · exact (hz (h.no _ (.inr (by omega)))).elim
      · exact hle
    obtain ⟨k, hk⟩ := Int.eq_ofNat_of_zero_le (show 0 ≤ wOf s.1 by omega)
    have hkn : (wOf s.1).toNat = k := by omega
    have k1 : 1 ≤ k := by omega
    have k2 : k ≤ fs.length := by omega
    obtain ⟨hf, hbb⟩ := h.ub k k1 k2
    obtain ⟨f1, f2⟩ := fit_at hfs k k1 k2
    rw [hkn] at *
    rw [hf] at *
    obtain ⟨d, e1, e2, e3, e4, e5, e6, e7⟩ := give_fair hb63 (wOf s.1) _ f1 f2 (blocks - s.2.2.2) s.2.2.2 (s.2.1.getD k u0).2.1 (s.1.2.2.2.1.getD k 0 + gOf s.1) s.2.2.1 hbb hal rfl hol
    have hgw : ∀ a b c o, give blocks (wOf s.1) (fs.getD (k - 1) 0) (blocks - a) a b c o = giveW blocks (wOf s.1) (fs.getD (k - 1) 0) a b c o := fun _ _ _ _ => rfl
    rw [hgw] at e1 e2 e3 e5 e6
    have c1' : 0 ≤ s.1.2.2.2.1.getD k 0 + gOf s.1 := by
      have hk2 : (wOf s.1).toNat = k := by omega
      rw [hk2] at c1; exact c1
    have gf := (giveW_facts blocks (wOf s.1) _ f1 s.2.2.2 (s.2.1.getD k u0).2.1 (s.1.2.2.2.1.getD k 0 + gOf s.1) s.2.2.1 (by have := (h.it.nb k (by omega)).1; exact this) c1' hal).2.1
    generalize giveW blocks (wOf s.1) (fs.getD (k - 1) 0) s.2.2.2 (s.2.1.getD k u0).2.1 (s.1.2.2.2.1.getD k 0 + gOf s.1) s.2.2.1 = rr at *
    obtain ⟨ra, rb, rc, ro⟩ := rr
    simp only at e1 e2 e3 e5 e6 ⊢
    subst e1
    have had : s.2.2.2 + d ≤ blocks := gf
    rw [if_neg (by omega)]
    intro hI
    refine ⟨hI, fun i i1 i2 => ?_, fun i hi => ?_, fun x hx => ?_, ⟨hqt, fun i i1 i2 => ?_, fun i i1 i2 => ?_, fun _ => by show wOf s.1 ≤ _; exact hwle⟩⟩
    · simp only
      rw [gset' (by omega)]
      by_cases hik : k = i
      · subst hik; rw [if_pos rfl]; exact ⟨rfl, e2⟩
      · rw [if_neg hik]
        have := h.ub i i1 i2
        exact ⟨this.1, by push_cast; omega⟩
    · simp only
      rw [gset' (by omega), if_neg (by omega)]
      exact h.no i hi
    · simp only at hx
      rw [e5] at hx
      rcases List.mem_append.1 hx with hx | hx
      · exact h.outs x hx
      · have := (List.mem_replicate.1 hx).2
        omega
    · simp only
      have hs := h.fi.sum i i1 i2
      unfold Gof at hs ⊢
      rw [e5, List.count_append, List.count_replicate, gset' (by omega)]
      by_cases hik : k = i
      · subst hik
        rw [if_pos rfl, if_pos (by rw [hk]; simp), e3]
        push_cast
        rw [Int.mul_add]
        by_cases ho : s.1.2.2.1 = true
        · have hw : wOf s.1 = s.1.2.1 := by unfold wOf; rw [if_pos ho]
          rw [r2 ho, hw, ← hs]
          unfold gOf
          rw [if_pos ho]; omega
        · have := r3 ho k hk.symm k1 k2
          rw [← this, Int.mul_add, Int.mul_one, ← hs]
          unfold gOf
          rw [if_neg ho]; omega
      · rw [if_neg hik, if_neg (by rw [hk]; simp; omega), ← r1 i i1 i2 (by omega), ← hs]
        push_cast
        rw [Int.add_zero]
    · simp only
      rw [gset' (by omega)]
      have hc := h.fi.cb i i1 i2
      by_cases hik : k = i
      · subst hik
        rw [if_pos rfl]
        have hcw := h.fi.cb k k1 k2
        have h0 := e7 (by
          have := hcw.1
          have := h.it.t.q1
          unfold gOf; split <;> omega)
        refine ⟨by omega, ?_⟩
        by_cases hop : rc ≥ fs.getD (k - 1) 0
        · rw [if_pos ⟨decide_eq_true hop, hk.symm⟩]
          have hfd : 0 ≤ fs.getD (k - 1) 0 * (d : Int) := Int.mul_nonneg (by omega) (by omega)
          rw [e3]
          by_cases ho : s.1.2.2.1 = true
          · have hw : wOf s.1 = s.1.2.1 := by unfold wOf; rw [if_pos ho]
            rw [if_pos ⟨ho, by omega⟩] at hcw
            unfold gOf
            rw [if_pos ho]; omega
          · rw [if_neg (fun h => ho h.1)] at hcw
            unfold gOf
            rw [if_neg ho]; omega
        · rw [if_neg (by rintro ⟨h1, _⟩; exact hop (of_decide_eq_true h1))]
          omega
      · rw [if_neg hik, if_neg (by rintro ⟨_, h2⟩; omega)]
        refine ⟨hc.1, ?_⟩
        have hc2 := hc.2
        by_cases ho : s.1.2.2.1 = true
        · have hw : wOf s.1 = s.1.2.1 := by unfold wOf; rw [if_pos ho]
          rw [if_neg (by rintro ⟨_, h2⟩; omega)] at hc2
          exact hc2
        · rw [if_neg (fun h => ho h.1)] at hc2
          exact hc2
end Go.Spec
/- Plain facts: the turns are fair, a slot and all. -/
namespace Go.Spec
open Go Go.Lift
theorem i64_def (n : Int) : IntKind.i64.wrap n = (n + 9223372036854775808) % 18446744073709551616 - 9223372036854775808 := by
  rw [IntKind.wrap_i64]
theorem w_add (x y : Int) : IntKind.wrap IntKind.i64 (IntKind.wrap IntKind.i64 x + y) = IntKind.wrap IntKind.i64 (x + y) := by
  simp only [i64_def]; omega
theorem w_sub (x y : Int) : IntKind.wrap IntKind.i64 (IntKind.wrap IntKind.i64 x - IntKind.wrap IntKind.i64 y) = IntKind.wrap IntKind.i64 (x - y) := by
  simp only [i64_def]; omega
theorem slotRun_end {blocks : Nat} (f : Nat) : ∀ s, IT blocks s → meas blocks s ≤ f → goes blocks (slotRun blocks f s) = false := by
  induction f with
  | zero =>
    intro s h hm
    rw [slotRun]
    cases hg : goes blocks s with
    | false => rfl
    | true => have := stepT_less h hg; omega
  | succ f ih =>
    intro s h hm
    rw [slotRun]
    by_cases hg : goes blocks s = true
    · rw [if_pos hg]
      have := stepT_less h hg
      exact ih _ (stepT_ok h hg) (by omega)
    · rw [if_neg hg]; simpa using hg
theorem slotRun_fair {blocks : Nat} (hb63 : blocks ≤ 63) {q : Int} (hq : 1 ≤ q) {fs : List Int} (hn1 : 1 ≤ fs.length) (hn : fs.length ≤ 16) (hfs : fs.all fitB = true) {G0 : Nat → Int} (f : Nat) : ∀ (s : SS) (R : Int), FS blocks q fs G0 s R → ∃ R', FS blocks q fs G0 (slotRun blocks f s) R' := by
  induction f with
  | zero => intro s R h; exact ⟨R, h⟩
  | succ f ih =>
    intro s R h
    rw [slotRun]
    by_cases hg : goes blocks s = true
    · rw [if_pos hg]
      obtain ⟨R', h'⟩ := FS_step hb63 hq hn1 hn hfs h hg
      exact ih _ R' h'
    · rw [if_neg hg]; exact ⟨R, h⟩
theorem Gof_nil (G : Nat → Int) (fs : List Int) (i : Nat) : Gof G fs [] i = G i := by
  unfold Gof; simp
theorem FI.congr {q : Int} {fs : List Int} {t : TT} {G G' : Nat → Int} {R : Int} (h : FI q fs t G R) (e : ∀ i, G' i = G i) : FI q fs t G' R := ⟨h.qt, fun i i1 i2 => by rw [e]; exact h.sum i i1 i2, h.cb, h.op⟩
/-- a slot of these users -/
theorem slot_fair {blocks : Nat} (hb63 : blocks ≤ 63) {q : Int} (hq : 1 ≤ q) {fs : List Int} (hn1 : 1 ≤ fs.length) (hn : fs.length ≤ 16) (hfs : fs.all fitB = true) {G : Nat → Int} {t : TT} (ht : tOK t) {R : Int} (h : FI q fs t G R) :
    ∃ R', FI q fs (slotS t (usersF 0 fs) blocks).1 (Gof G fs (slotS t (usersF 0 fs) blocks).2.2.1) R' ∧ (∀ x ∈ (slotS t (usersF 0 fs) blocks).2.2.1, 1 ≤ x ∧ x ≤ fs.length) := by
  have hu := usersF_ok fs 0 (by decide) (by omega) hfs
  have hI := IT_start ht hu blocks
  have h0 : FS blocks q fs G (t, tabU tab00 (usersF 0 fs), List.replicate blocks 0, 0) R := by
    refine ⟨hI, fun i i1 i2 => ?_, fun i hi => tabF_no hn hfs i hi, fun x hx => (by simp at hx), ?_⟩
    · simp only
      rw [tabF hn hfs i i1 i2]
      exact ⟨rfl, by show (1000000 : Int) - 10000 * ((0 : Nat) : Int) ≤ 1000000; omega⟩
    · exact h.congr fun i => by simp only [List.take_zero]; exact Gof_nil G fs i
  obtain ⟨R', hS⟩ := slotRun_fair hb63 hq hn1 hn hfs (meas blocks (t, tabU tab00 (usersF 0 fs), List.replicate blocks 0, 0)) _ R h0
  have hE := slotRun_end (blocks := blocks) (meas blocks (t, tabU tab00 (usersF 0 fs), List.replicate blocks 0, 0)) _ hI (Nat.le_refl _)
  change FS blocks q fs G (slotS t (usersF 0 fs) blocks) R' at hS
  change goes blocks (slotS t (usersF 0 fs) blocks) = false at hE
  generalize slotS t (usersF 0 fs) blocks = S at *
  have hal := hS.it.al
  have hol := hS.it.ol
  have hw : 0 < wcnt S.2.1 := by
    unfold wcnt
    rw [List.countP_pos_iff]
    have hm := getD_memU (l := S.2.1) (k := 1) (by rw [hS.it.nl]; decide)
    refine ⟨_, hm, ?_⟩
    have := (hS.ub 1 (by decide) hn1).2
    unfold waits
    exact decide_eq_true (by omega)
  have hat : S.2.2.2 = blocks := by
    unfold goes at hE
    rw [decide_eq_true hw, Bool.and_true] at hE
    have := of_decide_eq_false hE
    omega
  have htk : S.2.2.1.take S.2.2.2 = S.2.2.1 := List.take_of_length_le (by omega)
  have h1 := hS.fi
  have h2 := hS.outs
  rw [htk] at h1 h2
  exact ⟨R', h1, h2⟩
theorem fair_pair {q : Int} (hq : 1 ≤ q) {fs : List Int} {t : TT} {G : Nat → Int} {R great : Int} (h : FI q fs t G R) (hgr : ∀ i : Nat, 1 ≤ i → i ≤ fs.length → fs.getD (i - 1) 0 ≤ great) (hg0 : 0 ≤ great) (a b : Nat) (a1 : 1 ≤ a) (a2 : a ≤ fs.length) (b1 : 1 ≤ b) (b2 : b ≤ fs.length) : G a - G b ≤ q + great := by
  have ha := h.sum a a1 a2
  have hb := h.sum b b1 b2
  have hca := (h.cb a a1 a2).1
  have hcb := (h.cb b b1 b2).2
  have hgb := hgr b b1 b2
  rw [Int.mul_add] at ha hb
  generalize q * R = m at *
  have hcl : ∀ i : Nat, q * cle i t.2.1 = if (i : Int) ≤ t.2.1 then q else 0 := by
    intro i; unfold cle; split <;> omega
  rw [hcl] at ha hb
  by_cases hop : t.2.2.1 = true ∧ (b : Int) = t.2.1
  · rw [if_pos hop] at hcb
    rw [if_pos (by omega)] at hb
    split at ha <;> omega
  · rw [if_neg hop] at hcb
    split at ha <;> split at hb <;> omega
theorem fair_credit {q : Int} {fs : List Int} (hfs : fs.all fitB = true) (hq : 1 ≤ q) {t : TT} {G : Nat → Int} {R : Int} (h : FI q fs t G R) (a : Nat) (a1 : 1 ≤ a) (a2 : a ≤ fs.length) : 0 ≤ t.2.2.2.1.getD a 0 ∧ t.2.2.2.1.getD a 0 < q + 10000 := by
  have hc := h.cb a a1 a2
  have hf := fit_at hfs a a1 a2
  refine ⟨hc.1, ?_⟩
  have := hc.2
  split at this <;> omega
theorem newT_fair {q : Int} (fs : List Int) (hfs : fs.all fitB = true) (hn : fs.length ≤ 16) : FI q fs (newT q) (fun _ => 0) 0 := by
  have h0 : ∀ i : Nat, (List.replicate 17 (0 : Int)).getD i 0 = 0 := fun i => by
    rw [List.getD_eq_getElem?_getD, List.getElem?_replicate]; split <;> rfl
  refine ⟨rfl, fun i i1 i2 => ?_, fun i i1 i2 => ?_, fun h => by cases h⟩
  · show 0 + (List.replicate 17 (0 : Int)).getD i 0 = q * (0 + cle i 0)
    rw [h0]; unfold cle; rw [if_neg (by omega)]; simp
  · show 0 ≤ (List.replicate 17 (0 : Int)).getD i 0 ∧ (List.replicate 17 (0 : Int)).getD i 0 < fs.getD (i - 1) 0 + (if false = true ∧ (i : Int) = 0 then q else 0)
    have := fit_at hfs i i1 i2
    rw [h0, if_neg (by simp)]; omega
def addG (fits : List Int) : List Int → List Int → List Int
  | r, [] => r
  | r, w :: ws => addG fits (r.set w.toNat (IntKind.wrap IntKind.i64 (r.getD w.toNat 0 + fits.getD (IntKind.wrap IntKind.i64 (w - 1)).toNat 0))) ws
theorem addG_length (fits : List Int) : ∀ (ws r : List Int), (addG fits r ws).length = r.length
  | [], r => rfl
  | w :: ws, r => by rw [addG, addG_length fits ws, List.length_set]
theorem addG_ok (fits fs : List Int) (hfit : ∀ i : Nat, 1 ≤ i → i ≤ fs.length → fits.getD (i - 1) 0 = fs.getD (i - 1) 0) (hn : fs.length ≤ 16) : ∀ (ws r : List Int) (G : Nat → Int), r.length = 17 → (∀ x ∈ ws, 1 ≤ x ∧ x ≤ fs.length) →
    (∀ i : Nat, 1 ≤ i → i ≤ fs.length → r.getD i 0 = IntKind.wrap IntKind.i64 (G i)) → ∀ i : Nat, 1 ≤ i → i ≤ fs.length → (addG fits r ws).getD i 0 = IntKind.wrap IntKind.i64 (Gof G fs ws i)
  | [], r, G, hl, _, h, i, i1, i2 => by rw [Gof_nil]; exact h i i1 i2
  | w :: ws, r, G, hl, hws, h, i, i1, i2 => by
    have hw := hws w (List.mem_cons_self)
    rw [addG]
    have hw1 : IntKind.wrap IntKind.i64 (w - 1) = w - 1 := i64w (by omega)
    have := addG_ok fits fs hfit hn ws (r.set w.toNat (IntKind.wrap IntKind.i64 (r.getD w.toNat 0 + fits.getD (IntKind.wrap IntKind.i64 (w - 1)).toNat 0))) (fun j => G j + fs.getD (j - 1) 0 * (if (j : Int) = w then 1 else 0)) (by rw [List.length_set]; exact hl) (fun x hx => hws x (List.mem_cons_of_mem _ hx)) (fun j j1 j2 => by
      rw [gset' (by omega)]
      by_cases hj : w.toNat = j
      · rw [if_pos hj, if_pos (by omega), hj, h j j1 j2, w_add, hw1, show (w - 1).toNat = j - 1 by omega, hfit j j1 j2, Int.mul_one]
      · rw [if_neg hj, if_neg (by omega), h j j1 j2, Int.mul_zero, Int.add_zero]) i i1 i2
    rw [this]
    congr 1
    unfold Gof
    simp only
    rw [List.count_cons]
    by_cases hi : (i : Int) = w
    · rw [if_pos hi, if_pos (by rw [hi]; simp)]
      push_cast
      rw [Int.mul_add, Int.mul_one]; omega
    · rw [if_neg hi, if_neg (by simp; omega)]
      push_cast
      rw [Int.mul_zero, Int.add_zero, Int.add_zero]
end Go.Spec
namespace Go.Spec
open Go Go.Lift
def X_keep_TurnsFair_0_0 (t0 : Int) (t1 : (List Int)) (t2 : (List Int)) (t6 : Bool) (t10 : Int) (r0 : (Option (Int × (Int × (Bool × ((List Int) × Unit)))))) (r1 : (List (Int × (Int × (Int × Unit))))) (K : AExit → St → Prop) : Prop := K .ret ⟨.s (.val (.int .i64) t0) :: (.s (.val (.ro (.int .i64)) t1) :: (.s (.val (.ro (.int .i64)) t2) :: (un 3 ++ (.s (.val .bool t6) :: (.s (.addr 0 []) :: (un 1 ++ (.s (.sl 1) :: (.s (.val (.int .i64) t10) :: (un 161))))))))), [(0, .obox (.pair (.int .i64) (.pair (.int .i64) (.pair .bool (.pair (.arr 17 (.int .i64)) .unit)))) r0), (1, .row (.pair (.int .i64) (.pair (.int .i64) (.pair (.int .i64) .unit))) r1)], 2⟩
def X_keep_TurnsFair_0_1 (t0 : Int) (t1 : (List Int)) (t2 : (List Int)) (t10 : Int) (r0 : (Option (Int × (Int × (Bool × ((List Int) × Unit)))))) (r1 : (List (Int × (Int × (Int × Unit))))) (K : AExit → St → Prop) : Prop := K (.exit 0) ⟨.s (.val (.int .i64) t0) :: (.s (.val (.ro (.int .i64)) t1) :: (.s (.val (.ro (.int .i64)) t2) :: (un 4 ++ (.s (.addr 0 []) :: (un 1 ++ (.s (.sl 1) :: (.s (.val (.int .i64) t10) :: (un 161)))))))), [(0, .obox (.pair (.int .i64) (.pair (.int .i64) (.pair .bool (.pair (.arr 17 (.int .i64)) .unit)))) r0), (1, .row (.pair (.int .i64) (.pair (.int .i64) (.pair (.int .i64) .unit))) r1)], 2⟩
def X_keep_TurnsFair_2_0 (t6 : Bool) (K : AExit → St → Prop) : Prop := K .ret ⟨un 6 ++ (.s (.val .bool t6) :: (un 165)), [], 0⟩
def X_keep_TurnsFair_2_1  (K : AExit → St → Prop) : Prop := K (.exit 2) ⟨un 172, [], 0⟩
def X_keep_TurnsFair_4_0 (t0 : Int) (t1 : (List Int)) (t2 : (List Int)) (t6 : Bool) (t10 : Int) (t13 : Int) (r0 : (Int × (Int × (Bool × ((List Int) × Unit))))) (r1 : (List (Int × (Int × (Int × Unit))))) (r2 : (List Int)) (K : AExit → St → Prop) : Prop := K .ret ⟨.s (.val (.int .i64) t0) :: (.s (.val (.ro (.int .i64)) t1) :: (.s (.val (.ro (.int .i64)) t2) :: (un 3 ++ (.s (.val .bool t6) :: (.s (.addr 0 []) :: (un 1 ++ (.s (.sl 1) :: (.s (.val (.int .i64) t10) :: (un 1 ++ (.s (.addr 2 []) :: (.s (.val (.int .i64) t13) :: (un 158)))))))))))), [(0, .box (.pair (.int .i64) (.pair (.int .i64) (.pair .bool (.pair (.arr 17 (.int .i64)) .unit)))) r0), (1, .row (.pair (.int .i64) (.pair (.int .i64) (.pair (.int .i64) .unit))) r1), (2, .box (.arr 17 (.int .i64)) r2)], 3⟩
def X_keep_TurnsFair_4_1 (t0 : Int) (t1 : (List Int)) (t2 : (List Int)) (t10 : Int) (t13 : Int) (r0 : (Int × (Int × (Bool × ((List Int) × Unit))))) (r1 : (List (Int × (Int × (Int × Unit))))) (r2 : (List Int)) (K : AExit → St → Prop) : Prop := K (.exit 4) ⟨.s (.val (.int .i64) t0) :: (.s (.val (.ro (.int .i64)) t1) :: (.s (.val (.ro (.int .i64)) t2) :: (un 4 ++ (.s (.addr 0 []) :: (un 1 ++ (.s (.sl 1) :: (.s (.val (.int .i64) t10) :: (un 1 ++ (.s (.addr 2 []) :: (.s (.val (.int .i64) t13) :: (un 158))))))))))), [(0, .box (.pair (.int .i64) (.pair (.int .i64) (.pair .bool (.pair (.arr 17 (.int .i64)) .unit)))) r0), (1, .row (.pair (.int .i64) (.pair (.int .i64) (.pair (.int .i64) .unit))) r1), (2, .box (.arr 17 (.int .i64)) r2)], 3⟩
def X_keep_TurnsFair_6_0 (t0 : Int) (t1 : (List Int)) (t2 : (List Int)) (t6 : Bool) (t10 : Int) (t13 : Int) (r0 : (Int × (Int × (Bool × ((List Int) × Unit))))) (r1 : (List (Int × (Int × (Int × Unit))))) (r2 : (List Int)) (K : AExit → St → Prop) : Prop := K .ret ⟨.s (.val (.int .i64) t0) :: (.s (.val (.ro (.int .i64)) t1) :: (.s (.val (.ro (.int .i64)) t2) :: (un 3 ++ (.s (.val .bool t6) :: (.s (.addr 0 []) :: (un 1 ++ (.s (.sl 1) :: (.s (.val (.int .i64) t10) :: (un 1 ++ (.s (.addr 2 []) :: (.s (.val (.int .i64) t13) :: (un 158)))))))))))), [(0, .box (.pair (.int .i64) (.pair (.int .i64) (.pair .bool (.pair (.arr 17 (.int .i64)) .unit)))) r0), (1, .row (.pair (.int .i64) (.pair (.int .i64) (.pair (.int .i64) .unit))) r1), (2, .box (.arr 17 (.int .i64)) r2)], 3⟩
def X_keep_TurnsFair_6_1 (t0 : Int) (t1 : (List Int)) (t2 : (List Int)) (t10 : Int) (t13 : Int) (r0 : (Int × (Int × (Bool × ((List Int) × Unit))))) (r1 : (List (Int × (Int × (Int × Unit))))) (r2 : (List Int)) (K : AExit → St → Prop) : Prop := K (.exit 6) ⟨.s (.val (.int .i64) t0) :: (.s (.val (.ro (.int .i64)) t1) :: (.s (.val (.ro (.int .i64)) t2) :: (un 4 ++ (.s (.addr 0 []) :: (un 1 ++ (.s (.sl 1) :: (.s (.val (.int .i64) t10) :: (un 1 ++ (.s (.addr 2 []) :: (.s (.val (.int .i64) t13) :: (un 158))))))))))), [(0, .box (.pair (.int .i64) (.pair (.int .i64) (.pair .bool (.pair (.arr 17 (.int .i64)) .unit)))) r0), (1, .row (.pair (.int .i64) (.pair (.int .i64) (.pair (.int .i64) .unit))) r1), (2, .box (.arr 17 (.int .i64)) r2)], 3⟩
def X_keep_TurnsFair_8_0 (t0 : Int) (t1 : (List Int)) (t2 : (List Int)) (t6 : Bool) (t10 : Int) (t13 : Int) (t18 : Int) (r0 : (Int × (Int × (Bool × ((List Int) × Unit))))) (r1 : (List (Int × (Int × (Int × Unit))))) (r2 : (List Int)) (K : AExit → St → Prop) : Prop := K .ret ⟨.s (.val (.int .i64) t0) :: (.s (.val (.ro (.int .i64)) t1) :: (.s (.val (.ro (.int .i64)) t2) :: (un 3 ++ (.s (.val .bool t6) :: (.s (.addr 0 []) :: (un 1 ++ (.s (.sl 1) :: (.s (.val (.int .i64) t10) :: (un 1 ++ (.s (.addr 2 []) :: (.s (.val (.int .i64) t13) :: (un 4 ++ (.s (.val (.int .i64) t18) :: (un 153)))))))))))))), [(0, .box (.pair (.int .i64) (.pair (.int .i64) (.pair .bool (.pair (.arr 17 (.int .i64)) .unit)))) r0), (1, .row (.pair (.int .i64) (.pair (.int .i64) (.pair (.int .i64) .unit))) r1), (2, .box (.arr 17 (.int .i64)) r2)], 3⟩
def X_keep_TurnsFair_8_1 (t0 : Int) (t1 : (List Int)) (t2 : (List Int)) (t10 : Int) (t13 : Int) (t18 : Int) (r0 : (Int × (Int × (Bool × ((List Int) × Unit))))) (r1 : (List (Int × (Int × (Int × Unit))))) (r2 : (List Int)) (K : AExit → St → Prop) : Prop := K (.exit 8) ⟨.s (.val (.int .i64) t0) :: (.s (.val (.ro (.int .i64)) t1) :: (.s (.val (.ro (.int .i64)) t2) :: (un 4 ++ (.s (.addr 0 []) :: (un 1 ++ (.s (.sl 1) :: (.s (.val (.int .i64) t10) :: (un 1 ++ (.s (.addr 2 []) :: (.s (.val (.int .i64) t13) :: (un 4 ++ (.s (.val (.int .i64) t18) :: (un 153))))))))))))), [(0, .box (.pair (.int .i64) (.pair (.int .i64) (.pair .bool (.pair (.arr 17 (.int .i64)) .unit)))) r0), (1, .row (.pair (.int .i64) (.pair (.int .i64) (.pair (.int .i64) .unit))) r1), (2, .box (.arr 17 (.int .i64)) r2)], 3⟩
end Go.Spec
/- What the functions answer: the law that turns are fair. -/
namespace Go.Spec
open Go Go.Lift
def lens (a b : List Int) : Prop := (a.length : Int) ≤ big ∧ (b.length : Int) ≤ big
def S_keep_TurnsFair : Summ := { par := [.v (.int .i64), .v (.ro (.int .i64)), .v (.ro (.int .i64))], res := [.v .bool], esc := false, pre := fun x => lens x.2.1 x.2.2.1, fn := fun _ => ((true, ()), ((), (), (), ())) }
def fitsB (fits : List Int) (i : Nat) : Bool := ((fits.take 16).drop i).all fitB
def greatF : Int → List Int → Int
  | g, [] => g
  | g, f :: fs => greatF (lesser true g f) fs
def greatE (fits : List Int) (g i : Int) : Int := greatF g ((fits.take 16).drop i.toNat)
def usersE (fits : List Int) (us : List UU) (i : Int) : List UU := us ++ usersF i ((fits.take 16).drop i.toNat)
def p_keep_TurnsFair_0 (t0 : Int) (t1 t2 : List Int) (t10 t11 : Int) (r0 : Option TT) (r1 : List UU) : Prop := 1 ≤ t0 ∧ t0 ≤ 10000 ∧ lens t1 t2 ∧ 0 ≤ t11 ∧ t11 ≤ 16 ∧ t11 ≤ t1.length ∧ (r1.length : Int) = t11
def m_keep_TurnsFair_0 (_t0 : Int) (_t1 _t2 : List Int) (_t10 t11 : Int) (_r0 : Option TT) (_r1 : List UU) : Nat := (16 - t11).toNat
def o_keep_TurnsFair_0 (t0 : Int) (t1 t2 : List Int) (t10 t11 : Int) (r0 : Option TT) (r1 : List UU) (K : AExit → St → Prop) : Prop :=
  condP (hide fitsB t1 t11.toNat) (X_keep_TurnsFair_0_1 t0 t1 t2 (hide greatE t1 t10 t11) r0 (hide usersE t1 r1 t11) K) (∀ (g : Int) (us : List UU), X_keep_TurnsFair_0_0 t0 t1 t2 true g r0 us K)
structure TF (t0 : Int) (t1 t2 : List Int) (t10 : Int) (t : TT) (r1 : List UU) (r2 : List Int) : Prop where
  q1 : 1 ≤ t0
  q2 : t0 ≤ 10000
  ln : lens t1 t2
  fs : (t1.take 16).all fitB = true
  us : r1 = usersF 0 (t1.take 16)
  g0 : 0 ≤ t10
  g1 : t10 ≤ 10000
  gr : ∀ i : Nat, 1 ≤ i → i ≤ (t1.take 16).length → (t1.take 16).getD (i - 1) 0 ≤ t10
  ok : tOK t
  rl : r2.length = 17
  fi : ∃ (G : Nat → Int) (R : Int), FI t0 (t1.take 16) t G R ∧ ∀ i : Nat, 1 ≤ i → i ≤ (t1.take 16).length → r2.getD i 0 = IntKind.wrap IntKind.i64 (G i)
def p_keep_TurnsFair_2 (t0 : Int) (t1 t2 : List Int) (t10 t13 : Int) (r0 : Option TT) (r1 : List UU) (r2 : List Int) : Prop := 0 ≤ t13 ∧ t13 ≤ t2.length ∧ ∃ t : TT, r0 = some t ∧ TF t0 t1 t2 t10 t r1 r2
def m_keep_TurnsFair_2 (_t0 : Int) (_t1 t2 : List Int) (_t10 t13 : Int) (_r0 : Option TT) (_r1 : List UU) (_r2 : List Int) : Nat := (t2.length - t13).toNat
def o_keep_TurnsFair_2 (_t0 : Int) (_t1 _t2 : List Int) (_t10 _t13 : Int) (_r0 : Option TT) (_r1 : List UU) (_r2 : List Int) (K : AExit → St → Prop) : Prop := X_keep_TurnsFair_2_1 K
def sumE (t1 : List Int) (r1 : List UU) (r2 r3 : List Int) (k : Int) : List Int := if r1.length = 0 then r2 else addG t1 r2 (r3.drop k.toNat)
def p_keep_TurnsFair_4 (_t0 : Int) (t1 _t2 : List Int) (_t10 _t13 t14 t17 : Int) (_r0 : TT) (r1 : List UU) (r2 r3 : List Int) : Prop := 0 ≤ t17 ∧ t17 ≤ t14 ∧ t14 ≤ 63 ∧ t14 = r3.length ∧ r1.length ≤ 16 ∧ r1.length ≤ t1.length ∧ r2.length = 17 ∧ (r1.length = 0 → ∀ x ∈ r3, x = 0) ∧ (r1.length ≠ 0 → ∀ x ∈ r3, 1 ≤ x ∧ x ≤ r1.length)
def m_keep_TurnsFair_4 (_t0 : Int) (_t1 _t2 : List Int) (_t10 _t13 t14 t17 : Int) (_r0 : TT) (_r1 : List UU) (_r2 _r3 : List Int) : Nat := (t14 - t17).toNat
def o_keep_TurnsFair_4 (t0 : Int) (t1 t2 : List Int) (t10 t13 _t14 t17 : Int) (r0 : TT) (r1 : List UU) (r2 r3 : List Int) (K : AExit → St → Prop) : Prop := X_keep_TurnsFair_4_1 t0 t1 t2 t10 t13 r0 r1 (hide sumE t1 r1 r2 r3 t17) K
structure TG (t0 t10 : Int) (t : TT) (r1 : List UU) (r2 : List Int) : Prop where
  q1 : 1 ≤ t0
  q2 : t0 ≤ 10000
  g0 : 0 ≤ t10
  g1 : t10 ≤ 10000
  nl : r1.length ≤ 16
  rl : r2.length = 17
  cr : ∀ a : Nat, 1 ≤ a → a ≤ r1.length → 0 ≤ t.2.2.2.1.getD a 0 ∧ t.2.2.2.1.getD a 0 < t0 + 10000
  pr : ∀ a b : Nat, 1 ≤ a → a ≤ r1.length → 1 ≤ b → b ≤ r1.length → IntKind.wrap IntKind.i64 (r2.getD a 0 - r2.getD b 0) ≤ 2 * t0 + t10
def p_keep_TurnsFair_6 (t0 : Int) (_t1 _t2 : List Int) (t10 _t13 t18 : Int) (r0 : TT) (r1 : List UU) (r2 : List Int) : Prop := 1 ≤ t18 ∧ t18 ≤ r1.length + 1 ∧ TG t0 t10 r0 r1 r2
def m_keep_TurnsFair_6 (_t0 : Int) (_t1 _t2 : List Int) (_t10 _t13 t18 : Int) (_r0 : TT) (r1 : List UU) (_r2 : List Int) : Nat := (r1.length + 1 - t18).toNat
def o_keep_TurnsFair_6 (t0 : Int) (t1 t2 : List Int) (t10 t13 _t18 : Int) (r0 : TT) (r1 : List UU) (r2 : List Int) (K : AExit → St → Prop) : Prop := X_keep_TurnsFair_6_1 t0 t1 t2 t10 t13 r0 r1 r2 K
def p_keep_TurnsFair_8 (t0 : Int) (_t1 _t2 : List Int) (t10 _t13 t18 t19 : Int) (r0 : TT) (r1 : List UU) (r2 : List Int) : Prop := 1 ≤ t18 ∧ t18 ≤ r1.length ∧ 1 ≤ t19 ∧ t19 ≤ r1.length + 1 ∧ TG t0 t10 r0 r1 r2
def m_keep_TurnsFair_8 (_t0 : Int) (_t1 _t2 : List Int) (_t10 _t13 _t18 t19 : Int) (_r0 : TT) (r1 : List UU) (_r2 : List Int) : Nat := (r1.length + 1 - t19).toNat
def o_keep_TurnsFair_8 (t0 : Int) (t1 t2 : List Int) (t10 t13 t18 _t19 : Int) (r0 : TT) (r1 : List UU) (r2 : List Int) (K : AExit → St → Prop) : Prop := X_keep_TurnsFair_8_1 t0 t1 t2 t10 t13 t18 r0 r1 r2 K
end Go.Spec
