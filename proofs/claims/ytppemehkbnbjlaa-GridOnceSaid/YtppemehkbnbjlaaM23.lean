/- No place is two users'; what lies at a place behind laying. -/
import Derived.Test.YtppemehkbnbjlaaM22
set_option linter.unusedVariables false
set_option linter.unusedSimpArgs false
namespace Go.Spec
open Go Go.Lift
theorem cntC_block (tone t : Int) (h : 0 ≤ tone) : ∀ l : List Sh, cntC tone t l = cntC (12 * (tone / 12)) t l
  | [] => rfl
  | s :: l => by
    have e : covers s tone t = covers s (12 * (tone / 12)) t := by
      rw [Bool.eq_iff_iff, covers_iff, covers_iff]; omega
    have ih := cntC_block tone t h l
    unfold cntC at ih ⊢
    rw [List.filter_cons, List.filter_cons, e]
    split <;> simp [ih]
theorem one_owner {g : GR} (h : gridErr g = 0) {tone t : Int} (h0 : 0 ≤ tone) (h1 : tone < 12 * g.1) (h2 : 0 ≤ t) (h3 : t < 14) : cntC tone t g.2.1 ≤ 1 := by
  obtain ⟨e1, e2, e3⟩ := err_ok h
  have hs := sizeB_iff.1 e1
  rw [cntC_block tone t h0]
  rcases Nat.lt_or_ge 1 (cntC (12 * (tone / 12)) t g.2.1) with hc | hc
  · exfalso
    have : clashB g = true := (clashB_iff g).2 ⟨tone / 12, t, by omega, by omega, h2, h3, by rw [owner_snd]; omega⟩
    rw [e3] at this; cases this
  · exact hc
theorem ownF_filter (tone t : Int) : ∀ (l : List Sh) (a : Int × Int), ownF tone t l a = ownF tone t (l.filter fun s => covers s tone t) a
  | [], _ => rfl
  | s :: l, a => by
    rw [List.filter_cons]
    by_cases hc : covers s tone t = true
    · rw [if_pos hc]
      simp only [ownF, hc, if_true]
      exact ownF_filter tone t l _
    · rw [if_neg hc]
      simp only [ownF, if_neg hc]
      exact ownF_filter tone t l _
theorem hits_filter (who tone t : Int) (l : List Sh) : hits who tone t l = hits who tone t (l.filter fun s => covers s tone t) := by
  unfold hits
  rw [List.filter_filter]
  congr 1
  refine List.filter_congr fun s _ => ?_
  cases covers s tone t <;> simp
theorem cell_eq {g : GR} (h : gridErr g = 0) (who : Int) {tone t : Int} (h0 : 0 ≤ tone) (h1 : tone < 12 * g.1) (h2 : 0 ≤ t) (h3 : t < 14) : cellP g who tone t = cellR g who tone t := by
  have hc := one_owner h h0 h1 h2 h3
  unfold cellP cellR owner
  rw [ownF_filter, hits_filter]
  unfold cntC at hc
  cases hp : pilotB tone t with
  | true => simp
  | false =>
    simp only [Bool.false_eq_true, if_false, and_true]
    match hl : g.2.1.filter fun s => covers s tone t, hc with
    | [], _ => simp [hits, ownF]
    | [s], _ =>
      have hs : covers s tone t = true := (List.mem_filter.1 (show s ∈ g.2.1.filter fun s => covers s tone t by rw [hl]; exact .head _)).2
      by_cases hw : s.1 = who
      · simp [hits, ownF, hs, hw]
      · simp [hits, ownF, hs, hw]
    | _ :: _ :: _, hc => simp at hc
theorem rowG_congr {f f' : Int → Int → List PL} {t : Int} : ∀ (k : Nat) (tone : Int), (∀ u, tone ≤ u → u < tone + k → f u t = f' u t) → rowG f t tone k = rowG f' t tone k
  | 0, _, _ => rfl
  | k + 1, tone, h => by simp only [rowG]; rw [h tone (by omega) (by omega), rowG_congr k (tone + 1) fun u h1 h2 => h u (by omega) (by omega)]
theorem allG_congr {f f' : Int → Int → List PL} {n : Nat} : ∀ (k : Nat) (t : Int), (∀ u v, t ≤ v → v < t + k → 0 ≤ u → u < (n : Int) → f u v = f' u v) → allG f n t k = allG f' n t k
  | 0, _, _ => rfl
  | k + 1, t, h => by simp only [allG]; rw [rowG_congr n 0 fun u h1 h2 => h u t (by omega) (by omega) h1 (by omega), allG_congr k (t + 1) fun u v h1 h2 => h u v (by omega) (by omega)]
theorem places_eq {g : GR} (h : gridErr g = 0) (who : Int) : placesI g who = placesR g who := by
  have ht := (tones_eq (err_ok h).1).1
  exact allG_congr 14 0 fun u v h1 h2 h3 h4 => cell_eq h who h3 (by omega) h1 (by simpa using h2)
/-! the places before one -/
def before (g : GR) (who t tone : Int) : List PL := allG (cellR g who) (tones g) 0 t.toNat ++ rowG (cellR g who) t 0 tone.toNat
theorem rowG_add (f : Int → Int → List PL) (t : Int) : ∀ (k m : Nat) (tone : Int), rowG f t tone (k + m) = rowG f t tone k ++ rowG f t (tone + k) m
  | 0, m, tone => by simp [rowG]
  | k + 1, m, tone => by
    rw [show k + 1 + m = (k + m) + 1 by omega]
    simp only [rowG]
    rw [rowG_add f t k m (tone + 1), List.append_assoc]
    congr 3; omega
theorem allG_add (f : Int → Int → List PL) (n : Nat) : ∀ (k m : Nat) (t : Int), allG f n t (k + m) = allG f n t k ++ allG f n (t + k) m
  | 0, m, t => by simp [allG]
  | k + 1, m, t => by
    rw [show k + 1 + m = (k + m) + 1 by omega]
    simp only [allG]
    rw [allG_add f n k m (t + 1), List.append_assoc]
    congr 3; omega
theorem before_next (g : GR) (who : Int) {t tone : Int} (h0 : 0 ≤ tone) : before g who t (tone + 1) = before g who t tone ++ cellR g who tone t := by
  unfold before
  rw [show (tone + 1).toNat = tone.toNat + 1 by omega, rowG_add, List.append_assoc]
  simp only [rowG, List.append_nil]
  rw [show (0 : Int) + (tone.toNat : Int) = tone by omega]
theorem before_row (g : GR) (who : Int) {t : Int} (h0 : 0 ≤ t) : before g who t (tones g) = before g who (t + 1) 0 := by
  unfold before
  rw [show (t + 1).toNat = t.toNat + 1 by omega, allG_add]
  simp only [allG, rowG, List.append_nil, Int.toNat_natCast, Int.toNat_zero]
  rw [show (0 : Int) + (t.toNat : Int) = t by omega]
def afterP (g : GR) (who t tone : Int) : List PL := rowG (cellR g who) t (tone + 1) (tones g - 1 - tone.toNat) ++ allG (cellR g who) (tones g) (t + 1) (13 - t.toNat)
theorem places_split (g : GR) (who : Int) {t tone : Int} (h0 : 0 ≤ t) (h1 : t < 14) (h2 : 0 ≤ tone) (h3 : tone < tones g) : placesR g who = before g who t tone ++ (cellR g who tone t ++ afterP g who t tone) := by
  have e1 : placesR g who = allG (cellR g who) (tones g) 0 (t.toNat + ((13 - t.toNat) + 1)) := by unfold placesR; congr 1; omega
  have e2 : tones g = tone.toNat + ((tones g - 1 - tone.toNat) + 1) := by omega
  rw [e1, allG_add]
  simp only [allG]
  rw [show (0 : Int) + (t.toNat : Int) = t by omega]
  have e3 : rowG (cellR g who) t 0 (tones g) = rowG (cellR g who) t 0 tone.toNat ++ (cellR g who tone t ++ rowG (cellR g who) t (tone + 1) (tones g - 1 - tone.toNat)) := by
    conv => lhs; rw [e2]
    rw [rowG_add]
    simp only [rowG]
    rw [show (0 : Int) + (tone.toNat : Int) = tone by omega]
  rw [e3]
  unfold before afterP
  simp only [List.append_assoc]
theorem cellR_mem {g : GR} {who tone t : Int} {p : PL} (h : p ∈ cellR g who tone t) : p = (tone, t, ()) ∧ (owner g tone t).2 > 0 ∧ (owner g tone t).1 = who ∧ pilotB tone t = false := by
  unfold cellR at h
  split at h
  · rename_i hc; exact ⟨by simpa using h, hc⟩
  · cases h
theorem not_after (g : GR) (who : Int) {t tone : Int} : (tone, t, ()) ∉ afterP g who t tone := by
  intro h
  unfold afterP at h
  rcases List.mem_append.1 h with h | h
  · obtain ⟨u, h1, _, h3⟩ := rowG_mem h
    have := (cellR_mem h3).1
    simp only [Prod.mk.injEq] at this
    omega
  · obtain ⟨t', u, h1, _, _, _, h5⟩ := allG_mem h
    have := (cellR_mem h5).1
    simp only [Prod.mk.injEq] at this
    omega
theorem places_mem {g : GR} {who : Int} {p : PL} (h : p ∈ placesR g who) : 0 ≤ p.2.1 ∧ p.2.1 < 14 ∧ 0 ≤ p.1 ∧ p.1 < (tones g : Int) ∧ p ∈ cellR g who p.1 p.2.1 := by
  obtain ⟨t, u, h1, h2, h3, h4, h5⟩ := allG_mem h
  have e := (cellR_mem h5).1
  subst e
  exact ⟨h1, by simpa using h2, h3, h4, h5⟩
/-! cells -/
theorem getC_set {R : RW} {n : Nat} (h : rowsOK R n) {t tone : Int} (h0 : 0 ≤ t) (h1 : t < 14) (h2 : 0 ≤ tone) (h3 : tone < n) (v : PT) {t' tone' : Int} (h4 : 0 ≤ t') (h6 : 0 ≤ tone') :
    getC (setC R t tone v) t' tone' = if t = t' ∧ tone = tone' then v else getC R t' tone' := by
  have hi : t.toNat < R.length := by rw [h.1]; omega
  unfold getC setC
  by_cases e : t = t'
  · subst e
    rw [gs_eq hi]
    by_cases e2 : tone = tone'
    · subst e2
      rw [gs_eq (by rw [getD_row h h0 h1]; omega), if_pos ⟨rfl, rfl⟩]
    · rw [gs_ne (by omega), if_neg (fun h => e2 h.2)]
  · rw [gs_ne (by omega), if_neg (fun h => e h.1)]
theorem putAll_not {n : Nat} {t tone : Int} (h4 : 0 ≤ t) (h6 : 0 ≤ tone) : ∀ (l : List PL) (v : List PT) (R : RW), rowsOK R n → plOK l n → (tone, t, ()) ∉ l → getC (putAll R (l.zip v)) t tone = getC R t tone
  | [], v, R, _, _, _ => by simp [putAll]
  | p :: l, [], R, _, _, _ => by simp [putAll]
  | p :: l, v :: vs, R, hr, hl, hn => by
    obtain ⟨q1, q2, q3, q4⟩ := hl p (.head _)
    rw [List.zip_cons_cons]
    simp only [putAll]
    rw [putAll_not h4 h6 l vs _ (setC_ok hr q1 q2 _ _) (fun x hx => hl x (.tail _ hx)) (fun hm => hn (.tail _ hm)), getC_set hr q1 q2 q3 q4 v h4 h6, if_neg]
    rintro ⟨e1, e2⟩
    apply hn
    obtain ⟨a, b, ⟨⟩⟩ := p
    simp only at e1 e2
    subst e1; subst e2
    exact .head _
theorem putAll_at {n : Nat} {t tone : Int} (B : List PL) (hB : (tone, t, ()) ∉ B) : ∀ (A : List PL) (v : List PT) (R : RW), rowsOK R n → plOK (A ++ (tone, t, ()) :: B) n → A.length < v.length →
    getC (putAll R ((A ++ (tone, t, ()) :: B).zip v)) t tone = v.getD A.length pt0
  | [], [], _, _, _, h => by simp at h
  | [], v :: vs, R, hr, hl, _ => by
    obtain ⟨q1, q2, q3, q4⟩ := hl _ (List.mem_append_right _ (.head _))
    simp only [List.nil_append, List.zip_cons_cons, putAll]
    rw [putAll_not q1 q3 B vs _ (setC_ok hr q1 q2 _ _) (fun x hx => hl x (.tail _ hx)) hB, getC_set hr q1 q2 q3 q4 v q1 q3, if_pos ⟨rfl, rfl⟩]
    rfl
  | a :: A, [], _, _, _, h => by simp at h
  | a :: A, v :: vs, R, hr, hl, h => by
    obtain ⟨q1, q2, _, _⟩ := hl a (.head _)
    simp only [List.cons_append, List.zip_cons_cons, putAll]
    rw [putAll_at B hB A vs _ (setC_ok hr q1 q2 _ _) (fun x hx => hl x (.tail _ hx)) (by simpa using h)]
    rfl
/-- What the last of w's parts says at k. -/
def lastPt (w : Int) (k : Nat) : List PA → PT → PT
  | [], x => x
  | a :: l, x => lastPt w k l (if a.1 = w then a.2.1.getD k pt0 else x)
def matchB (g : GR) (parts : List PA) : Bool := parts.all fun x => decide ((placesI g x.1).length = x.2.1.length)
theorem layF_fst (g : GR) : ∀ (parts : List PA) (R : RW), (layF g R parts).1 = matchB g parts
  | [], _ => rfl
  | x :: ps, R => by
    simp only [layF, matchB, List.all_cons]
    split
    · rename_i h; rw [layF_fst g ps]; simp [h, matchB]
    · rename_i h; simp [h]
theorem layF_ok {g : GR} : ∀ (parts : List PA) (R : RW), rowsOK R (tones g) → rowsOK (layF g R parts).2 (tones g)
  | [], _, h => h
  | x :: ps, R, h => by
    simp only [layF]
    split
    · exact layF_ok ps _ (putAll_ok _ _ h (zip_ok (places_ok x.1) _))
    · exact h
theorem layF_cell {g : GR} (he : gridErr g = 0) {t tone : Int} (h0 : 0 ≤ t) (h1 : t < 14) (h2 : 0 ≤ tone) (h3 : tone < tones g) (hp : pilotB tone t = false) (ho : (owner g tone t).2 > 0) :
    ∀ (parts : List PA) (R : RW), rowsOK R (tones g) → matchB g parts = true →
      getC (layF g R parts).2 t tone = lastPt (owner g tone t).1 (before g (owner g tone t).1 t tone).length parts (getC R t tone)
  | [], R, _, _ => rfl
  | x :: ps, R, hr, hm => by
    simp only [matchB, List.all_cons, Bool.and_eq_true, decide_eq_true_eq] at hm
    simp only [layF, if_pos hm.1]
    have hr2 := putAll_ok _ _ hr (zip_ok (places_ok (g := g) x.1) x.2.1)
    rw [layF_cell he h0 h1 h2 h3 hp ho ps _ hr2 hm.2]
    simp only [lastPt]
    congr 1
    have hpl := places_ok (g := g) x.1
    rw [places_eq he] at hpl ⊢
    rw [places_eq he] at hm
    by_cases e : x.1 = (owner g tone t).1
    · rw [if_pos e]
      have hs := places_split g x.1 h0 h1 h2 h3
      have hcell : cellR g x.1 tone t = [(tone, t, ())] := by unfold cellR; rw [if_pos ⟨ho, e.symm, hp⟩]
      rw [hcell, List.singleton_append] at hs
      rw [hs] at hm hpl ⊢
      rw [putAll_at _ (not_after g x.1) _ _ _ hr hpl (by rw [← hm.1, List.length_append, List.length_cons]; omega)]
      rw [e]
    · rw [if_neg e]
      refine putAll_not h0 h2 _ _ _ hr hpl fun hmem => ?_
      obtain ⟨_, _, _, _, h9⟩ := places_mem hmem
      exact e (cellR_mem h9).2.2.1.symm
theorem layF_free {g : GR} (he : gridErr g = 0) {t tone : Int} (h0 : 0 ≤ t) (h2 : 0 ≤ tone) (hp : pilotB tone t = true ∨ ¬ (owner g tone t).2 > 0) :
    ∀ (parts : List PA) (R : RW), rowsOK R (tones g) → getC (layF g R parts).2 t tone = getC R t tone
  | [], R, _ => rfl
  | x :: ps, R, hr => by
    simp only [layF]
    split
    · have hr2 := putAll_ok _ _ hr (zip_ok (places_ok (g := g) x.1) x.2.1)
      rw [layF_free he h0 h2 hp ps _ hr2]
      refine putAll_not h0 h2 _ _ _ hr (places_ok x.1) fun hmem => ?_
      rw [places_eq he] at hmem
      obtain ⟨_, _, _, _, h9⟩ := places_mem hmem
      have := cellR_mem h9
      rcases hp with hp | hp
      · rw [this.2.2.2] at hp; cases hp
      · exact hp this.2.1
    · rfl
/-! the rows as they begin -/
theorem fillRow_get {n : Nat} {t : Int} (h0 : 0 ≤ t) (h1 : t < 14) (t' tone' : Int) (h4 : 0 ≤ t') (h6 : 0 ≤ tone') : ∀ (k : Nat) (R : RW) (tone : Int), R.length = 14 → (R.getD t.toNat []).length = n → 0 ≤ tone → tone + k ≤ n →
    getC (fillRow t R tone k) t' tone' = if (t = t' ∧ tone ≤ tone' ∧ tone' < tone + k) ∧ pilotB tone' t = true then pilotP t else getC R t' tone'
  | 0, R, tone, _, _, _, _ => by rw [if_neg (by omega)]; rfl
  | k + 1, R, tone, hl, hr, h7, h8 => by
    simp only [fillRow]
    have hi : t.toNat < R.length := by omega
    by_cases hp : pilotB tone t = true
    · rw [if_pos hp, fillRow_get h0 h1 t' tone' h4 h6 k _ _ (by simp [setC, hl]) (by unfold setC; rw [gs_eq hi, List.length_set, hr]) (by omega) (by omega)]
      have hg : getC (setC R t tone (pilotP t)) t' tone' = if t = t' ∧ tone = tone' then pilotP t else getC R t' tone' := by
        unfold getC setC
        by_cases e : t = t'
        · subst e
          rw [gs_eq hi]
          by_cases e2 : tone = tone'
          · subst e2
            rw [gs_eq (by omega), if_pos ⟨rfl, rfl⟩]
          · rw [gs_ne (by omega), if_neg (fun h => e2 h.2)]
        · rw [gs_ne (by omega), if_neg (fun h => e h.1)]
      rw [hg]
      by_cases e : t = t' ∧ tone = tone'
      · obtain ⟨e1, e2⟩ := e
        subst e1; subst e2
        rw [if_neg (by omega), if_pos ⟨rfl, rfl⟩, if_pos ⟨⟨rfl, by omega, by omega⟩, hp⟩]
      · rw [if_neg e]
        by_cases e3 : (t = t' ∧ tone + 1 ≤ tone' ∧ tone' < tone + 1 + k) ∧ pilotB tone' t = true
        · rw [if_pos e3, if_pos ⟨⟨e3.1.1, by omega, by omega⟩, e3.2⟩]
        · rw [if_neg e3, if_neg]
          rintro ⟨⟨a1, a2, a3⟩, a4⟩
          exact e3 ⟨⟨a1, by have : tone ≠ tone' := fun h => e ⟨a1, h⟩; omega, by omega⟩, a4⟩
    · rw [if_neg hp, fillRow_get h0 h1 t' tone' h4 h6 k _ _ hl hr (by omega) (by omega)]
      by_cases e3 : (t = t' ∧ tone + 1 ≤ tone' ∧ tone' < tone + 1 + k) ∧ pilotB tone' t = true
      · rw [if_pos e3, if_pos ⟨⟨e3.1.1, by omega, by omega⟩, e3.2⟩]
      · rw [if_neg e3, if_neg]
        rintro ⟨⟨a1, a2, a3⟩, a4⟩
        refine e3 ⟨⟨a1, ?_, by omega⟩, a4⟩
        have : tone ≠ tone' := fun h => hp (by rw [h]; exact a4)
        omega
theorem baseF_get (n : Nat) (t' tone' : Int) (h4 : 0 ≤ t') (h6 : 0 ≤ tone') (h7 : tone' < n) : ∀ (k : Nat) (R : RW) (t : Int), R.length = 14 → 0 ≤ t → t + k ≤ 14 →
    getC (baseF n R t k) t' tone' = if t ≤ t' ∧ t' < t + k then (if pilotB tone' t' = true then pilotP t' else pt0) else getC R t' tone'
  | 0, R, t, _, _, _ => by rw [if_neg (by omega)]; rfl
  | k + 1, R, t, hl, h0, h1 => by
    simp only [baseF]
    have hi : t.toNat < R.length := by omega
    rw [baseF_get n t' tone' h4 h6 h7 k _ _ (by rw [fillRow_len, List.length_set]; exact hl) (by omega) (by omega),
      fillRow_get (n := n) h0 (by omega) t' tone' h4 h6 n _ 0 (by rw [List.length_set]; exact hl) (by rw [gs_eq hi, List.length_replicate]) (by omega) (by omega)]
    by_cases e : t = t'
    · subst e
      have hz : getC (R.set t.toNat (List.replicate n pt0)) t tone' = pt0 := by
        unfold getC
        rw [gs_eq hi, List.getD_eq_getElem?_getD, List.getElem?_replicate]
        split <;> rfl
      rw [if_neg (show ¬ (t + 1 ≤ t ∧ t < t + 1 + (k : Int)) from by omega), if_pos (show t ≤ t ∧ t < t + ((k + 1 : Nat) : Int) from by omega), hz]
      by_cases hp : pilotB tone' t = true
      · rw [if_pos (show (t = t ∧ 0 ≤ tone' ∧ tone' < 0 + (n : Int)) ∧ pilotB tone' t = true from ⟨⟨rfl, by omega, by omega⟩, hp⟩), if_pos hp]
      · rw [if_neg (show ¬ ((t = t ∧ 0 ≤ tone' ∧ tone' < 0 + (n : Int)) ∧ pilotB tone' t = true) from fun h => hp h.2), if_neg hp]
    · have hz : getC (R.set t.toNat (List.replicate n pt0)) t' tone' = getC R t' tone' := by unfold getC; rw [gs_ne (by omega)]
      rw [hz, if_neg (show ¬ ((t = t' ∧ 0 ≤ tone' ∧ tone' < 0 + (n : Int)) ∧ pilotB tone' t = true) from fun h => e h.1.1)]
      by_cases e2 : t + 1 ≤ t' ∧ t' < t + 1 + (k : Int)
      · rw [if_pos e2, if_pos (show t ≤ t' ∧ t' < t + ((k + 1 : Nat) : Int) from by omega)]
      · rw [if_neg e2, if_neg (show ¬ (t ≤ t' ∧ t' < t + ((k + 1 : Nat) : Int)) from by omega)]
theorem baseR_get (g : GR) {t tone : Int} (h0 : 0 ≤ t) (h1 : t < 14) (h2 : 0 ≤ tone) (h3 : tone < tones g) : getC (baseR g) t tone = if pilotB tone t = true then pilotP t else pt0 := by
  unfold baseR
  rw [baseF_get (tones g) t tone h0 h2 h3 14 _ 0 (by simp) (by omega) (by omega), if_pos (by omega)]
end Go.Spec
