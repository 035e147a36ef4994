/- What is laid is taken as it was. -/
import Derived.Test.YtppemehkbnbjlaaS13
set_option linter.unusedVariables false
set_option linter.unusedSimpArgs false
namespace Go.Spec
open Go Go.Lift
theorem findK_put {k : Ty} {β : Type} (hl : ∀ x y : k.den, eqD k x y = true ↔ x = y) : ∀ (es : List (k.den × β)) (x z : k.den) (y : β), (z = x → findK k (putK k es x y) z = some y) ∧ (z ≠ x → findK k (putK k es x y) z = findK k es z)
  | [], x, z, y => by
    refine ⟨fun h => ?_, fun h => ?_⟩
    · subst h; simp [putK, findK, (hl z z).2 rfl]
    · have : ¬ eqD k z x = true := fun e => h ((hl _ _).1 e)
      simp [putK, findK, this]
  | e :: es, x, z, y => by
    obtain ⟨i1, i2⟩ := findK_put hl es x z y
    simp only [putK]
    by_cases hk : eqD k x e.1 = true
    · have e1 := (hl _ _).1 hk
      rw [if_pos hk]
      refine ⟨fun h => ?_, fun h => ?_⟩
      · subst h; simp [findK, (hl z z).2 rfl]
      · have h1 : ¬ eqD k z x = true := fun e => h ((hl _ _).1 e)
        have h2 : ¬ eqD k z e.1 = true := fun e' => h (((hl _ _).1 e').trans e1.symm)
        simp [findK, h1, h2]
    · rw [if_neg hk]
      refine ⟨fun h => ?_, fun h => ?_⟩
      · subst h; simp only [findK, if_neg hk]; exact i1 rfl
      · simp only [findK]
        by_cases hz : eqD k z e.1 = true
        · rw [if_pos hz, if_pos hz]
        · rw [if_neg hz, if_neg hz]; exact i2 h
theorem putK_ne {k : Ty} {β : Type} (es : List (k.den × β)) (x : k.den) (y : β) : putK k es x y ≠ [] := by
  cases es with
  | nil => simp [putK]
  | cons e es => simp only [putK]; split <;> simp
abbrev kPL : Ty := Ty.pair (Ty.int .i64) (Ty.pair (Ty.int .i64) Ty.unit)
theorem kPL_law (x y : PL) : eqD kPL x y = true ↔ x = y := by
  obtain ⟨a, b, ⟨⟩⟩ := x
  obtain ⟨c, d, ⟨⟩⟩ := y
  simp [eqD]
/-! places are distinct -/
theorem cellR_nodup (g : GR) (who tone t : Int) : (cellR g who tone t).Nodup := by unfold cellR; split <;> simp
theorem rowR_nodup (g : GR) (who t : Int) : ∀ (k : Nat) (tone : Int), (rowG (cellR g who) t tone k).Nodup
  | 0, _ => List.nodup_nil
  | k + 1, tone => by
    simp only [rowG]
    rw [List.nodup_append]
    refine ⟨cellR_nodup g who tone t, rowR_nodup g who t k (tone + 1), fun a ha b hb e => ?_⟩
    subst e
    obtain ⟨u, h1, _, h3⟩ := rowG_mem hb
    have e1 := (cellR_mem ha).1
    have e2 := (cellR_mem h3).1
    rw [e1] at e2
    simp only [Prod.mk.injEq] at e2
    omega
theorem allR_nodup (g : GR) (who : Int) (n : Nat) : ∀ (k : Nat) (t : Int), (allG (cellR g who) n t k).Nodup
  | 0, _ => List.nodup_nil
  | k + 1, t => by
    simp only [allG]
    rw [List.nodup_append]
    refine ⟨rowR_nodup g who t n 0, allR_nodup g who n k (t + 1), fun a ha b hb e => ?_⟩
    subst e
    obtain ⟨u, _, _, h3⟩ := rowG_mem ha
    obtain ⟨t', u', h1, _, _, _, h5⟩ := allG_mem hb
    have e1 := (cellR_mem h3).1
    have e2 := (cellR_mem h5).1
    rw [e1] at e2
    simp only [Prod.mk.injEq] at e2
    omega
theorem placesR_nodup (g : GR) (who : Int) : (placesR g who).Nodup := allR_nodup g who _ 14 0
theorem places_one {g : GR} {v w : Int} {p : PL} (h1 : p ∈ placesR g v) (h2 : p ∈ placesR g w) : v = w := by
  have e1 := (cellR_mem (places_mem h1).2.2.2.2).2.2.1
  have e2 := (cellR_mem (places_mem h2).2.2.2.2).2.2.1
  exact e1.symm.trans e2
theorem nodup_idx {α : Type} {l : List α} (h : l.Nodup) {i j : Nat} (hi : i < l.length) (hj : j < l.length) (e : l[i] = l[j]) : i = j := by
  rw [List.nodup_iff_pairwise_ne, List.pairwise_iff_getElem] at h
  rcases Nat.lt_trichotomy i j with hlt | heq | hgt
  · exact (h i j hi hj hlt e).elim
  · exact heq
  · exact (h j i hj hi hgt e.symm).elim
theorem before_idx {g : GR} {w : Int} {i : Nat} (hi : i < (placesR g w).length) : (before g w (placesR g w)[i].2.1 (placesR g w)[i].1).length = i := by
  have hm := List.getElem_mem hi
  obtain ⟨q1, q2, q3, q4, q5⟩ := places_mem hm
  generalize hp : (placesR g w)[i] = p at hm q1 q2 q3 q4 q5 ⊢
  have hs := places_split g w q1 q2 q3 q4
  have hc := (cellR_mem q5)
  have hcell : cellR g w p.1 p.2.1 = [p] := by
    have : cellR g w p.1 p.2.1 = [(p.1, p.2.1, ())] := by unfold cellR; rw [if_pos hc.2]
    rw [this]
  rw [hcell, List.singleton_append] at hs
  have hlt : (before g w p.2.1 p.1).length < (placesR g w).length := by rw [hs]; simp
  have he : (placesR g w)[(before g w p.2.1 p.1).length] = p := by
    have : (placesR g w)[(before g w p.2.1 p.1).length]? = some p := by rw [hs, List.getElem?_append_right (Nat.le_refl _)]; simp
    rw [List.getElem?_eq_getElem hlt] at this
    exact Option.some.inj this
  exact nodup_idx (placesR_nodup g w) hlt hi (by rw [he, hp])
theorem lastPt_mem {w : Int} {k : Nat} : ∀ (parts : List PA) (y : PT), (parts.map (·.1)).Nodup → ∀ x ∈ parts, x.1 = w → lastPt w k parts y = x.2.1.getD k pt0
  | [], _, _, x, hx, _ => by cases hx
  | a :: l, y, hn, x, hx, hw => by
    simp only [List.map_cons, List.nodup_cons] at hn
    simp only [lastPt]
    cases hx with
    | head =>
      rw [if_pos hw]
      have : ∀ (l : List PA) (y : PT), w ∉ l.map (·.1) → lastPt w k l y = y := by
        intro l
        induction l with
        | nil => intro _ _; rfl
        | cons b l ih =>
          intro y hn
          simp only [List.map_cons, List.mem_cons, not_or] at hn
          simp only [lastPt, if_neg (fun e : b.1 = w => hn.1 e.symm)]
          exact ih y hn.2
      exact this l _ (by rw [← hw]; exact hn.1)
    | tail _ hx => exact lastPt_mem l _ hn.2 x hx hw
theorem partsTo_map (g : GR) (pts : List PT) (k : Nat) : (partsTo g pts k).map (·.1) = (List.range k).map fun (j : Nat) => (j : Int) + 1 := by
  unfold partsTo; rw [List.map_map]; rfl
theorem partsTo_nodup (g : GR) (pts : List PT) (k : Nat) : ((partsTo g pts k).map (·.1)).Nodup := by
  rw [partsTo_map]
  rw [List.nodup_iff_pairwise_ne, List.pairwise_map]
  refine List.Pairwise.imp ?_ (List.nodup_iff_pairwise_ne.1 List.nodup_range)
  intro a b h e; apply h; omega
theorem partsTo_match (g : GR) (pts : List PT) (k : Nat) : matchB g (partsTo g pts k) = true := by
  unfold matchB
  rw [List.all_eq_true]
  intro x hx
  unfold partsTo at hx
  rw [List.mem_map] at hx
  obtain ⟨j, _, rfl⟩ := hx
  simp [partW, pointsW]
theorem partsTo_len (g : GR) (pts : List PT) (k : Nat) : (partsTo g pts k).length = k := by unfold partsTo; simp
theorem partsTo_at (g : GR) (pts : List PT) {k j : Nat} (h : j < k) : (partsTo g pts k)[j]? = some (partW g pts ((j : Int) + 1)) := by
  unfold partsTo
  rw [List.getElem?_map, List.getElem?_range h]; rfl
theorem partsTo_succ (g : GR) (pts : List PT) (k : Nat) : partsTo g pts (k + 1) = partsTo g pts k ++ [partW g pts ((k : Int) + 1)] := by
  unfold partsTo
  rw [List.range_succ, List.map_append]; rfl
/-- The rows that all parts come to. -/
theorem lay_parts {g : GR} (he : gridErr g = 0) (pts : List PT) : (layG g (partsTo g pts 16)).2 = 0 ∧ rowsOK (layG g (partsTo g pts 16)).1 (tones g) ∧ (layG g (partsTo g pts 16)).1 = (layF g (baseR g) (partsTo g pts 16)).2 := by
  have hd : dupB (partsTo g pts 16) = false := (dup_iff _).2 (partsTo_nodup g pts 16)
  unfold layG
  rw [if_pos he, if_neg (by simp [hd]), layF_fst, if_pos (partsTo_match g pts 16)]
  exact ⟨rfl, layF_ok _ _ (baseR_ok g), rfl⟩
theorem take_parts {g : GR} (he : gridErr g = 0) (pts : List PT) {w : Int} (h1 : 1 ≤ w) (h2 : w ≤ 16) : takeG g (layG g (partsTo g pts 16)).1 w = ((partW g pts w).2.1, 0) := by
  obtain ⟨_, l2, l3⟩ := lay_parts he pts
  have hz := (err_ok he).1
  have ht := (tones_eq hz).1
  have hf : formRows g (layG g (partsTo g pts 16)).1 = true := by
    unfold formRows
    rw [l2.1]
    simp only [decide_true, Bool.true_and, List.all_eq_true, decide_eq_true_eq]
    intro r hr
    rw [l2.2 r hr]; exact ht
  unfold takeG
  rw [if_pos he, if_pos hf]
  congr 1
  have hmem : partW g pts w ∈ partsTo g pts 16 := by
    have := partsTo_at g pts (show (w - 1).toNat < 16 by omega)
    rw [show (((w - 1).toNat : Nat) : Int) + 1 = w by omega] at this
    exact List.mem_of_getElem? this
  rw [l3]
  apply List.ext_getElem
  · simp [partW, pointsW]
  · intro i hi1 hi2
    rw [List.getElem_map]
    have hi : i < (placesI g w).length := by simpa using hi1
    have hi' : i < (placesR g w).length := by rw [← places_eq he]; exact hi
    have hpe : (placesI g w)[i] = (placesR g w)[i] := by congr 1; exact places_eq he w
    rw [hpe]
    have hm := List.getElem_mem hi'
    obtain ⟨q1, q2, q3, q4, q5⟩ := places_mem hm
    obtain ⟨_, c2, c3, c4⟩ := cellR_mem q5
    have hb := before_idx hi'
    have hc := layF_cell he q1 q2 q3 q4 c4 c2 (partsTo g pts 16) _ (baseR_ok g) (partsTo_match g pts 16)
    rw [hc, c3, hb, lastPt_mem (w := w) _ _ (partsTo_nodup g pts 16) _ hmem rfl, List.getD_eq_getElem?_getD, List.getElem?_eq_getElem hi2]
    rfl
/-- Where there is a share there is a place. -/
theorem share_place {g : GR} (he : gridErr g = 0) (h : g.2.1 ≠ []) : ∃ v, 1 ≤ v ∧ v < 17 ∧ placesI g v ≠ [] := by
  obtain ⟨hz, hsh, _⟩ := err_ok he
  have ht := (tones_eq hz).1
  cases hl : g.2.1 with
  | nil => exact (h hl).elim
  | cons s l =>
    have hs : s ∈ g.2.1 := by rw [hl]; exact .head _
    have hf := formed_iff.1 (shaped_iff.1 hsh s hs)
    have hc : covers s (12 * s.2.1 + 1) s.2.2.2.1 = true := covers_iff.2 (by omega)
    have h1 := one_owner he (tone := 12 * s.2.1 + 1) (t := s.2.2.2.1) (by omega) (by omega) (by omega) (by omega)
    have hin : s ∈ g.2.1.filter fun x => covers x (12 * s.2.1 + 1) s.2.2.2.1 := List.mem_filter.2 ⟨hs, hc⟩
    have hown : owner g (12 * s.2.1 + 1) s.2.2.2.1 = (s.1, 1) := by
      unfold owner
      rw [ownF_filter]
      unfold cntC at h1
      match hq : g.2.1.filter fun x => covers x (12 * s.2.1 + 1) s.2.2.2.1, h1, hin with
      | [], _, hin => cases hin
      | [x], _, hin =>
        have : s = x := by simpa using hin
        subst this
        simp [ownF, hc]
      | _ :: _ :: _, h1, _ => simp at h1
    have hp : pilotB (12 * s.2.1 + 1) s.2.2.2.1 = false := by
      unfold pilotB
      rw [decide_eq_false_iff_not]
      rintro ⟨_, e⟩
      rw [Int.tmod_eq_emod_of_nonneg (by omega)] at e
      omega
    refine ⟨s.1, by omega, by omega, fun e => ?_⟩
    rw [places_eq he, places_split g s.1 (t := s.2.2.2.1) (tone := 12 * s.2.1 + 1) (by omega) (by omega) (by omega) (by omega)] at e
    have hcell : cellR g s.1 (12 * s.2.1 + 1) s.2.2.2.1 = [(12 * s.2.1 + 1, s.2.2.2.1, ())] := by unfold cellR; rw [hown, if_pos ⟨by show (1 : Int) > 0; decide, rfl, hp⟩]
    rw [hcell] at e
    simp at e
end Go.Spec
