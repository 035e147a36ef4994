/- Places lie in the grid; what is laid stays of its shape. -/
import Derived.Test.YtppemehkbnbjlaaM21
import Derived.Test.YtppemehkbnbjlaaS12
set_option linter.unusedVariables false
set_option linter.unusedSimpArgs false
namespace Go.Spec
open Go Go.Lift
theorem rowG_mem {f : Int → Int → List PL} {t : Int} {p : PL} : ∀ {k : Nat} {tone : Int}, p ∈ rowG f t tone k → ∃ tone', tone ≤ tone' ∧ tone' < tone + k ∧ p ∈ f tone' t
  | 0, _, h => by cases h
  | k + 1, tone, h => by
    simp only [rowG, List.mem_append] at h
    rcases h with h | h
    · exact ⟨tone, by omega, by omega, h⟩
    · obtain ⟨u, h1, h2, h3⟩ := rowG_mem h
      exact ⟨u, by omega, by omega, h3⟩
theorem allG_mem {f : Int → Int → List PL} {n : Nat} {p : PL} : ∀ {k : Nat} {t : Int}, p ∈ allG f n t k → ∃ t' tone', t ≤ t' ∧ t' < t + k ∧ 0 ≤ tone' ∧ tone' < (n : Int) ∧ p ∈ f tone' t'
  | 0, _, h => by cases h
  | k + 1, t, h => by
    simp only [allG, List.mem_append] at h
    rcases h with h | h
    · obtain ⟨u, h1, h2, h3⟩ := rowG_mem h
      exact ⟨t, u, by omega, by omega, h1, by omega, h3⟩
    · obtain ⟨t', u, h1, h2, h3⟩ := allG_mem h
      exact ⟨t', u, by omega, by omega, h3⟩
theorem rowG_len {f : Int → Int → List PL} {c : Nat} (hf : ∀ a b, (f a b).length ≤ c) (t : Int) : ∀ (k : Nat) (tone : Int), (rowG f t tone k).length ≤ c * k
  | 0, _ => Nat.zero_le _
  | k + 1, tone => by
    simp only [rowG, List.length_append, Nat.mul_succ]
    have := rowG_len hf t k (tone + 1)
    have := hf tone t
    omega
theorem allG_len {f : Int → Int → List PL} {c n : Nat} (hf : ∀ a b, (f a b).length ≤ c) : ∀ (k : Nat) (t : Int), (allG f n t k).length ≤ c * n * k
  | 0, _ => Nat.zero_le _
  | k + 1, t => by
    simp only [allG, List.length_append, Nat.mul_succ]
    have := allG_len (n := n) hf k (t + 1)
    have := rowG_len hf t n 0
    omega
theorem hits_cons (who tone t : Int) (s : Sh) (l : List Sh) : hits who tone t (s :: l) = (if (decide (s.1 = who) && covers s tone t) = true then [(tone, t, ())] else []) ++ hits who tone t l := by
  unfold hits
  rw [List.filter_cons]
  split <;> rfl
theorem hits_len (who tone t : Int) (l : List Sh) : (hits who tone t l).length ≤ l.length := by
  unfold hits; rw [List.length_map]; exact List.length_filter_le _ _
theorem cellP_len (g : GR) (who tone t : Int) : (cellP g who tone t).length ≤ g.2.1.length := by
  unfold cellP; split
  · exact Nat.zero_le _
  · exact hits_len _ _ _ _
theorem cellR_len (g : GR) (who tone t : Int) : (cellR g who tone t).length ≤ 1 := by
  unfold cellR; split <;> simp
theorem cellP_mem {g : GR} {who tone t : Int} {p : PL} (h : p ∈ cellP g who tone t) : p = (tone, t, ()) := by
  unfold cellP at h
  split at h
  · cases h
  · unfold hits at h
    rw [List.mem_map] at h
    obtain ⟨_, _, e⟩ := h
    exact e.symm
theorem tones_eq {g : GR} (h : sizeB g = true) : (tones g : Int) = 12 * g.1 ∧ tones g ≤ 144 := by
  have := sizeB_iff.1 h
  unfold tones; omega
theorem places_len {g : GR} (h : sizeB g = true) (who : Int) : (placesI g who).length ≤ 201600 := by
  have hs := sizeB_iff.1 h
  have ht := (tones_eq h).2
  have h1 := allG_len (n := tones g) (c := 100) (f := cellP g who) (fun a b => by have := cellP_len g who a b; omega) 14 0
  have h2 : 100 * tones g * 14 ≤ 201600 := by omega
  unfold placesI; omega
theorem places_ok {g : GR} (who : Int) : plOK (placesI g who) (tones g) := by
  intro p hp
  obtain ⟨t, tone, h1, h2, h3, h4, h5⟩ := allG_mem hp
  rw [cellP_mem h5]
  exact ⟨h1, by simpa using h2, h3, h4⟩
theorem getD_row {R : RW} {n : Nat} (h : rowsOK R n) {t : Int} (h0 : 0 ≤ t) (h1 : t < 14) : (R.getD t.toNat []).length = n := by
  have : t.toNat < R.length := by rw [h.1]; omega
  rw [List.getD_eq_getElem?_getD, List.getElem?_eq_getElem this]
  exact h.2 _ (List.getElem_mem this)
theorem setC_ok {R : RW} {n : Nat} (h : rowsOK R n) {t : Int} (h0 : 0 ≤ t) (h1 : t < 14) (tone : Int) (v : PT) : rowsOK (setC R t tone v) n := by
  refine ⟨by simp [setC, h.1], fun r hr => ?_⟩
  rcases List.mem_or_eq_of_mem_set hr with hr | hr
  · exact h.2 r hr
  · rw [hr, List.length_set]; exact getD_row h h0 h1
theorem putAll_ok {n : Nat} : ∀ (l : List (PL × PT)) (R : RW), rowsOK R n → (∀ q ∈ l, 0 ≤ q.1.2.1 ∧ q.1.2.1 < 14) → rowsOK (putAll R l) n
  | [], _, h, _ => h
  | (p, v) :: l, R, h, hl => by
    have hp := hl _ (.head _)
    exact putAll_ok l _ (setC_ok h hp.1 hp.2 _ _) fun q hq => hl q (.tail _ hq)
theorem zip_ok {l : List PL} {n : Nat} (h : plOK l n) (v : List PT) : ∀ q ∈ l.zip v, 0 ≤ q.1.2.1 ∧ q.1.2.1 < 14 := by
  intro q hq
  have := h q.1 (List.of_mem_zip hq).1
  exact ⟨this.1, this.2.1⟩
/-! the rows as they begin -/
theorem fillRow_len (t : Int) : ∀ (k : Nat) (R : RW) (tone : Int), (fillRow t R tone k).length = R.length
  | 0, _, _ => rfl
  | k + 1, R, tone => by
    simp only [fillRow]
    rw [fillRow_len t k]
    split
    · simp [setC]
    · rfl
theorem fillRow_row {t : Int} (h0 : 0 ≤ t) : ∀ (k : Nat) (R : RW) (tone t' : Int), 0 ≤ t' → t < R.length → ((fillRow t R tone k).getD t'.toNat []).length = (R.getD t'.toNat []).length
  | 0, _, _, _, _, _ => rfl
  | k + 1, R, tone, t', h1, h2 => by
    simp only [fillRow]
    have hl : ((if pilotB tone t = true then setC R t tone (pilotP t) else R).length : Int) = R.length := by split <;> simp [setC]
    rw [fillRow_row h0 k _ _ t' h1 (by omega)]
    split
    · unfold setC
      by_cases e : t = t'
      · subst e
        rw [gs_eq (by omega), List.length_set]
      · rw [gs_ne (by omega)]
    · rfl
theorem baseF_len (n : Nat) : ∀ (k : Nat) (R : RW) (t : Int), (baseF n R t k).length = R.length
  | 0, _, _ => rfl
  | k + 1, R, t => by simp only [baseF]; rw [baseF_len n k, fillRow_len, List.length_set]
theorem baseF_row (n : Nat) : ∀ (k : Nat) (R : RW) (t t' : Int), 0 ≤ t → 0 ≤ t' → t + k ≤ R.length →
    ((baseF n R t k).getD t'.toNat []).length = if t ≤ t' ∧ t' < t + k then n else (R.getD t'.toNat []).length
  | 0, R, t, t', _, _, _ => by rw [if_neg (by omega)]; rfl
  | k + 1, R, t, t', h0, h1, h2 => by
    simp only [baseF]
    rw [baseF_row n k _ _ t' (by omega) h1 (by rw [fillRow_len, List.length_set]; omega), fillRow_row h0 _ _ _ _ h1 (by rw [List.length_set]; omega)]
    by_cases e : t = t'
    · subst e
      rw [if_neg (by omega), if_pos (by omega), gs_eq (by omega), List.length_replicate]
    · rw [gs_ne (by omega)]
      by_cases e2 : t + 1 ≤ t' ∧ t' < t + 1 + k
      · rw [if_pos e2, if_pos (by omega)]
      · rw [if_neg e2, if_neg (by omega)]
theorem baseR_ok (g : GR) : rowsOK (baseR g) (tones g) := by
  have hl : (baseR g).length = 14 := by unfold baseR; rw [baseF_len]; rfl
  refine ⟨hl, fun r hr => ?_⟩
  obtain ⟨i, hi, e⟩ := List.getElem_of_mem hr
  have h := baseF_row (tones g) 14 (List.replicate 14 []) 0 i (by omega) (by omega) (by simp)
  rw [if_pos (by omega), Int.toNat_natCast, List.getD_eq_getElem?_getD] at h
  have hi' : (baseF (tones g) (List.replicate 14 []) 0 14)[i]? = some r := by
    have : (baseR g)[i]? = some (baseR g)[i] := List.getElem?_eq_getElem hi
    rw [e] at this; exact this
  rw [hi'] at h
  exact h
/-! who came already -/
theorem dup_iff (l : List PA) : dupB l = false ↔ (l.map (·.1)).Nodup := by unfold dupB; simp
end Go.Spec
