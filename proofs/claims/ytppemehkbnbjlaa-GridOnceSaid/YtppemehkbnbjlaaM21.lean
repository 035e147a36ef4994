/- The table of the program tells who takes a place twice. -/
import Derived.Test.YtppemehkbnbjlaaM20
set_option linter.unusedVariables false
set_option linter.unusedSimpArgs false
namespace Go.Spec
open Go Go.Lift
theorem gs_eq {α : Type} {l : List α} {i : Nat} {a d : α} (h : i < l.length) : (l.set i a).getD i d = a := by
  rw [List.getD_eq_getElem?_getD, List.getElem?_set_self h]; rfl
theorem gs_ne {α : Type} {l : List α} {i j : Nat} {a d : α} (h : i ≠ j) : (l.set i a).getD j d = l.getD j d := by
  rw [List.getD_eq_getElem?_getD, List.getElem?_set_ne h, ← List.getD_eq_getElem?_getD]
def getT (T : List (List Int)) (b t : Int) : Int := (T.getD b.toNat row14).getD t.toNat 0
def tabS (T : List (List Int)) : Prop := T.length = 12 ∧ ∀ r ∈ T, r.length = 14
theorem tabS_row {T : List (List Int)} (h : tabS T) {b : Int} (h0 : 0 ≤ b) (h1 : b < 12) : (T.getD b.toNat row14).length = 14 := by
  have : b.toNat < T.length := by rw [h.1]; omega
  rw [List.getD_eq_getElem?_getD, List.getElem?_eq_getElem this]
  exact h.2 _ (List.getElem_mem this)
theorem incAt_S {T : List (List Int)} (h : tabS T) {b : Int} (h0 : 0 ≤ b) (h1 : b < 12) (t : Int) : tabS (incAt T b t) := by
  refine ⟨by simp [incAt, h.1], fun r hr => ?_⟩
  rcases List.mem_or_eq_of_mem_set hr with hr | hr
  · exact h.2 r hr
  · rw [hr, List.length_set]; exact tabS_row h h0 h1
theorem incAt_get {T : List (List Int)} (h : tabS T) {b t : Int} (h0 : 0 ≤ b) (h1 : b < 12) (h2 : 0 ≤ t) (h3 : t < 14) (b' t' : Int) (h4 : 0 ≤ b') (h6 : 0 ≤ t') :
    getT (incAt T b t) b' t' = if b = b' ∧ t = t' then IntKind.wrap .i64 (getT T b t + 1) else getT T b' t' := by
  unfold getT incAt
  have hb : b.toNat < T.length := by rw [h.1]; omega
  by_cases e : b = b'
  · subst e
    rw [gs_eq hb]
    by_cases e2 : t = t'
    · subst e2
      rw [gs_eq (by rw [tabS_row h h0 h1]; omega)]; simp
    · rw [gs_ne (by omega), if_neg (fun h => e2 h.2)]
  · rw [gs_ne (by omega), if_neg (fun h => e h.1)]
theorem incRow_S {b : Int} (h0 : 0 ≤ b) (h1 : b < 12) : ∀ (k : Nat) (T : List (List Int)) (t : Int), tabS T → tabS (incRow b T t k)
  | 0, _, _, h => h
  | k + 1, T, t, h => incRow_S h0 h1 k _ _ (incAt_S h h0 h1 t)
theorem incRow_get {b : Int} (h0 : 0 ≤ b) (h1 : b < 12) (b' t' : Int) (h4 : 0 ≤ b') (h6 : 0 ≤ t') : ∀ (k : Nat) (T : List (List Int)) (t : Int), tabS T → 0 ≤ t → t + k ≤ 14 →
    getT (incRow b T t k) b' t' = if b = b' ∧ t ≤ t' ∧ t' < t + k then IntKind.wrap .i64 (getT T b' t' + 1) else getT T b' t'
  | 0, T, t, h, _, _ => by rw [if_neg (by omega)]; rfl
  | k + 1, T, t, h, ht, hk => by
    simp only [incRow]
    rw [incRow_get h0 h1 b' t' h4 h6 k _ _ (incAt_S h h0 h1 t) (by omega) (by omega), incAt_get h h0 h1 ht (by omega) b' t' h4 h6]
    by_cases e : b = b'
    · subst e
      by_cases e2 : t = t'
      · subst e2
        rw [if_neg (by omega), if_pos ⟨rfl, rfl⟩, if_pos (by omega)]
      · rw [if_neg (show ¬ (b = b ∧ t = t') from fun h => e2 h.2)]
        by_cases e3 : t + 1 ≤ t' ∧ t' < t + 1 + k
        · rw [if_pos ⟨rfl, e3⟩, if_pos (by omega)]
        · rw [if_neg (fun h => e3 h.2), if_neg (by omega)]
    · rw [if_neg (fun h => e h.1), if_neg (fun h => e h.1), if_neg (fun h => e h.1)]
theorem incCols_S {s : Sh} {n : Int} (hn : n ≤ 12) (hf : formedB s n = true) : ∀ (k : Nat) (T : List (List Int)) (c : Int), tabS T → 0 ≤ c → c + k ≤ s.2.2.1 → tabS (incCols s T c k)
  | 0, _, _, h, _, _ => h
  | k + 1, T, c, h, h0, hk => by
    have hf' := formed_iff.1 hf
    exact incCols_S hn hf k _ _ (incRow_S (by omega) (by omega) _ _ _ h) (by omega) (by omega)
theorem incCols_get {s : Sh} {n : Int} (hn : n ≤ 12) (hf : formedB s n = true) (b' t' : Int) (h4 : 0 ≤ b') (h6 : 0 ≤ t') : ∀ (k : Nat) (T : List (List Int)) (c : Int), tabS T → 0 ≤ c → c + k ≤ s.2.2.1 →
    getT (incCols s T c k) b' t' = if (s.2.1 + c ≤ b' ∧ b' < s.2.1 + c + k) ∧ s.2.2.2.1 ≤ t' ∧ t' < s.2.2.2.2.1 then IntKind.wrap .i64 (getT T b' t' + 1) else getT T b' t'
  | 0, T, c, h, _, _ => by rw [if_neg (by omega)]; rfl
  | k + 1, T, c, h, h0, hk => by
    have hf' := formed_iff.1 hf
    simp only [incCols]
    rw [incCols_get hn hf b' t' h4 h6 k _ _ (incRow_S (by omega) (by omega) _ _ _ h) (by omega) (by omega), incRow_get (by omega) (by omega) b' t' h4 h6 _ _ _ h (by omega) (by omega)]
    by_cases e : s.2.1 + c = b'
    · rw [if_neg (by omega)]
      by_cases e2 : s.2.2.2.1 ≤ t' ∧ t' < s.2.2.2.2.1
      · rw [if_pos (by omega), if_pos (by omega)]
      · rw [if_neg (by omega), if_neg (by omega)]
    · rw [if_neg (show ¬ (s.2.1 + c = b' ∧ _) from fun h => e h.1)]
      by_cases e2 : (s.2.1 + (c + 1) ≤ b' ∧ b' < s.2.1 + (c + 1) + k) ∧ s.2.2.2.1 ≤ t' ∧ t' < s.2.2.2.2.1
      · rw [if_pos e2, if_pos (by omega)]
      · rw [if_neg e2, if_neg (by omega)]
def cntC (tone t : Int) (l : List Sh) : Nat := (l.filter fun s => covers s tone t).length
theorem ownF_snd (tone t : Int) : ∀ (l : List Sh) (a : Int × Int), (ownF tone t l a).2 = a.2 + cntC tone t l
  | [], a => by simp [ownF, cntC]
  | s :: l, a => by
    simp only [ownF, cntC]
    rw [ownF_snd tone t l]
    cases hc : covers s tone t with
    | true => simp [hc, cntC]; omega
    | false => simp [hc, cntC]
theorem owner_snd (g : GR) (tone t : Int) : (owner g tone t).2 = cntC tone t g.2.1 := by unfold owner; rw [ownF_snd]; simp
theorem covers_iff {s : Sh} {tone t : Int} : covers s tone t = true ↔ s.2.2.2.1 ≤ t ∧ t < s.2.2.2.2.1 ∧ 12 * s.2.1 ≤ tone ∧ tone < 12 * (s.2.1 + s.2.2.1) := by unfold covers; simp
theorem incAll_S {n : Int} (hn : n ≤ 12) : ∀ (l : List Sh) (T : List (List Int)), (∀ s ∈ l, formedB s n = true) → tabS T → tabS (incAll l T)
  | [], _, _, h => h
  | s :: l, T, hl, h => by
    have hs := hl s (.head _)
    have hf := formed_iff.1 hs
    exact incAll_S hn l _ (fun x hx => hl x (.tail _ hx)) (incCols_S hn hs _ _ _ h (by omega) (by omega))
theorem incAll_get {n : Int} (hn : n ≤ 12) (b t : Int) (hb : 0 ≤ b) (ht : 0 ≤ t) : ∀ (l : List Sh) (T : List (List Int)), (∀ s ∈ l, formedB s n = true) → tabS T → 0 ≤ getT T b t → getT T b t + l.length ≤ 1000 →
    getT (incAll l T) b t = getT T b t + cntC (12 * b) t l
  | [], T, _, _, _, _ => by simp [incAll, cntC]
  | s :: l, T, hl, h, h0, h1 => by
    have hs := hl s (.head _)
    have hf := formed_iff.1 hs
    simp only [List.length_cons] at h1
    have hg := incCols_get hn hs b t hb ht s.2.2.1.toNat T 0 h (by omega) (by omega)
    have hw : IntKind.wrap .i64 (getT T b t + 1) = getT T b t + 1 := IntWalk.i64_in _ (by omega)
    rw [hw] at hg
    have hc : covers s (12 * b) t = true ↔ (s.2.1 + 0 ≤ b ∧ b < s.2.1 + 0 + s.2.2.1.toNat) ∧ s.2.2.2.1 ≤ t ∧ t < s.2.2.2.2.1 := by rw [covers_iff]; omega
    simp only [incAll]
    have hS := incCols_S hn hs s.2.2.1.toNat T 0 h (by omega) (by omega)
    by_cases e : covers s (12 * b) t = true
    · rw [if_pos (hc.1 e)] at hg
      rw [incAll_get hn b t hb ht l _ (fun x hx => hl x (.tail _ hx)) hS (by omega) (by omega), hg]
      simp [cntC, e]; omega
    · rw [if_neg (fun h => e (hc.2 h))] at hg
      rw [incAll_get hn b t hb ht l _ (fun x hx => hl x (.tail _ hx)) hS (by omega) (by omega), hg]
      simp [cntC, e]
theorem maxF_gt (c : Int) : ∀ (l : List Int) (m : Int), maxF l m > c ↔ m > c ∨ ∃ x ∈ l, x > c
  | [], m => by simp [maxF]
  | x :: l, m => by
    simp only [maxF]
    rw [maxF_gt c l]
    unfold lesser
    simp only [if_true, List.mem_cons, exists_eq_or_imp]
    split
    · constructor
      · rintro (h | h)
        · exact .inr (.inl h)
        · exact .inr (.inr h)
      · rintro (h | h | h)
        · exact .inl (by omega)
        · exact .inl h
        · exact .inr h
    · constructor
      · rintro (h | h)
        · exact .inl h
        · exact .inr (.inr h)
      · rintro (h | h | h)
        · exact .inl h
        · exact .inl (by omega)
        · exact .inr h
theorem maxL_gt (l : List Int) (h : l.length = 14) : maxL l > 1 ↔ ∃ t : Int, 0 ≤ t ∧ t < 14 ∧ l.getD t.toNat 0 > 1 := by
  have hm : maxL l > 1 ↔ ∃ x ∈ l, x > 1 := by
    cases l with
    | nil => simp at h
    | cons x l => unfold maxL; rw [maxF_gt]; simp
  rw [hm]
  constructor
  · rintro ⟨x, hx, h1⟩
    obtain ⟨i, hi, e⟩ := List.getElem_of_mem hx
    refine ⟨i, by omega, by omega, ?_⟩
    rw [List.getD_eq_getElem?_getD, Int.toNat_natCast, List.getElem?_eq_getElem hi, e]; exact h1
  · rintro ⟨t, h1, h2, h3⟩
    have hi : t.toNat < l.length := by omega
    rw [List.getD_eq_getElem?_getD, List.getElem?_eq_getElem hi] at h3
    exact ⟨_, List.getElem_mem hi, h3⟩
theorem over1_iff (T : List (List Int)) : ∀ (k : Nat) (i : Int), over1 T i k = true ↔ ∃ b : Int, i ≤ b ∧ b < i + k ∧ maxL (T.getD b.toNat row14) > 1
  | 0, i => by
    simp only [over1, Bool.false_eq_true, false_iff]
    rintro ⟨b, h1, h2, _⟩; omega
  | k + 1, i => by
    simp only [over1, Bool.or_eq_true, decide_eq_true_eq, over1_iff T k]
    constructor
    · rintro (h | ⟨b, h1, h2, h3⟩)
      · exact ⟨i, by omega, by omega, h⟩
      · exact ⟨b, by omega, by omega, h3⟩
    · rintro ⟨b, h1, h2, h3⟩
      by_cases e : b = i
      · subst e; exact .inl h3
      · exact .inr ⟨b, by omega, by omega, h3⟩
theorem clashT_iff (g : GR) (tone : Int) : ∀ (k : Nat) (t : Int), clashT g tone t k = true ↔ ∃ t' : Int, t ≤ t' ∧ t' < t + k ∧ (owner g tone t').2 > 1
  | 0, i => by
    simp only [clashT, Bool.false_eq_true, false_iff]
    rintro ⟨b, h1, h2, _⟩; omega
  | k + 1, i => by
    simp only [clashT, Bool.or_eq_true, decide_eq_true_eq, clashT_iff g tone k]
    constructor
    · rintro (h | ⟨b, h1, h2, h3⟩)
      · exact ⟨i, by omega, by omega, h⟩
      · exact ⟨b, by omega, by omega, h3⟩
    · rintro ⟨b, h1, h2, h3⟩
      by_cases e : b = i
      · subst e; exact .inl h3
      · exact .inr ⟨b, by omega, by omega, h3⟩
theorem clashF_iff (g : GR) : ∀ (k : Nat) (b : Int), clashF g (12 * b) k = true ↔ ∃ b' t' : Int, b ≤ b' ∧ b' < b + k ∧ 0 ≤ t' ∧ t' < 14 ∧ (owner g (12 * b') t').2 > 1
  | 0, b => by
    simp only [clashF, Bool.false_eq_true, false_iff]
    rintro ⟨b', t', h1, h2, _⟩; omega
  | k + 1, b => by
    have e : 12 * b + 12 = 12 * (b + 1) := by omega
    simp only [clashF, Bool.or_eq_true, clashT_iff, e, clashF_iff g k]
    constructor
    · rintro (⟨t', h1, h2, h3⟩ | ⟨b', t', h1, h2, h3⟩)
      · exact ⟨b, t', by omega, by omega, h1, by simpa using h2, h3⟩
      · exact ⟨b', t', by omega, by omega, h3⟩
    · rintro ⟨b', t', h1, h2, h3, h4, h5⟩
      by_cases e2 : b' = b
      · subst e2; exact .inl ⟨t', h3, by simpa using h4, h5⟩
      · exact .inr ⟨b', t', by omega, by omega, h3, h4, h5⟩
theorem clashB_iff (g : GR) : clashB g = true ↔ ∃ b t : Int, 0 ≤ b ∧ b < g.1.toNat ∧ 0 ≤ t ∧ t < 14 ∧ (owner g (12 * b) t).2 > 1 := by
  unfold clashB
  have := clashF_iff g g.1.toNat 0
  simpa using this
theorem table_S {g : GR} (h1 : sizeB g = true) (h2 : shapedB g = true) : tabS (table g) :=
  incAll_S (sizeB_iff.1 h1).2.1 _ _ (shaped_iff.1 h2) ⟨rfl, fun r hr => by rw [List.eq_of_mem_replicate hr]; rfl⟩
theorem table_clash {g : GR} (h1 : sizeB g = true) (h2 : shapedB g = true) : over1 (table g) 0 12 = clashB g := by
  have hs := sizeB_iff.1 h1
  have hsh := shaped_iff.1 h2
  have hS := table_S h1 h2
  have h0 : tabS (List.replicate 12 row14) := ⟨rfl, fun r hr => by rw [List.eq_of_mem_replicate hr]; rfl⟩
  have hz : ∀ b t : Int, getT (List.replicate 12 row14) b t = 0 := by
    intro b t
    unfold getT
    have : (List.replicate 12 row14).getD b.toNat row14 = row14 := by
      rw [List.getD_eq_getElem?_getD, List.getElem?_replicate]; split <;> rfl
    rw [this]
    unfold row14
    rw [List.getD_eq_getElem?_getD, List.getElem?_replicate]; split <;> rfl
  have hg : ∀ b t : Int, 0 ≤ b → 0 ≤ t → getT (table g) b t = cntC (12 * b) t g.2.1 := by
    intro b t hb ht
    have := incAll_get hs.2.1 b t hb ht g.2.1 _ hsh h0 (by rw [hz]; omega) (by rw [hz]; omega)
    rw [hz] at this
    simpa [table] using this
  rw [Bool.eq_iff_iff, over1_iff, clashB_iff]
  constructor
  · rintro ⟨b, b0, b1, h⟩
    have b1 : b < 12 := by simpa using b1
    obtain ⟨t, t0, t1, h⟩ := (maxL_gt _ (tabS_row hS b0 b1)).1 h
    have e : (table g |>.getD b.toNat row14).getD t.toNat 0 = getT (table g) b t := rfl
    rw [e, hg b t b0 t0] at h
    refine ⟨b, t, b0, ?_, t0, t1, by rw [owner_snd]; exact h⟩
    -- a block beyond the last is nobody's
    rcases Int.lt_or_le b g.1 with hlt | hge
    · omega
    · exfalso
      have : cntC (12 * b) t g.2.1 = 0 := by
        unfold cntC
        rw [List.length_eq_zero_iff, List.filter_eq_nil_iff]
        intro s hs' hc
        have hf := formed_iff.1 (hsh s hs')
        have := covers_iff.1 hc
        omega
      omega
  · rintro ⟨b, t, b0, b1, t0, t1, h⟩
    have b2 : b < 12 := by omega
    refine ⟨b, b0, by omega, (maxL_gt _ (tabS_row hS b0 b2)).2 ⟨t, t0, t1, ?_⟩⟩
    have e : (table g |>.getD b.toNat row14).getD t.toNat 0 = getT (table g) b t := rfl
    rw [e, hg b t b0 t0, ← owner_snd]; exact h
end Go.Spec
