/- Both senders of blocks, side by side: what one answers the other answers. -/
import Derived.Test.YtppemehkbnbjlaaM2
set_option linter.unusedVariables false
set_option linter.unusedSimpArgs false
namespace Go.Spec
open Go Go.Lift
/-- No key is there twice. -/
def keysE {β : Type} (es : List (Int × β)) : Prop := es.Pairwise fun a b => a.1 ≠ b.1
theorem mem_putE_key {β : Type} : ∀ {es : List (Int × β)} {k : Int} {y : β} {e : Int × β}, e ∈ putE es k y → e.1 = k ∨ e ∈ es
  | [], k, y, e, h => by simp only [putE, List.mem_singleton] at h; subst h; exact .inl rfl
  | a :: es, k, y, e, h => by
    simp only [putE] at h
    split at h
    · rcases List.mem_cons.1 h with h | h
      · subst h; exact .inl rfl
      · exact .inr (.tail _ h)
    · rcases List.mem_cons.1 h with h | h
      · subst h; exact .inr (.head _)
      · exact (mem_putE_key h).imp id (.tail _)
theorem keysE_putE {β : Type} : ∀ {es : List (Int × β)} {k : Int} {y : β}, keysE es → keysE (putE es k y)
  | [], k, y, _ => by simp [putE, keysE]
  | a :: es, k, y, h => by
    obtain ⟨h1, h2⟩ := List.pairwise_cons.1 h
    simp only [putE]
    split
    · rename_i e; exact List.pairwise_cons.2 ⟨fun b hb => by rw [← e]; exact h1 b hb, h2⟩
    · rename_i hne
      refine List.pairwise_cons.2 ⟨fun b hb => ?_, keysE_putE h2⟩
      rcases mem_putE_key hb with e | hb
      · rw [e]; exact hne
      · exact h1 b hb
theorem mem_setE_key' {β : Type} : ∀ {es : List (Int × β)} {k : Int} {y : β} {e : Int × β}, e ∈ setE es k y → ∃ e' ∈ es, e'.1 = e.1
  | [], k, y, e, h => by simp [setE] at h
  | a :: es, k, y, e, h => by
    simp only [setE] at h
    split at h
    · rename_i hk
      rcases List.mem_cons.1 h with h | h
      · subst h; exact ⟨a, .head _, hk⟩
      · exact ⟨e, .tail _ h, rfl⟩
    · rcases List.mem_cons.1 h with h | h
      · subst h; exact ⟨e, .head _, rfl⟩
      · obtain ⟨e', h1, h2⟩ := mem_setE_key' h; exact ⟨e', .tail _ h1, h2⟩
theorem keysE_setE {β : Type} : ∀ {es : List (Int × β)} {k : Int} {y : β}, keysE es → keysE (setE es k y)
  | [], k, y, h => h
  | a :: es, k, y, h => by
    obtain ⟨h1, h2⟩ := List.pairwise_cons.1 h
    simp only [setE]
    split
    · rename_i e; exact List.pairwise_cons.2 ⟨fun b hb => by rw [← e]; exact h1 b hb, h2⟩
    · refine List.pairwise_cons.2 ⟨fun b hb => ?_, keysE_setE h2⟩
      obtain ⟨e', h3, h4⟩ := mem_setE_key' hb
      rw [← h4]; exact h1 e' h3
theorem delE_sub {β : Type} : ∀ (es : List (Int × β)) (k : Int), (delE es k).Sublist es
  | [], _ => List.Sublist.refl _
  | a :: es, k => by
    simp only [delE]
    split
    · exact List.sublist_cons_self ..
    · exact (delE_sub es k).cons_cons _
theorem keysE_delE {β : Type} {es : List (Int × β)} {k : Int} (h : keysE es) : keysE (delE es k) := List.Pairwise.sublist (delE_sub es k) h
theorem getE_delE {β : Type} : ∀ {es : List (Int × β)} (k j : Int), keysE es → getE (delE es k) j = if k = j then none else getE es j
  | [], k, j, _ => by simp [delE, getE]
  | (x, y) :: es, k, j, h => by
    obtain ⟨h1, h2⟩ := List.pairwise_cons.1 h
    simp only [delE]
    split
    · rename_i e
      have e : x = k := e
      subst e
      by_cases hj : x = j
      · subst hj
        rw [if_pos rfl]
        exact (ent_absent fun e he => (h1 e he).symm).1
      · rw [if_neg hj]; simp [getE, hj]
    · rename_i hne
      have hne : x ≠ k := hne
      simp only [getE]
      rw [getE_delE k j h2]
      by_cases hj : x = j
      · subst hj; simp [Ne.symm hne]
      · simp [hj]
def keys1 (o : Option (List (Int × Option BL))) : Prop := match o with
  | none => True
  | some es => keysE es
theorem keys1_putO {o : Option (List (Int × Option BL))} {k : Int} {y : Option BL} (h : keys1 o) : keys1 (putO o k y) := by
  cases o with
  | none => trivial
  | some es => exact keysE_putE h
theorem keys1_setO {o : Option (List (Int × Option BL))} {k : Int} {y : Option BL} (h : keys1 o) : keys1 (setO o k y) := by
  cases o with
  | none => trivial
  | some es => exact keysE_setE h
theorem keys1_delO {o : Option (List (Int × Option BL))} {k : Int} (h : keys1 o) : keys1 (delO' o k) := by
  cases o with
  | none => trivial
  | some es => exact keysE_delE h
theorem getO_delO {o : Option (List (Int × Option BL))} (k j : Int) (h : keys1 o) : getO (delO' o k) j = if k = j then none else getO o j := by
  cases o with
  | none => simp [delO', getO]
  | some es => exact getE_delE k j h
def hr (s : HS) (r : RS) : Prop := s.1 = r.1 ∧ 1 ≤ s.1 ∧ s.1 ≤ 8 ∧ s.2.1.length = 8 ∧ r.2.1.length = 8 ∧ s.2.2.1.isSome = true ∧ keys1 s.2.2.1 ∧
  ∀ k, 0 ≤ k → k ≤ 7 → (proc r k).2.1 = s.2.1.getD k.toNat false ∧ match blk s k with
    | none => (proc r k).1 = false
    | some b => (proc r k).1 = true ∧ (proc r k).2.2.1 = b.2.2.1 ∧ (proc r k).2.2.2.1 = b.1 ∧ (proc r k).2.2.2.2.1 = b.2.1 ∧ 0 ≤ b.2.1 ∧ (b.2.2.1 = false → b.2.1 < s.1) ∧ b.2.1 ≤ s.1
theorem free_congr {p q : Int → Bool} : ∀ (n : Nat) (i : Int), (∀ k, i ≤ k → k < i + n → p k = q k) → free p i n = free q i n
  | 0, _, _ => rfl
  | n + 1, i, h => by
    simp only [free]
    rw [h i (by omega) (by omega), free_congr n (i + 1) fun k h1 h2 => h k (by omega) (by omega)]
theorem free_spec {p : Int → Bool} : ∀ (n : Nat) (i k : Int), free p i n = some k → i ≤ k ∧ k < i + n ∧ p k = true
  | 0, _, _, h => by cases h
  | n + 1, i, k, h => by
    simp only [free] at h
    split at h
    · cases h; exact ⟨by omega, by omega, by assumption⟩
    · obtain ⟨h1, h2, h3⟩ := free_spec n (i + 1) k h
      exact ⟨by omega, by omega, h3⟩
theorem waitL_congr {p q : Int → Bool} : ∀ (n : Nat) (i : Int), (∀ k, i ≤ k → k < i + n → p k = q k) → waitL p i n = waitL q i n
  | 0, _, _ => rfl
  | n + 1, i, h => by
    simp only [waitL]
    rw [h i (by omega) (by omega), waitL_congr n (i + 1) fun k h1 h2 => h k (by omega) (by omega)]
theorem waitL_length {p : Int → Bool} : ∀ (n : Nat) (i : Int), (waitL p i n).length ≤ n
  | 0, _ => Nat.le_refl _
  | n + 1, i => by
    have := waitL_length (p := p) n (i + 1)
    simp only [waitL, List.length_append]
    split <;> simp <;> omega
theorem busy_iff {s : HS} {r : RS} (h : hr s r) {k : Int} (h0 : 0 ≤ k) (h7 : k ≤ 7) : (proc r k).1 = (blk s k).isSome := by
  have := (h.2.2.2.2.2.2.2 k h0 h7).2
  cases hb : blk s k with
  | none => rw [hb] at this; exact this
  | some b => rw [hb] at this; exact this.1
theorem wait_eq {s : HS} {r : RS} (h : hr s r) : waitS s 0 = waitR r 0 := waitL_congr _ _ fun k h1 h2 => by
  have h2 : k < 0 + 8 := by simpa using h2
  exact (busy_iff h h1 (by omega)).symm
theorem wait_len (s : HS) : (waitS s 0).length ≤ 8 := waitL_length _ _
theorem free_eq {s : HS} {r : RS} (h : hr s r) : freeS s 0 = freeR r 0 := free_congr _ _ fun k h1 h2 => by
  have h2 : k < 0 + 8 := by simpa using h2
  rw [busy_iff h h1 (by omega)]
  cases blk s k <;> rfl
theorem toNat_ne {j k : Int} (h0 : 0 ≤ j) (h1 : 0 ≤ k) (h : j ≠ k) : j.toNat ≠ k.toNat := by omega
theorem getD_set_ne' {α : Type} {l : List α} {i j : Nat} {a d : α} (h : i ≠ j) : (l.set i a).getD j d = l.getD j d := by
  rw [List.getD_eq_getElem?_getD, List.getElem?_set_ne h, ← List.getD_eq_getElem?_getD]
theorem getD_set_eq' {α : Type} {l : List α} {i : Nat} {a d : α} (h : i < l.length) : (l.set i a).getD i d = a := by
  rw [List.getD_eq_getElem?_getD, List.getElem?_set_self h]; rfl
theorem getO_putO (o : Option (List (Int × Option BL))) (k j : Int) (y : Option BL) (h : o.isSome = true) : getO (putO o k y) j = if k = j then some y else getO o j := by
  cases o with
  | none => cases h
  | some es => exact getE_putE es k j y
theorem getO_setO (o : Option (List (Int × Option BL))) (k j : Int) (y : Option BL) : getO (setO o k y) j = if k = j ∧ (getO o k).isSome = true then some y else getO o j := by
  cases o with
  | none => simp [setO, getO]
  | some es => exact getE_setE es k j y
theorem sub_eq {s : HS} {r : RS} (h : hr s r) (d : ByteArray) : (subS s d).1 = (subR r d).1 ∧ hr (subS s d).2 (subR r d).2 := by
  unfold subS subR
  rw [free_eq h]
  split
  · exact ⟨rfl, h⟩
  · split
    · rename_i hf
      obtain ⟨k, hk⟩ := Option.isSome_iff_exists.1 hf
      rw [hk]
      simp only [Option.getD_some]
      have hk' := hk
      rw [← free_eq h] at hk'
      obtain ⟨k0, k8, hn⟩ := free_spec _ _ _ hk'
      have k8 : k < 0 + 8 := by simpa using k8
      refine ⟨trivial, ?_⟩
      obtain ⟨e1, e2, e3, e4, e5, e6, e7, e8⟩ := h
      refine ⟨e1, e2, e3, by simp [putS, e4], by simp [putR, e5], ?_, keys1_putO e7, fun j j0 j7 => ?_⟩
      · show (putO s.2.2.1 k _).isSome = true
        cases hb : s.2.2.1 with
        | none => rw [hb] at e6; cases e6
        | some es => rfl
      · have hb : blk (putS s k d) j = if k = j then some (d, 0, false, ()) else blk s j := by
          show (getO (putO s.2.2.1 k _) j).getD none = _
          rw [getO_putO _ _ _ _ e6]
          split <;> rfl
        rw [hb]
        by_cases hkj : k = j
        · subst hkj
          have hp : proc (putR r k d) k = (true, !(proc r k).2.1, false, d, 0, ()) := getD_set_eq' (by omega)
          have hfl : (putS s k d).2.1.getD k.toNat false = !s.2.1.getD k.toNat false := getD_set_eq' (by omega)
          rw [hp, hfl, if_pos rfl]
          refine ⟨by rw [(e8 k j0 j7).1], rfl, rfl, rfl, rfl, Int.le_refl _, fun _ => ?_, ?_⟩ <;> show _ ; · show (0 : Int) < s.1; omega
          · show (0 : Int) ≤ s.1; omega
        · have hp : proc (putR r k d) j = proc r j := getD_set_ne' (by omega)
          have hfl : (putS s k d).2.1.getD j.toNat false = s.2.1.getD j.toNat false := getD_set_ne' (by omega)
          rw [hp, hfl, if_neg hkj]
          exact e8 j j0 j7
    · exact ⟨rfl, h⟩
theorem blk_setB {s : HS} {k j : Int} {b b0 : BL} (hb : blk s k = some b0) : blk (setB s k b) j = if k = j then some b else blk s j := by
  show (getO (setO s.2.2.1 k (some b)) j).getD none = _
  rw [getO_setO]
  have : (getO s.2.2.1 k).isSome = true := by
    have hb : (getO s.2.2.1 k).getD none = some b0 := hb
    cases h : getO s.2.2.1 k with
    | none => rw [h] at hb; cases hb
    | some y => rfl
  by_cases hkj : k = j
  · subst hkj; simp [this]
  · simp [hkj]; rfl
theorem ver_eq {n : Int} (h0 : 0 ≤ n) (h8 : n < 8) : ([0, 2, 3, 1] : List Int).getD (Int.tmod n 4).toNat 0 = ([0, 2, 3, 1, 0, 2, 3, 1] : List Int).getD n.toNat 0 := by
  obtain ⟨m, rfl⟩ := Int.eq_ofNat_of_zero_le h0
  have : m < 8 := by omega
  match m, this with
  | 0, _ => rfl
  | 1, _ => rfl
  | 2, _ => rfl
  | 3, _ => rfl
  | 4, _ => rfl
  | 5, _ => rfl
  | 6, _ => rfl
  | 7, _ => rfl
theorem next_eq {s : HS} {r : RS} (h : hr s r) (k : Int) : (nextS s k).1 = (nextR r k).1 ∧ hr (nextS s k).2 (nextR r k).2 := by
  unfold nextS nextR
  split
  · exact ⟨rfl, h⟩
  · rename_i hk
    have k0 : 0 ≤ k := by omega
    have k7 : k ≤ 7 := by omega
    obtain ⟨e1, e2, e3, e4, e5, e6, e7, e8⟩ := h
    have hx := e8 k k0 k7
    cases hb : blk s k with
    | none =>
      rw [hb] at hx
      simp only [hx.2, if_true]
      exact ⟨trivial, e1, e2, e3, e4, e5, e6, e7, e8⟩
    | some b =>
      rw [hb] at hx
      obtain ⟨f0, f1, f2, f3, f4, f5, f6, f7⟩ := hx
      simp only [f1, f2, Bool.true_eq_false, if_false]
      split
      · exact ⟨rfl, e1, e2, e3, e4, e5, e6, e7, e8⟩
      · rename_i ho
        have ho : b.2.2.1 = false := by simpa using ho
        have hlt := f6 ho
        refine ⟨?_, e1, e2, e3, e4, by simp [e5], by show (setO _ _ _).isSome = true; rw [setO_isSome]; exact e6, keys1_setO e7, fun j j0 j7 => ?_⟩
        · simp only [Prod.mk.injEq, true_and, and_true]
          refine ⟨?_, f0.symm, f3.symm⟩
          rw [f4]; exact ver_eq f5 (by omega)
        · rw [blk_setB hb]
          by_cases hkj : k = j
          · subst hkj
            have hp : proc (r.1, r.2.1.set k.toNat (true, (proc r k).2.1, true, (proc r k).2.2.2.1, (proc r k).2.2.2.2.1 + 1, ()), r.2.2) k = (true, (proc r k).2.1, true, (proc r k).2.2.2.1, (proc r k).2.2.2.2.1 + 1, ()) := getD_set_eq' (by omega)
            rw [hp, if_pos rfl]
            refine ⟨f0, rfl, rfl, f3, by rw [f4], by show 0 ≤ b.2.1 + 1; omega, fun h => (by cases h), by show b.2.1 + 1 ≤ s.1; omega⟩
          · have hp : proc (r.1, r.2.1.set k.toNat (true, (proc r k).2.1, true, (proc r k).2.2.2.1, (proc r k).2.2.2.2.1 + 1, ()), r.2.2) j = proc r j := getD_set_ne' (by omega)
            rw [hp, if_neg hkj]
            exact e8 j j0 j7
theorem ans_eq {s : HS} {r : RS} (h : hr s r) (k : Int) (yes : Bool) : (ansS s k yes).1 = (ansR r k yes).1 ∧ hr (ansS s k yes).2 (ansR r k yes).2 := by
  unfold ansS ansR
  split
  · exact ⟨rfl, h⟩
  · rename_i hk
    have k0 : 0 ≤ k := by omega
    have k7 : k ≤ 7 := by omega
    obtain ⟨e1, e2, e3, e4, e5, e6, e7, e8⟩ := h
    have hx := e8 k k0 k7
    cases hb : blk s k with
    | none =>
      rw [hb] at hx
      simp only [hx.2, if_true]
      exact ⟨trivial, e1, e2, e3, e4, e5, e6, e7, e8⟩
    | some b =>
      rw [hb] at hx
      obtain ⟨f0, f1, f2, f3, f4, f5, f6, f7⟩ := hx
      simp only [f1, f2, Bool.true_eq_false, if_false]
      split
      · exact ⟨rfl, e1, e2, e3, e4, e5, e6, e7, e8⟩
      · have hbz : busyR r k yes = !decide (yes = true ∨ b.2.1 = s.1) := by
          unfold busyR
          rw [f4, ← e1]
          cases yes with
          | true => simp
          | false =>
            by_cases hn : b.2.1 = s.1
            · simp [hn]
            · have : b.2.1 < s.1 := by omega
              simp [hn, this]
        rw [hbz]
        have hpk : ∀ t : TR, proc (r.1, r.2.1.set k.toNat t, r.2.2) k = t := fun t => getD_set_eq' (by omega)
        have hpj : ∀ (t : TR) (j : Int), 0 ≤ j → k ≠ j → proc (r.1, r.2.1.set k.toNat t, r.2.2) j = proc r j := fun t j j0 hj => getD_set_ne' (by omega)
        split
        · rename_i hy
          refine ⟨by simp [hy], e1, e2, e3, e4, by simp [e5], ?_, keys1_delO e7, fun j j0 j7 => ?_⟩
          · show (delO' s.2.2.1 k).isSome = true
            cases hbm : s.2.2.1 with
            | none => rw [hbm] at e6; cases e6
            | some es => rfl
          · have hbl : blk (s.1, s.2.1, delO' s.2.2.1 k, s.2.2.2) j = if k = j then none else blk s j := by
              show (getO (delO' s.2.2.1 k) j).getD none = _
              rw [getO_delO _ _ e7]
              split <;> rfl
            rw [hbl]
            by_cases hkj : k = j
            · subst hkj
              rw [hpk, if_pos rfl]
              exact ⟨f0, by simp [hy]⟩
            · rw [hpj _ j j0 hkj, if_neg hkj]; exact e8 j j0 j7
        · rename_i hy
          refine ⟨by simp [hy], e1, e2, e3, e4, by simp [e5], by show (setO _ _ _).isSome = true; rw [setO_isSome]; exact e6, keys1_setO e7, fun j j0 j7 => ?_⟩
          rw [blk_setB hb]
          by_cases hkj : k = j
          · subst hkj
            rw [hpk, if_pos rfl]
            refine ⟨f0, by simp [hy], rfl, f3, f4, f5, fun _ => ?_, f7⟩
            show b.2.1 < s.1
            have : b.2.1 ≠ s.1 := fun e => hy (.inr e)
            omega
          · rw [hpj _ j j0 hkj, if_neg hkj]; exact e8 j j0 j7
theorem new_hr {limit : Int} (h : 1 ≤ limit ∧ limit ≤ 8) : hr (limit, List.replicate 8 false, some [], ()) (limit, List.replicate 8 t0R, ()) := by
  refine ⟨rfl, h.1, h.2, by simp, by simp, rfl, List.Pairwise.nil, fun k k0 k7 => ?_⟩
  have hb : blk (limit, List.replicate 8 false, some [], ()) k = none := rfl
  have hp : proc (limit, List.replicate 8 t0R, ()) k = t0R := by
    show (List.replicate 8 t0R).getD k.toNat t0R = t0R
    rw [List.getD_eq_getElem?_getD, List.getElem?_replicate]
    split <;> rfl
  have hf : (List.replicate 8 false).getD k.toNat false = false := by
    rw [List.getD_eq_getElem?_getD, List.getElem?_replicate]
    split <;> rfl
  rw [hb, hp]
  exact ⟨hf.symm, rfl⟩
end Go.Spec
