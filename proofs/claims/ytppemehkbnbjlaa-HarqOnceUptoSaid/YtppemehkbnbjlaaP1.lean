/- A sender of blocks, run through: what it answers. -/
import Derived.Test.YtppemehkbnbjlaaV1
set_option linter.unusedVariables false
set_option linter.unusedSimpArgs false
namespace Go.Spec
open Go Go.Lift Go.Proofs
attribute [local irreducible] Go.Lift.awp Go.Lift.LoopOK Go.Lift.SumOK
theorem i64w {n : Int} (h : -9223372036854775808 ≤ n ∧ n ≤ 9223372036854775807) : IntKind.i64.wrap n = n := IntWalk.i64_in n h
theorem getD_mem {l : List Int} {i : Nat} (h : i < l.length) : l.getD i 0 ∈ l := by
  rw [List.getD_eq_getElem?_getD, List.getElem?_eq_getElem h]; simp
theorem big_val : big = 1125899906842624 := by unfold big; decide
theorem l_R_SameInts_0 : LoopOK E_R_SameInts 0 (loopAt (bodyOf Try.f16) 0) L_R_SameInts_0 := I_R_SameInts_0 <| by
  intro t0 t1 t5 K hp ho
  obtain ⟨h1, h2, h3, h4⟩ := hp
  rw [big_val] at h4
  obtain ⟨n, rfl⟩ := Int.eq_ofNat_of_zero_le h2
  have e : ((n : Int) + 1).toNat = n + 1 := by omega
  unfold B_R_SameInts_0
  unfold o_R_SameInts_0 at ho ⊢
  simp only [condP_iff, decide_eq_true_eq, decide_eq_false_iff_not, Int.toNat_natCast] at ho ⊢
  refine ⟨fun hlt => ⟨h2, hlt, h2, by omega, fun hne => ho.2 ?_, fun heq => ?_⟩, fun hge => ho.1 ?_⟩
  · rw [drop_cons t0 n 0 (by omega), drop_cons t1 n 0 (by omega)]
    intro e
    rw [List.cons.injEq] at e
    rw [e.1] at hne; simp at hne
  · rw [i64w (by omega), e]
    refine ⟨⟨h1, by omega, by omega, by rw [big_val]; omega⟩, by unfold m_R_SameInts_0; omega, ?_⟩
    rw [drop_cons t0 n 0 (by omega), drop_cons t1 n 0 (by omega)] at ho
    have heq' : t0.getD n 0 = t1.getD n 0 := by simpa using heq
    rw [heq'] at ho
    simpa using ho
  · rw [List.drop_eq_nil_of_le (by omega), List.drop_eq_nil_of_le (by omega)]
theorem ok_R_SameInts : SumOK Try.prog 16 S_R_SameInts := by
  refine whole_R_SameInts l_R_SameInts_0 ?_
  intro a0 a1 hpre
  unfold W_R_SameInts p_R_SameInts_0
  simp only [condP_iff]
  by_cases h : a0 = a1
  · subst h; simp; omega
  · simp [h]; omega
theorem rng (a : Int) : (if decide (a < 0) = true then true else decide (a > 7)) = decide (a < 0 ∨ 7 < a) := by
  by_cases h : a < 0 <;> simp [h]

theorem free_step {p : Int → Bool} {i : Int} {n : Nat} : free p i (n + 1) = if p i = true then some i else free p (i + 1) n := rfl
theorem to8 {i : Int} (h : 0 ≤ i) (h2 : i < 8) : (8 - i).toNat = (8 - (i + 1)).toNat + 1 := by omega
theorem ok_harq_NewSender : SumOK Try.prog 44 S_harq_NewSender := by
  refine whole_harq_NewSender ?_
  intro a0 _
  unfold W_harq_NewSender newS
  simp only [condP_iff]
  by_cases h : 1 ≤ a0 ∧ a0 ≤ 8
  · simp [h]
  · simp [h]
theorem l_harq_Sender_Submit_0 : LoopOK E_harq_Sender_Submit 0 (loopAt (bodyOf Try.f45) 0) L_harq_Sender_Submit_0 := I_harq_Sender_Submit_0 <| by
  intro t1 t10 r0 K hp ho
  obtain ⟨h1, h2, h3⟩ := hp
  obtain ⟨lim, fl, bm, ⟨⟩⟩ := r0
  unfold B_harq_Sender_Submit_0
  unfold o_harq_Sender_Submit_0 at ho ⊢
  simp only [condP_iff, decide_eq_true_eq, decide_eq_false_iff_not] at ho ⊢
  have h3 : bm.isSome = true := h3
  refine ⟨fun hlt => ?_, fun hge => ho.2 ?_⟩
  · have hf : freeS (lim, fl, bm, ()) t10 = if (blk (lim, fl, bm, ()) t10).isNone = true then some t10 else freeS (lim, fl, bm, ()) (t10 + 1) := by
      unfold freeS; rw [to8 h1 hlt, free_step]
    have hb : blk (lim, fl, bm, ()) t10 = (getO bm t10).getD none := rfl
    refine ⟨trivial, fun h => ?_, fun h => ?_, fun h => ?_⟩
    · cases hg : getO bm t10 with
      | none => simp [hg]
      | some y => simp [hg] at h
    · rw [hf, hb, if_pos h] at ho
      refine ⟨by rw [setO_isSome]; exact h3, ?_⟩
      have := ho.1 rfl
      simp only [setO_getO, setO_putO]
      exact ⟨h1, hlt, h1, hlt, this⟩
    · rw [hf, hb, if_neg (by simp [h])] at ho
      rw [i64w (by omega)]
      simp only [setO_getO]
      exact ⟨⟨by omega, by omega, h3⟩, by unfold m_harq_Sender_Submit_0; omega, ho⟩
  · unfold freeS
    rw [show (8 - t10).toNat = 0 by omega]; rfl
theorem ok_harq_Sender_Submit : SumOK Try.prog 45 S_harq_Sender_Submit := by
  refine whole_harq_Sender_Submit l_harq_Sender_Submit_0 ?_
  intro a0 a1 hp
  unfold W_harq_Sender_Submit p_harq_Sender_Submit_0 subS
  simp only [condP_iff]
  by_cases h : (1500 : Int) < a1.size
  · simp [h]
  · by_cases h2 : (freeS a0 0).isSome = true
    · simp [h, h2]; exact hp
    · simp [h, h2]; exact hp
theorem l_R_Tries_Submit_0 : LoopOK E_R_Tries_Submit 0 (loopAt (bodyOf Try.f46) 0) L_R_Tries_Submit_0 := I_R_Tries_Submit_0 <| by
  intro t1 t6 r0 K hp ho
  obtain ⟨h1, h2⟩ := hp
  unfold B_R_Tries_Submit_0
  unfold o_R_Tries_Submit_0 at ho ⊢
  simp only [condP_iff, decide_eq_true_eq, decide_eq_false_iff_not] at ho ⊢
  refine ⟨fun hlt => ⟨h1, hlt, ?_⟩, fun hge => ho.2 ?_⟩
  · have hf : freeR r0 t6 = if (!(proc r0 t6).1) = true then some t6 else freeR r0 (t6 + 1) := by
      unfold freeR; rw [to8 h1 hlt, free_step]
    refine ⟨fun h => ?_, fun h => ?_⟩
    · have h : (!(proc r0 t6).1) = true := h
      rw [hf, if_pos h] at ho
      have := ho.1 rfl
      exact ⟨h1, hlt, h1, hlt, this⟩
    · have h : (!(proc r0 t6).1) = false := h
      rw [hf, if_neg (by simp [h])] at ho
      rw [i64w (by omega)]
      exact ⟨⟨by omega, by omega⟩, by unfold m_R_Tries_Submit_0; omega, ho⟩
  · unfold freeR
    rw [show (8 - t6).toNat = 0 by omega]; rfl
theorem ok_R_Tries_Submit : SumOK Try.prog 46 S_R_Tries_Submit := by
  refine whole_R_Tries_Submit l_R_Tries_Submit_0 ?_
  intro a0 a1 hp
  unfold W_R_Tries_Submit p_R_Tries_Submit_0 subR
  simp only [condP_iff]
  by_cases h : (1500 : Int) < a1.size
  · simp [h]
  · by_cases h2 : (freeR a0 0).isSome = true
    · simp [h, h2]
    · simp [h, h2]
theorem ok_harq_Sender_Next : SumOK Try.prog 47 S_harq_Sender_Next := by
  refine whole_harq_Sender_Next ?_
  intro a0 a1 hp
  obtain ⟨lim, fl, bm, ⟨⟩⟩ := a0
  unfold W_harq_Sender_Next nextS
  have hb : blk (lim, fl, bm, ()) a1 = (getO bm a1).getD none := rfl
  have hp : 0 ≤ a1 ∧ a1 ≤ 7 → ∀ b, blk (lim, fl, bm, ()) a1 = some b → 0 ≤ b.2.1 ∧ b.2.1 ≤ 8 := hp
  simp only [condP_iff, rng]
  by_cases h : a1 < 0 ∨ 7 < a1
  · simp [h, shot0]
  · have hp := hp (by omega)
    simp only [h, if_false, setO_getO, hb]
    cases hg : (getO bm a1).getD none with
    | none => simp [shot0]
    | some b =>
      obtain ⟨d, n, o, ⟨⟩⟩ := b
      have hn := hp _ (hb.trans hg)
      have hs : setO bm a1 (some (d, n, o, ())) = bm := by rw [← hg]; exact setO_getO bm a1
      have hn1 : 0 ≤ n ∧ n ≤ 8 := hn
      have hne : getO bm a1 ≠ none := fun e => by rw [e] at hg; cases hg
      cases o with
      | true => simp [shot0, hs, hne]
      | false =>
        have hw : IntKind.wrap .i64 (n + 1) = n + 1 := i64w (by omega)
        simp only [hw]
        have h1 := Int.emod_nonneg n (b := 4) (by decide)
        have h2 := Int.emod_lt_of_pos n (b := 4) (by decide)
        have h3 : Int.tmod n 4 = n % 4 := Int.tmod_eq_emod_of_nonneg hn1.1
        rw [← h3] at h1 h2
        simp [shot0, setB, hne, hw]
        omega
theorem proc_at {r : RS} {k : Int} : r.2.1.getD k.toNat (false, false, false, ByteArray.empty, 0, ()) = proc r k := rfl
theorem getD_set8 {l : List TR} (hl : l.length = 8) {k : Int} (h0 : 0 ≤ k) (h1 : k ≤ 7) (t d : TR) : (l.set k.toNat t).getD k.toNat d = t := by
  rw [List.getD_eq_getElem?_getD, List.getElem?_set_self (by omega)]; rfl
theorem ok_R_Tries_Next : SumOK Try.prog 48 S_R_Tries_Next := by
  refine whole_R_Tries_Next ?_
  intro a0 a1 hp
  obtain ⟨lim, l, ⟨⟩⟩ := a0
  obtain ⟨hl, hp⟩ := hp
  have hl : l.length = 8 := hl
  have hp : 0 ≤ a1 ∧ a1 ≤ 7 → (proc (lim, l, ()) a1).1 = true → (proc (lim, l, ()) a1).2.2.1 = false → 0 ≤ (proc (lim, l, ()) a1).2.2.2.2.1 ∧ (proc (lim, l, ()) a1).2.2.2.2.1 < 8 := hp
  unfold W_R_Tries_Next nextR
  have hP : l.getD a1.toNat (false, false, false, ByteArray.empty, 0, ()) = proc (lim, l, ()) a1 := rfl
  simp only [condP_iff, rng]
  by_cases h : a1 < 0 ∨ 7 < a1
  · simp [h, shot0]
  · simp only [h, if_false, hP]
    have hr : 0 ≤ a1 ∧ a1 ≤ 7 := by omega
    have hp := hp hr
    generalize hq : proc (lim, l, ()) a1 = q at hp ⊢
    obtain ⟨b, f, o, d, n, ⟨⟩⟩ := q
    cases b with
    | false => simp [shot0]; omega
    | true =>
      cases o with
      | true => simp [shot0]; omega
      | false =>
        have hn : 0 ≤ n ∧ n < 8 := hp rfl rfl
        have hw : IntKind.wrap .i64 (n + 1) = n + 1 := i64w (by omega)
        have hset : ∀ t, (l.set a1.toNat t)[a1.toNat]? = some t := fun t => List.getElem?_set_self (by omega)
        simp only [hw, getD_set8 hl hr.1 hr.2]
        simp [hset, hw]
        omega
theorem ok_harq_Sender_Answer : SumOK Try.prog 49 S_harq_Sender_Answer := by
  refine whole_harq_Sender_Answer ?_
  intro a0 a1 a2 hp
  obtain ⟨lim, fl, bm, ⟨⟩⟩ := a0
  have hp : bm.isSome = true := hp
  unfold W_harq_Sender_Answer ansS
  have hb : blk (lim, fl, bm, ()) a1 = (getO bm a1).getD none := rfl
  simp only [condP_iff, rng]
  by_cases h : a1 < 0 ∨ 7 < a1
  · simp [h]
  · simp only [h, if_false, setO_getO, hb, delO_setO, setO_isSome]
    cases hg : (getO bm a1).getD none with
    | none => simp
    | some b =>
      obtain ⟨d, n, o, ⟨⟩⟩ := b
      have hne : getO bm a1 ≠ none := fun e => by rw [e] at hg; cases hg
      have hs : setO bm a1 (some (d, n, o, ())) = bm := by rw [← hg]; exact setO_getO bm a1
      cases o with
      | false => simp [hs, hne]
      | true =>
        by_cases hy : a2 = true ∨ n = lim
        · have hy' : (if a2 = true then true else n == lim) = true := by
            rcases hy with hy | hy <;> simp [hy]
          simp [hne, hy, hy', hp]
        · have hy' : (if a2 = true then true else n == lim) = false := by
            simp only [not_or] at hy; simp [hy]
          simp [hne, hy, hy', setB]
theorem ok_R_Tries_Answer : SumOK Try.prog 50 S_R_Tries_Answer := by
  refine whole_R_Tries_Answer ?_
  intro a0 a1 a2 hp
  obtain ⟨lim, l, ⟨⟩⟩ := a0
  have hl : l.length = 8 := hp
  unfold W_R_Tries_Answer ansR busyR
  have hP : l.getD a1.toNat (false, false, false, ByteArray.empty, 0, ()) = proc (lim, l, ()) a1 := rfl
  simp only [condP_iff, rng]
  by_cases h : a1 < 0 ∨ 7 < a1
  · simp [h]
  · have hr : 0 ≤ a1 ∧ a1 ≤ 7 := by omega
    simp only [h, if_false, hP, List.set_set, getD_set8 hl hr.1 hr.2]
    generalize hq : proc (lim, l, ()) a1 = q
    obtain ⟨b, f, o, d, n, ⟨⟩⟩ := q
    cases b with
    | false => simp; omega
    | true =>
      cases o with
      | false => simp; omega
      | true =>
        cases a2 <;> simp <;> omega
theorem waitL_step {p : Int → Bool} {i : Int} {n : Nat} : waitL p i (n + 1) = (if p i = true then [i] else []) ++ waitL p (i + 1) n := rfl
theorem l_harq_Sender_Waiting_0 : LoopOK E_harq_Sender_Waiting 0 (loopAt (bodyOf Try.f51) 0) L_harq_Sender_Waiting_0 := I_harq_Sender_Waiting_0 <| by
  intro t5 r0 r1 K hp ho
  obtain ⟨h1, h2, h3⟩ := hp
  obtain ⟨lim, fl, bm, ⟨⟩⟩ := r0
  unfold B_harq_Sender_Waiting_0
  unfold o_harq_Sender_Waiting_0 at ho ⊢
  simp only [condP_iff, decide_eq_true_eq, decide_eq_false_iff_not, setO_getO] at ho ⊢
  refine ⟨fun hlt => ?_, fun hge => ?_⟩
  · have hf : waitS (lim, fl, bm, ()) t5 = (if ((getO bm t5).getD none).isSome = true then [t5] else []) ++ waitS (lim, fl, bm, ()) (t5 + 1) := by
      unfold waitS; rw [to8 h1 hlt, waitL_step]; rfl
    rw [hf] at ho
    rw [i64w (by omega)]
    refine ⟨trivial, fun h => ?_, fun h => ?_, fun h => ?_⟩
    · cases hg : getO bm t5 with
      | none => rfl
      | some y => rw [hg] at h; cases h
    · have h' : ((getO bm t5).getD none).isSome = true := by
        cases hx : (getO bm t5).getD none with
        | none => rw [hx] at h; cases h
        | some y => rfl
      rw [if_pos h', ← List.append_assoc] at ho
      refine ⟨by simp; omega, ⟨by omega, by omega, by simp; omega⟩, by unfold m_harq_Sender_Waiting_0; omega, ho⟩
    · have h' : ¬ ((getO bm t5).getD none).isSome = true := by
        cases hx : (getO bm t5).getD none with
        | none => simp
        | some y => rw [hx] at h; cases h
      rw [if_neg h', List.nil_append] at ho
      exact ⟨⟨by omega, by omega, by omega⟩, by unfold m_harq_Sender_Waiting_0; omega, ho⟩
  · have : waitS (lim, fl, bm, ()) t5 = [] := by unfold waitS; rw [show (8 - t5).toNat = 0 by omega]; rfl
    rw [this, List.append_nil] at ho; exact ho
theorem ok_harq_Sender_Waiting : SumOK Try.prog 51 S_harq_Sender_Waiting := by
  refine whole_harq_Sender_Waiting l_harq_Sender_Waiting_0 ?_
  intro a0 _
  unfold W_harq_Sender_Waiting p_harq_Sender_Waiting_0
  simp
theorem l_R_Tries_Waiting_0 : LoopOK E_R_Tries_Waiting 0 (loopAt (bodyOf Try.f52) 0) L_R_Tries_Waiting_0 := I_R_Tries_Waiting_0 <| by
  intro t4 r0 r1 K hp ho
  obtain ⟨h1, h2, h3⟩ := hp
  unfold B_R_Tries_Waiting_0
  unfold o_R_Tries_Waiting_0 at ho ⊢
  simp only [condP_iff, decide_eq_true_eq, decide_eq_false_iff_not] at ho ⊢
  refine ⟨fun hlt => ?_, fun hge => ?_⟩
  · have hf : waitR r0 t4 = (if (proc r0 t4).1 = true then [t4] else []) ++ waitR r0 (t4 + 1) := by
      unfold waitR; rw [to8 h1 hlt, waitL_step]
    rw [hf] at ho
    rw [i64w (by omega)]
    refine ⟨h1, hlt, fun h => ?_, fun h => ?_⟩
    · have h : (proc r0 t4).1 = true := h
      rw [if_pos h, ← List.append_assoc] at ho
      refine ⟨by simp; omega, ⟨by omega, by omega, by simp; omega⟩, by unfold m_R_Tries_Waiting_0; omega, ho⟩
    · have h : (proc r0 t4).1 = false := h
      rw [if_neg (by simp [h]), List.nil_append] at ho
      exact ⟨⟨by omega, by omega, by omega⟩, by unfold m_R_Tries_Waiting_0; omega, ho⟩
  · have : waitR r0 t4 = [] := by unfold waitR; rw [show (8 - t4).toNat = 0 by omega]; rfl
    rw [this, List.append_nil] at ho; exact ho
theorem ok_R_Tries_Waiting : SumOK Try.prog 52 S_R_Tries_Waiting := by
  refine whole_R_Tries_Waiting l_R_Tries_Waiting_0 ?_
  intro a0 _
  unfold W_R_Tries_Waiting p_R_Tries_Waiting_0
  simp
end Go.Spec
