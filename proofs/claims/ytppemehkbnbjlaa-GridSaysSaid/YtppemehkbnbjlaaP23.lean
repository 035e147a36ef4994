/- The law says yes: what was laid. -/
import Derived.Test.YtppemehkbnbjlaaP22
set_option linter.unusedVariables false
set_option linter.unusedSimpArgs false
namespace Go.Spec
open Go Go.Lift Go.Proofs
attribute [local irreducible] Go.Lift.awp Go.Lift.LoopOK Go.Lift.SumOK
theorem pilotP_of {t : Int} (h0 : 0 ≤ t) (h1 : t < 14) : pilotP t = if Int.tmod t 2 = 1 then (1, -1, ()) else (1, 1, ()) := by
  obtain ⟨n, rfl⟩ := Int.eq_ofNat_of_zero_le h0
  have : n < 14 := by omega
  have key : ∀ k : Fin 14, pilotP ((k.1 : Nat) : Int) = if Int.tmod ((k.1 : Nat) : Int) 2 = 1 then (1, -1, ()) else (1, 1, ()) := by decide +kernel
  exact key ⟨n, this⟩
theorem layQ_rows {g : GR} {parts : List PA} {l : RW} (h : layQ g parts l) : rowsOK l (tones g) := by
  obtain ⟨_, _, _, rfl⟩ := h
  exact layF_ok parts _ (baseR_ok g)
theorem layQ_pilot {g : GR} {parts : List PA} {l : RW} (h : layQ g parts l) {t tone : Int} (h0 : 0 ≤ t) (h1 : t < 14) (h2 : 0 ≤ tone) (h3 : tone < tones g) (hp : pilotB tone t = true) : getC l t tone = pilotP t := by
  obtain ⟨he, _, _, rfl⟩ := h
  rw [layF_free he h0 h2 (.inl hp) parts _ (baseR_ok g), baseR_get g h0 h1 h2 h3, if_pos hp]
theorem layQ_none {g : GR} {parts : List PA} {l : RW} (h : layQ g parts l) {t tone : Int} (h0 : 0 ≤ t) (h1 : t < 14) (h2 : 0 ≤ tone) (h3 : tone < tones g) (hp : pilotB tone t = false) (ho : ¬ (owner g tone t).2 > 0) : getC l t tone = pt0 := by
  obtain ⟨he, _, _, rfl⟩ := h
  rw [layF_free he h0 h2 (.inr ho) parts _ (baseR_ok g), baseR_get g h0 h1 h2 h3, if_neg (by simp [hp])]
theorem layQ_own {g : GR} {parts : List PA} {l : RW} (h : layQ g parts l) {t tone : Int} (h0 : 0 ≤ t) (h1 : t < 14) (h2 : 0 ≤ tone) (h3 : tone < tones g) (hp : pilotB tone t = false) (ho : (owner g tone t).2 > 0) :
    getC l t tone = lastPt (owner g tone t).1 (before g (owner g tone t).1 t tone).length parts pt0 := by
  obtain ⟨he, _, hm, rfl⟩ := h
  rw [layF_cell he h0 h1 h2 h3 hp ho parts _ (baseR_ok g) hm, baseR_get g h0 h1 h2 h3, if_neg (by simp [hp])]
theorem before_lt {g : GR} (he : gridErr g = 0) (w : Int) {t tone : Int} (h0 : 0 ≤ t) (h1 : t < 14) (h2 : 0 ≤ tone) (h3 : tone < tones g) : (before g w t tone).length + (cellR g w tone t).length ≤ (placesI g w).length := by
  rw [places_eq he, places_split g w h0 h1 h2 h3]
  simp only [List.length_append]; omega
theorem l_law_laid_0 : LoopOK E_law_laid 0 (loopAt (bodyOf Try.f36) 0) L_law_laid_0 := I_law_laid_0 <| by
  intro t1 t2 t3 t9 r0 K hp ho
  obtain ⟨hl, h1, h2, h3⟩ := hp
  have hb := hl.2.1
  rw [bigv] at hb
  have e1 : (t9 + 1).toNat = t9.toNat + 1 := by omega
  unfold B_law_laid_0
  unfold o_law_laid_0 at ho ⊢
  by_cases hlt : t9 < (t1.length : Int)
  · rw [condP_t (by simpa using hlt)]
    refine ⟨⟨hl, h1, hlt, by omega, by omega, by simp⟩, ?_⟩
    have hts := take_snoc t1 t9.toNat paZ (by omega)
    rw [condP_iff]
    refine ⟨fun hc => ?_, fun hc => ?_⟩
    · have hm := of_decide_eq_true hc
      have hd : dupB t1 = true := by
        cases hd : dupB t1 with
        | true => rfl
        | false =>
          exfalso
          have hn := (dup_iff _).1 hd
          have hn2 : ((t1.take (t9.toNat + 1)).map (·.1)).Nodup := List.Nodup.sublist ((List.take_sublist _ _).map _) hn
          rw [hts, List.map_append, List.nodup_append] at hn2
          exact hn2.2.2 _ hm _ (by simp) rfl
      rw [condP_t hd] at ho
      exact ho
    · have hm := of_decide_eq_false hc
      rw [w64 (by omega)]
      refine ⟨⟨hl, by omega, by omega, ?_⟩, by unfold m_law_laid_0; omega, ho⟩
      rw [e1, hts, List.map_append, List.nodup_append]
      refine ⟨h3, by simp, fun a ha b hb' => ?_⟩
      simp only [List.map_cons, List.map_nil, List.mem_singleton] at hb'
      rw [hb']; intro e; rw [e] at ha; exact hm ha
  · rw [condP_f (by simpa using hlt)]
    have : t1.take t9.toNat = t1 := List.take_of_length_le (by omega)
    rw [this] at h3
    rw [condP_f ((dup_iff _).2 h3)] at ho
    exact ho
theorem layP_dup {g : GR} {parts : List PA} {l : RW} {e : Int} (h : layP g parts l e) (hd : dupB parts = true) : l = [] ∧ e = 1 := by
  obtain ⟨he, _, h1, h2⟩ := h
  unfold layG at h1 h2
  rw [if_pos he, if_pos hd] at h1 h2
  exact ⟨h1, h2⟩
theorem layP_bad {g : GR} {parts : List PA} {l : RW} {e : Int} (h : layP g parts l e) (hd : dupB parts = false) (hm : matchB g parts = false) : l = [] ∧ e = 3 := by
  obtain ⟨he, _, h1, h2⟩ := h
  unfold layG at h1 h2
  rw [if_pos he, if_neg (by simp [hd]), layF_fst, if_neg (by simp [hm])] at h1 h2
  exact ⟨h1, h2⟩
theorem layP_good {g : GR} {parts : List PA} {l : RW} {e : Int} (h : layP g parts l e) (hd : dupB parts = false) (hm : matchB g parts = true) : layQ g parts l ∧ e = 0 := by
  obtain ⟨he, hb, h1, h2⟩ := h
  unfold layG at h1 h2
  rw [if_pos he, if_neg (by simp [hd]), layF_fst, if_pos hm] at h1 h2
  exact ⟨⟨he, hb, hm, h1⟩, h2⟩
theorem l_law_laid_2 : LoopOK E_law_laid 2 (loopAt (bodyOf Try.f36) 2) L_law_laid_2 := I_law_laid_2 <| by
  intro t1 t2 t3 t9 t10 r0 K hp ho
  obtain ⟨hl, h1, h2, h3, h4, h5⟩ := hp
  have hb := hl.2.1
  rw [bigv] at hb
  have e1 : (t10 + 1).toNat = t10.toNat + 1 := by omega
  unfold B_law_laid_2
  unfold o_law_laid_2 at ho ⊢
  by_cases hlt : t10 < t9
  · rw [condP_t (by simpa using hlt)]
    refine ⟨h1, h2, h3, by omega, ?_⟩
    have hts := take_snoc t1 t10.toNat paZ (by omega)
    rw [condP_iff]
    refine ⟨fun hc => ?_, fun hc => ?_⟩
    · have hc : (t1.getD t9.toNat paZ).1 = (t1.getD t10.toNat paZ).1 := by simpa using hc
      have hm : (t1.getD t9.toNat paZ).1 ∈ (t1.take t9.toNat).map (·.1) := by
        rw [hc, List.mem_map]
        refine ⟨t1.getD t10.toNat paZ, ?_, rfl⟩
        rw [List.mem_take_iff_getElem]
        refine ⟨t10.toNat, by omega, ?_⟩
        rw [List.getD_eq_getElem?_getD, List.getElem?_eq_getElem (by omega)]; rfl
      rw [condP_t (decide_eq_true hm)] at ho
      have hd : dupB t1 = true := by
        cases hd : dupB t1 with
        | true => rfl
        | false =>
          exfalso
          have hn := (dup_iff _).1 hd
          have hn2 : ((t1.take (t9.toNat + 1)).map (·.1)).Nodup := List.Nodup.sublist ((List.take_sublist _ _).map _) hn
          rw [take_snoc t1 t9.toNat paZ (by omega), List.map_append, List.nodup_append] at hn2
          exact hn2.2.2 _ hm _ (by simp) rfl
      obtain ⟨rfl, rfl⟩ := layP_dup hl hd
      exact ho
    · have hc : (t1.getD t9.toNat paZ).1 ≠ (t1.getD t10.toNat paZ).1 := by simpa using hc
      rw [w64 (by omega)]
      refine ⟨⟨hl, h1, h2, by omega, by omega, ?_⟩, by unfold m_law_laid_2; omega, ho⟩
      rw [e1, hts, List.map_append, List.mem_append]
      rintro (h | h)
      · exact h5 h
      · simp only [List.map_cons, List.map_nil, List.mem_singleton] at h; exact hc h
  · rw [condP_f (by simpa using hlt)]
    have : t10.toNat = t9.toNat := by omega
    rw [this] at h5
    rw [condP_f (decide_eq_false h5)] at ho
    exact ho
theorem l_law_laid_4 : LoopOK E_law_laid 4 (loopAt (bodyOf Try.f36) 4) L_law_laid_4 := I_law_laid_4 <| by
  intro t1 t2 t3 t11 r0 K hp ho
  obtain ⟨hl, hd, h1, h2⟩ := hp
  have hb := hl.2.1
  rw [bigv] at hb
  have e1 : (t11 + 1).toNat = t11.toNat + 1 := by omega
  unfold B_law_laid_4
  unfold o_law_laid_4 at ho ⊢
  by_cases hlt : t11 < (t1.length : Int)
  · rw [condP_t (by simpa using hlt)]
    refine ⟨h1, hlt, h1, hlt, err_gok hl.1, ?_⟩
    have hdr := drop_cons t1 t11.toNat paZ (by omega)
    have hmem := mem_getD paZ (show t11.toNat < t1.length by omega)
    rw [hdr] at ho
    simp only [matchB, List.all_cons] at ho
    rw [condP_iff]
    refine ⟨fun hc => ?_, fun hc => ?_⟩
    · have hc : ¬ (placesI r0 (t1.getD t11.toNat paZ).1).length = (t1.getD t11.toNat paZ).2.1.length := by
        rw [places_eq hl.1]
        intro e
        rw [e] at hc; simp at hc
      rw [decide_eq_false hc, Bool.false_and, condP_f rfl] at ho
      have hm : matchB r0 t1 = false := by
        cases hm : matchB r0 t1 with
        | false => rfl
        | true =>
          exfalso
          unfold matchB at hm
          exact hc (of_decide_eq_true (List.all_eq_true.1 hm _ hmem))
      obtain ⟨rfl, rfl⟩ := layP_bad hl hd hm
      exact ho
    · have hc : (placesI r0 (t1.getD t11.toNat paZ).1).length = (t1.getD t11.toNat paZ).2.1.length := by
        rw [places_eq hl.1]
        have := hc
        simp only [bne_eq_false_iff_eq, Int.natCast_inj] at this
        exact this.symm
      rw [decide_eq_true hc, Bool.true_and] at ho
      rw [w64 (by omega)]
      exact ⟨⟨hl, hd, by omega, by omega⟩, by unfold m_law_laid_4; omega, by rw [e1]; exact ho⟩
  · rw [condP_f (by simpa using hlt)]
    rw [List.drop_eq_nil_of_le (by omega), show matchB r0 [] = true from rfl, condP_t rfl] at ho
    exact ho
theorem l_law_laid_6 : LoopOK E_law_laid 6 (loopAt (bodyOf Try.f36) 6) L_law_laid_6 := I_law_laid_6 <| by
  intro t1 t2 t13 r0 r1 K hp ho
  obtain ⟨hl, h1, h2, hs⟩ := hp
  have hr := layQ_rows hl
  have hg := err_gok hl.1
  have hz := sizeB_iff.1 hg.1
  have ht := (tones_eq hg.1).1
  unfold B_law_laid_6
  unfold o_law_laid_6 at ho ⊢
  by_cases hlt : t13 < 14
  · rw [condP_t (by simpa using hlt)]
    have hrow := getD_row hr h1 hlt
    rw [w64 (n := 12 * r0.1) (by omega)]
    refine ⟨h1, by rw [hr.1]; exact hlt, ?_⟩
    rw [condP_f (by rw [hrow]; simp; omega)]
    refine ⟨⟨hl, h1, hlt, by omega, by omega, hs⟩, fun es' hs' => ?_⟩
    rw [w64 (by omega)]
    exact ⟨⟨hl, by omega, by omega, hs'⟩, by unfold m_law_laid_6; omega, ho⟩
  · rw [condP_f (by simpa using hlt)]
    exact ho
theorem l_law_laid_10 : LoopOK E_law_laid 10 (loopAt (bodyOf Try.f36) 10) L_law_laid_10 := I_law_laid_10 <| by
  intro t1 t2 t13 t14 t17 t19 r0 r1 r2 K hp ho
  obtain ⟨hl, h1, h2, h3, h4, ⟨es, rfl, hs⟩, how, rfl, hpi, h5, h6⟩ := hp
  have hb := hl.2.1
  rw [bigv] at hb
  have hg := err_gok hl.1
  have ht := (tones_eq hg.1).1
  have e1 : (t19 + 1).toNat = t19.toNat + 1 := by omega
  unfold B_law_laid_10
  unfold o_law_laid_10 at ho ⊢
  by_cases hlt : t19 < (t1.length : Int)
  · rw [condP_t (by simpa using hlt)]
    have hdr := drop_cons t1 t19.toNat paZ (by omega)
    have hmem := mem_getD paZ (show t19.toNat < t1.length by omega)
    rw [hdr] at ho
    simp only [lastPt] at ho
    have hget : (getO (some es) (owner r0 t14 t13).1).getD 0 = ((before r0 (owner r0 t14 t13).1 t13 t14).length : Int) := hs _
    rw [w64 (n := t19 + 1) (by omega), hget, e1]
    refine ⟨h5, hlt, ?_⟩
    rw [condP_iff]
    refine ⟨fun hc => ?_, fun hc => ?_⟩
    · have hc : (t1.getD t19.toNat paZ).1 = (owner r0 t14 t13).1 := by simpa using hc
      rw [if_pos hc] at ho
      have hm : (placesI r0 (t1.getD t19.toNat paZ).1).length = (t1.getD t19.toNat paZ).2.1.length := of_decide_eq_true (List.all_eq_true.1 hl.2.2.1 _ hmem)
      have hlt2 := before_lt hl.1 (owner r0 t14 t13).1 h1 h2 h3 (show t14 < tones r0 by omega)
      have hcell : (cellR r0 (owner r0 t14 t13).1 t14 t13).length = 1 := by unfold cellR; rw [if_pos ⟨how, rfl, hpi⟩]; rfl
      rw [hc] at hm
      refine ⟨h5, hlt, by omega, ?_, ⟨hl, h1, h2, h3, h4, ⟨es, rfl, hs⟩, how, rfl, hpi, by omega, by omega⟩, by unfold m_law_laid_10; omega, ?_⟩
      · show (_ : Int) < ((t1.getD t19.toNat paZ).2.1.length : Int)
        omega
      · rw [Int.toNat_natCast]; exact ho
    · have hc : ¬ (t1.getD t19.toNat paZ).1 = (owner r0 t14 t13).1 := by simpa using hc
      rw [if_neg hc] at ho
      exact ⟨⟨hl, h1, h2, h3, h4, ⟨es, rfl, hs⟩, how, rfl, hpi, by omega, by omega⟩, by unfold m_law_laid_10; omega, ho⟩
  · rw [condP_f (by simpa using hlt)]
    rw [List.drop_eq_nil_of_le (by omega)] at ho
    exact ho
theorem seen_skip {es : List (Int × Int)} {g : GR} {t tone : Int} (h0 : 0 ≤ tone) (h : ∀ w, (getE es w).getD 0 = ((before g w t tone).length : Int)) (hc : ∀ w, cellR g w tone t = []) : seenL (some es) g t (tone + 1) :=
  ⟨es, rfl, fun w => by rw [before_next g w h0, hc w, List.append_nil]; exact h w⟩
theorem l_law_laid_8 : LoopOK E_law_laid 8 (loopAt (bodyOf Try.f36) 8) L_law_laid_8 := I_law_laid_8 <| by
  intro t1 t2 t13 t14 r0 r1 K hp ho
  obtain ⟨hl, h1, h2, h3, h4, ⟨es, rfl, hs⟩⟩ := hp
  have hr := layQ_rows hl
  have hg := err_gok hl.1
  have hz := sizeB_iff.1 hg.1
  have ht := (tones_eq hg.1).1
  have hrow := getD_row hr h1 h2
  unfold B_law_laid_8
  unfold o_law_laid_8 at ho ⊢
  rw [w64 (n := 12 * r0.1) (by omega)]
  by_cases hlt : t14 < 12 * r0.1
  · rw [condP_t (by simpa using hlt)]
    have hw : IntKind.wrap .i64 (t14 + 1) = t14 + 1 := w64 (by omega)
    rw [hw]
    have h5 : t14 < (tones r0 : Int) := by omega
    have v2 : t13 < (t2.length : Int) := by rw [hr.1]; exact h2
    have v4 : t14 < ((t2.getD t13.toNat []).length : Int) := by rw [hrow]; exact h5
    have hgc : (t2.getD t13.toNat []).getD t14.toNat pt0 = getC t2 t13 t14 := rfl
    have cmp : ∀ x : PT, getC t2 t13 t14 = x → (!(((t2.getD t13.toNat []).getD t14.toNat ((0 : Int), (0 : Int), ())).1 == x.1 && (((t2.getD t13.toNat []).getD t14.toNat ((0 : Int), (0 : Int), ())).2.1 == x.2.1 && true))) = false := by
      intro x hx
      have := pt_beq (getC t2 t13 t14) x
      rw [decide_eq_true hx] at this
      have h9 : (((t2.getD t13.toNat []).getD t14.toNat ((0 : Int), (0 : Int), ())).1 == x.1 && (((t2.getD t13.toNat []).getD t14.toNat ((0 : Int), (0 : Int), ())).2.1 == x.2.1 && true)) = true := this
      rw [h9]; rfl
    refine ⟨trivial, ?_⟩
    have nextP : ∀ es', seenL (some es') r0 t13 (t14 + 1) → p_law_laid_8 t1 t2 t13 (t14 + 1) r0 (some es') ∧ m_law_laid_8 t1 t2 t13 (t14 + 1) r0 (some es') < m_law_laid_8 t1 t2 t13 t14 r0 (some es) :=
      fun es' hs' => ⟨⟨hl, h1, h2, by omega, by omega, hs'⟩, by unfold m_law_laid_8; omega⟩
    by_cases hp : pilotB t14 t13 = true
    · rw [condP_t hp]
      have hpc := layQ_pilot hl h1 h2 h3 h5 hp
      have hpp := pilotP_of h1 h2
      have hsk : seenL (some es) r0 t13 (t14 + 1) := seen_skip h3 hs fun w => by unfold cellR; rw [if_neg (fun h => by rw [hp] at h; exact absurd h.2.2 (by simp))]
      obtain ⟨n1, n2⟩ := nextP es hsk
      refine ⟨by decide, ?_⟩
      by_cases hodd : Int.tmod t13 2 = 1
      · rw [condP_t (by simpa using hodd)]
        rw [if_pos hodd] at hpp
        refine ⟨h1, v2, h3, v4, ?_⟩
        rw [condP_f (cmp (1, -1, ()) (hpc.trans hpp))]
        exact ⟨n1, n2, ho⟩
      · rw [condP_f (by simpa using hodd)]
        rw [if_neg hodd] at hpp
        refine ⟨h1, v2, h3, v4, ?_⟩
        rw [condP_f (cmp (1, 1, ()) (hpc.trans hpp))]
        exact ⟨n1, n2, ho⟩
    · have hp : pilotB t14 t13 = false := by simpa using hp
      rw [condP_f hp]
      refine ⟨hg, ?_⟩
      by_cases how : (owner r0 t14 t13).2 > 0
      · rw [condP_t (by simpa using how)]
        have hoc := layQ_own hl h1 h2 h3 h5 hp how
        have hget : (getO (some es) (owner r0 t14 t13).1).getD 0 = ((before r0 (owner r0 t14 t13).1 t13 t14).length : Int) := hs _
        have hlt2 := before_lt hl.1 (owner r0 t14 t13).1 h1 h2 h3 h5
        have hpl := places_len hg.1 (owner r0 t14 t13).1
        refine ⟨⟨hl, h1, h2, h3, hlt, ⟨es, rfl, hs⟩, how, rfl, hp, by omega, by omega⟩, rfl, h1, v2, h3, v4, ?_⟩
        rw [List.drop_zero, condP_f (cmp (lastPt (owner r0 t14 t13).1 (before r0 (owner r0 t14 t13).1 t13 t14).length t1 pt0) hoc), hget, w64 (n := ((before r0 (owner r0 t14 t13).1 t13 t14).length : Int) + 1) (by omega)]
        have hs' : seenL (putO (some es) (owner r0 t14 t13).1 (((before r0 (owner r0 t14 t13).1 t13 t14).length : Int) + 1)) r0 t13 (t14 + 1) := by
          refine ⟨_, rfl, fun w => ?_⟩
          rw [getE_putE, before_next r0 w h3, List.length_append]
          by_cases e : (owner r0 t14 t13).1 = w
          · rw [if_pos e]
            subst e
            unfold cellR; rw [if_pos ⟨how, rfl, hp⟩]; simp
          · rw [if_neg e, hs w]
            unfold cellR; rw [if_neg (fun h => e h.2.1)]; simp
        obtain ⟨n1, n2⟩ := nextP _ hs'
        exact ⟨n1, n2, ho⟩
      · rw [condP_f (by simpa using how)]
        have hnc := layQ_none hl h1 h2 h3 h5 hp how
        have hsk : seenL (some es) r0 t13 (t14 + 1) := seen_skip h3 hs fun w => by unfold cellR; rw [if_neg (fun h => how h.1)]
        obtain ⟨n1, n2⟩ := nextP es hsk
        refine ⟨h1, v2, h3, v4, ?_⟩
        rw [condP_f (cmp (0, 0, ()) hnc)]
        exact ⟨n1, n2, ho⟩
  · rw [condP_f (by simpa using hlt)]
    refine ho es ⟨es, rfl, fun w => ?_⟩
    have e : t14 = (tones r0 : Int) := by omega
    rw [hs w, e, before_row r0 w h1]
theorem ok_law_laid : SumOK Try.prog 36 S_law_laid := by
  refine whole_law_laid ok_R_PlacesOf ok_R_Pilot ok_R_Owner l_law_laid_0 l_law_laid_2 l_law_laid_4 l_law_laid_6 l_law_laid_8 l_law_laid_10 ?_
  intro a0 a1 a2 a3 hp
  have hp : layP a0 a1 a2 a3 := hp
  unfold W_law_laid
  refine ⟨⟨hp, by omega, by omega, by simp⟩, ?_⟩
  rw [condP_iff]
  refine ⟨fun _ => ⟨rfl, trivial⟩, fun hd => ⟨⟨hp, hd, by omega, by omega⟩, ?_⟩⟩
  rw [List.drop_zero, condP_iff]
  refine ⟨fun hm => ?_, fun _ => ⟨rfl, trivial⟩⟩
  obtain ⟨hq, rfl⟩ := layP_good hp hd hm
  rw [condP_f (by rw [(layQ_rows hq).1]; rfl)]
  exact ⟨⟨hq, by omega, by omega, [], rfl, fun w => by simp [getE, before, allG, rowG]⟩, rfl, trivial⟩
end Go.Spec
